/- Soundness of all the operations that leave memory as it is. -/
import Derived.Test.YtggeifnbllfmbaaDoorVm4
set_option linter.unusedSimpArgs false
namespace Go.Vm
variable {P : Program} {base : Nat} {w0 : World} {m nt : Nat} {F : Frz} {ρ : Env0} {env : Env} {a : Act} {w : World} {n : Nat} {tab : Tab} {sz : TypeId → Nat}

theorem run_underlying' {t : TypeId} {d : TypeDesc} (h : P.underlying t = some d) : (underlying t).run P w = .ok d w := by simp [underlying, h]

theorem fieldOf_sound (hT : tab.checks P = true) {t : TypeId} {f o : Nat} {ti : TI} (h : fieldOf tab t f = some (o, ti)) :
    ∃ fs fd, P.underlying t = some (.struct fs) ∧ fs[f]? = some fd ∧ fd.offset = o ∧ ti.Good P fd.type := by
  unfold fieldOf at h
  split at h
  · rename_i fs _ _ _ hg
    obtain ⟨d, hu, hf⟩ := (Tab.good hT hg).desc
    split at h
    · rename_i o' ft hfs
      simp only [Option.map_eq_some_iff, Prod.mk.injEq] at h
      obtain ⟨ti', ht, rfl, rfl⟩ := h
      cases d <;> simp only [TK.fits, Bool.false_eq_true, beq_iff_eq] at hf
      rename_i fds
      subst hf
      simp only [List.getElem?_map, Array.getElem?_toList, Option.map_eq_some_iff, Prod.mk.injEq] at hfs
      obtain ⟨fd, h1, h2, h3⟩ := hfs
      exact ⟨fds, fd, hu, h1, h2, h3 ▸ Tab.good hT ht⟩
    · simp at h
  · simp at h

theorem fieldAddr_sound (hT : tab.checks P = true) {t : TypeId} {x : AV} {f : Nat} {ob : Prop} {v : AV} {cv : Value} (h : fieldAddrAV tab t x f = some (ob, v)) (hob : ob)
    (hx : VRel sz F ρ n x cv) : Gives P sz F ρ n w (Instr.fieldAt t cv f) v := by
  unfold fieldAddrAV at h
  split at h
  · rename_i o ti e xs i off hf
    simp only [Option.some.injEq, Prod.mk.injEq] at h
    obtain ⟨h1, rfl⟩ := h
    subst h1
    obtain ⟨fs, fd, hu, h2, h3, hg⟩ := fieldOf_sound hT hf
    cases hx with
    | @fp _ _ _ _ cap ad hx hi =>
      refine ⟨.pointer (some ⟨ad.block, ad.off + (i * sz e + (off + o)), none⟩), ?_, .fp hx hi⟩
      simp only [Instr.fieldAt, Sem.run_bind, run_underlying' hu, Result.andThen_ok, h2, Instr.sureAddr, Sem.run_pure, fieldPlace, hg.run_sizeOf, if_neg hob, add_none, h3]
      congr 4; omega
  · rename_i o ti b e i off hf
    simp only [Option.some.injEq, Prod.mk.injEq] at h
    obtain ⟨h1, rfl⟩ := h
    subst h1
    obtain ⟨fs, fd, hu, h2, h3, hg⟩ := fieldOf_sound hT hf
    cases hx with
    | @ptr _ _ _ _ ad hb hl =>
      refine ⟨.pointer (some (ad.add o)), ?_, .ptr hb (fun B N h' => by rw [hl B N h', add_none, Nat.add_assoc])⟩
      simp only [Instr.fieldAt, Sem.run_bind, run_underlying' hu, Result.andThen_ok, h2, Instr.sureAddr, Sem.run_pure, fieldPlace, hg.run_sizeOf, if_neg hob, h3]
  · simp at h

/-- A part of a struct's value in a register. -/
theorem part_sound {t : TypeId} {ti : TI} (hg : ti.Good P t) {x : AV} {o : Nat} {vs : Array Value} (hx : VRel sz F ρ n x (.agg vs)) (hsz : o + ti.size ≤ x.cells.length)
    (hxa : (∃ cs, x = .d (.agg cs)) ∨ ∃ cs, x = .agg cs) :
    Gives P sz F ρ n w (part t vs o) (subAV ti.agg ti.size o x) := by
  obtain ⟨val, hvl, hv, hr⟩ : ∃ val : Nat → Value, vs.size = x.cells.length ∧ (∀ k c, x.cells[k]? = some c → vs[k]? = some (val k)) ∧ ∀ k c, x.cells[k]? = some c → VRel sz F ρ n c (val k) := by
    rcases hxa with ⟨cs, rfl⟩ | ⟨cs, rfl⟩
    · cases hx with | d hx => cases hx with
      | agg _ _ hs val hv hr =>
        refine ⟨val, by simp [AV.cells, D.cells, hs], fun k c hc => ?_, fun k c hc => ?_⟩ <;>
          simp only [AV.cells, D.cells, List.getElem?_map, Option.map_eq_some_iff] at hc <;> obtain ⟨c', hc', rfl⟩ := hc
        · exact hv k c' hc'
        · exact .d (hr k c' hc')
    · cases hx with
      | agg _ _ hs val hv hr => exact ⟨val, hs, hv, hr⟩
  have hall : ∀ j, j < ti.size → ∃ c, x.cells[o + j]? = some c ∧ VRel sz F ρ n c (val (o + j)) := fun j hj => by
    have hc' : x.cells[o + j]? = some (x.cells[o + j]'(by omega)) := List.getElem?_eq_getElem _
    exact ⟨_, hc', hr _ _ hc'⟩
  refine ⟨_, ?_, subAV_rel (val := fun j => val (o + j)) hg.one hsz hall⟩
  unfold part
  simp only [Sem.run_bind, hg.run_isAgg, Result.andThen_ok]
  cases hagg : ti.agg with
  | true =>
    simp only [if_true, Sem.run_bind, hg.run_sizeOf, Result.andThen_ok, Sem.run_pure]
    congr 2
    apply Array.ext
    · simp; omega
    · intro i h1 h2
      simp only [Array.size_extract] at h1
      have hlt : i < ti.size := by omega
      obtain ⟨c, hc, _⟩ := hall i hlt
      have := hv _ _ hc
      simp only [Array.getElem_extract]
      rw [Array.getElem?_eq_some_iff] at this
      obtain ⟨h3, h4⟩ := this
      rw [h4]
      simp
  | false =>
    have := hg.one hagg
    obtain ⟨c, hc, _⟩ := hall 0 (by omega)
    have := hv _ _ hc
    simp only [Nat.add_zero] at this
    simp [this]

theorem field_sound (hT : tab.checks P = true) {t : TypeId} {x : AV} {f : Nat} {ob : Prop} {v : AV} {cv : Value} (h : fieldAV tab t x f = some (ob, v)) (hob : ob)
    (hx : VRel sz F ρ n x cv) : Gives P sz F ρ n w (Instr.field t cv f) v := by
  unfold fieldAV at h
  split at h
  · rename_i o ti cs hf
    simp only [Option.some.injEq, Prod.mk.injEq] at h
    obtain ⟨h1, rfl⟩ := h
    subst h1
    obtain ⟨fs, fd, hu, h2, h3, hg⟩ := fieldOf_sound hT hf
    have hx' := hx
    cases hx with | d hx => cases hx with
    | agg _ vs hs val hv hr =>
      obtain ⟨cv, h4, h5⟩ := part_sound (P := P) (w := w) hg hx' (o := o) (by simpa [AV.cells, D.cells] using hob) (.inl ⟨cs, rfl⟩)
      refine ⟨cv, ?_, h5⟩
      simp only [Instr.field, Sem.run_bind, run_underlying' hu, Result.andThen_ok, h2, asAgg, Sem.run_pure, h3, h4]
  · rename_i o ti cs hf
    simp only [Option.some.injEq, Prod.mk.injEq] at h
    obtain ⟨h1, rfl⟩ := h
    subst h1
    obtain ⟨fs, fd, hu, h2, h3, hg⟩ := fieldOf_sound hT hf
    have hx' := hx
    cases hx with
    | agg _ vs hs val hv hr =>
      obtain ⟨cv, h4, h5⟩ := part_sound (P := P) (w := w) hg hx' (o := o) hob (.inr ⟨cs, rfl⟩)
      refine ⟨cv, ?_, h5⟩
      simp only [Instr.field, Sem.run_bind, run_underlying' hu, Result.andThen_ok, h2, asAgg, Sem.run_pure, h3, h4]
  · simp at h

theorem asI_sound {x : AV} {i : Int} {cv : Value} (h : asI x = some i) (hx : VRel sz F ρ n x cv) : ∃ k, cv = .int k i := by
  unfold asI at h
  split at h
  · cases h; exact ⟨_, hx.int_inv⟩
  · simp at h

theorem FRep.sl_inv {e : TypeId} {xs : List D} {v : Value} (h : FRep sz F (.sl e xs) v) : ∃ A cap, v = .slice A xs.length cap ∧ xs.length ≤ cap ∧ (xs ≠ [] → ∃ ad, A = some ad ∧ ad.spot = none) := by
  cases h with
  | sl _ _ A ad cap val hA hc hl hF hr ho => exact ⟨A, cap, rfl, hc, fun h => ⟨ad, (hA h).1, (hA h).2⟩⟩

theorem tk_sl {d : TypeDesc} {e : TypeId} (h : TK.fits d (.sl e) = true) : d = .slice e := by
  cases d <;> simp only [TK.fits, Bool.false_eq_true, beq_iff_eq] at h; rw [h]
theorem tk_arr {d : TypeDesc} {e : TypeId} {l : Nat} {b : Bool} (h : TK.fits d (.arr b l e) = true) : d = .array l e := by
  cases d <;> simp only [TK.fits, Bool.false_eq_true, beq_iff_eq, Bool.and_eq_true] at h; rw [h.1, h.2]
theorem tk_str {d : TypeDesc} (h : TK.fits d .str = true) : d = .string := by
  cases d <;> simp only [TK.fits, Bool.false_eq_true] at h; rfl
theorem tk_int {d : TypeDesc} {k : IntKind} (h : TK.fits d (.int k) = true) : d = .int k := by
  cases d <;> simp only [TK.fits, Bool.false_eq_true, beq_iff_eq] at h; rw [h]

theorem good_size (hT : tab.checks P = true) {e : TypeId} {te : TI} (h : tab.get e = some te) : psz P e = te.size := (Tab.good hT h).psz

theorem run_under (hT : tab.checks P = true) {t : TypeId} {k : TK} {s b : Nat} {z : List D} (h : tab.get t = some ⟨k, s, b, z⟩) : ∃ d, P.underlying t = some d ∧ TK.fits d k = true :=
  (Tab.good hT h).desc

theorem slOf_sound (hT : tab.checks P = true) {t e : TypeId} (h : slOf tab t = some e) : P.underlying t = some (.slice e) ∧ ∃ te : TI, tab.get e = some te ∧ te.Good P e := by
  unfold slOf at h
  split at h
  · rename_i e' _ _ _ hg
    simp only [Option.map_eq_some_iff] at h
    obtain ⟨te, h1, rfl⟩ := h
    obtain ⟨d, hu, hf⟩ := (Tab.good hT hg).desc
    exact ⟨by rw [hu, tk_sl hf], te, h1, Tab.good hT h1⟩
  · simp at h

theorem arrOf_sound (hT : tab.checks P = true) {t : TypeId} {l : Nat} {te : TI} (h : arrOf tab t = some (l, te)) : ∃ e, P.underlying t = some (.array l e) ∧ te.Good P e := by
  unfold arrOf at h
  split at h
  · rename_i l' e' _ _ _ hg
    simp only [Option.map_eq_some_iff, Prod.mk.injEq] at h
    obtain ⟨te, h1, rfl, rfl⟩ := h
    obtain ⟨d, hu, hf⟩ := (Tab.good hT hg).desc
    exact ⟨e', by rw [hu, tk_arr hf], Tab.good hT h1⟩
  · simp at h

theorem isStr_sound (hT : tab.checks P = true) {t : TypeId} (h : isStr tab t = true) : P.underlying t = some .string := by
  unfold isStr at h
  split at h
  · rename_i hg
    obtain ⟨d, hu, hf⟩ := (Tab.good hT hg).desc
    rw [hu, tk_str hf]
  · simp at h

theorem indexAddr_sound (hT : tab.checks P = true) {t : TypeId} {x i : AV} {ob : Prop} {v : AV} {cv ci : Value} (h : indexAddrAV tab t x i = some (ob, v)) (hob : ob)
    (hx : VRel (psz P) F ρ n x cv) (hi : VRel (psz P) F ρ n i ci) : Gives P (psz P) F ρ n w (Instr.indexAt t cv ci) v := by
  unfold indexAddrAV at h
  split at h
  · simp at h
  rename_i j hj
  obtain ⟨k, rfl⟩ := asI_sound hj hi
  split at h
  · rename_i e he
    obtain ⟨hu, te, _, hg⟩ := slOf_sound hT he
    split at h
    · rename_i e' xs
      simp only [Option.some.injEq, Prod.mk.injEq] at h
      obtain ⟨h1, rfl⟩ := h
      subst h1
      obtain ⟨rfl, h0, h1⟩ := hob
      have hrep := hx.d_inv
      obtain ⟨A, cap, rfl, hc, hA⟩ := hrep.sl_inv
      obtain ⟨ad, rfl, hs⟩ := hA (by intro h; subst h; simp at h1; omega)
      refine ⟨.pointer (some ⟨ad.block, ad.off + (j.toNat * psz P e' + 0), none⟩), ?_, .fp hrep (by omega)⟩
      simp only [Instr.indexAt, asIntOf, Sem.run_bind, Sem.run_pure, Result.andThen_ok, run_underlying' hu, h0, h1, and_self, if_true, hg.run_sizeOf, hg.psz, add_spot hs, Nat.add_zero]
    · rename_i b e' xs
      simp only [Option.some.injEq, Prod.mk.injEq] at h
      obtain ⟨h1, rfl⟩ := h
      subst h1
      obtain ⟨rfl, h0, h1⟩ := hob
      cases hx with
      | bl hb hrep hl hw' hcur =>
      obtain ⟨A, cap, rfl, hc, hA⟩ := hrep.sl_inv
      obtain ⟨ad, rfl, hs⟩ := hA (by intro h; subst h; simp at h1; omega)
      refine ⟨.pointer (some ⟨ad.block, ad.off + (j.toNat * psz P e' + 0), none⟩), ?_, .fp hrep (by omega)⟩
      simp only [Instr.indexAt, asIntOf, Sem.run_bind, Sem.run_pure, Result.andThen_ok, run_underlying' hu, h0, h1, and_self, if_true, hg.run_sizeOf, hg.psz, add_spot hs, Nat.add_zero]
    · rename_i b e' off len
      simp only [Option.some.injEq, Prod.mk.injEq] at h
      obtain ⟨h1, rfl⟩ := h
      subst h1
      obtain ⟨rfl, h0, h1⟩ := hob
      cases hx with
      | @ref _ _ _ _ cap A hb hA hl hc =>
      obtain ⟨ad, rfl⟩ := hA (by omega)
      refine ⟨.pointer (some (ad.add (j.toNat * psz P e'))), ?_, .ptr hb (fun B N h' => ?_)⟩
      · simp only [Instr.indexAt, asIntOf, Sem.run_bind, Sem.run_pure, Result.andThen_ok, run_underlying' hu, h0, h1, and_self, if_true, hg.run_sizeOf, hg.psz]
      · have := (hl B N h').1 (by omega)
        cases this
        rw [add_none, Nat.add_mul, Nat.add_zero]
    · simp at h
  · split at h
    · rename_i l te b e' i' off ha
      simp only [Option.some.injEq, Prod.mk.injEq] at h
      obtain ⟨h1, rfl⟩ := h
      subst h1
      obtain ⟨e, hu, hg⟩ := arrOf_sound hT ha
      cases hx with
      | @ptr _ _ _ _ ad hb hl =>
      refine ⟨.pointer (some (ad.add (j.toNat * te.size))), ?_, .ptr hb (fun B N h' => by rw [hl B N h', add_none, Nat.add_assoc])⟩
      simp only [Instr.indexAt, asIntOf, Sem.run_bind, Sem.run_pure, Result.andThen_ok, run_underlying' hu, Instr.sureAddr, hob.1, hob.2, and_self, if_true, hg.run_sizeOf]
    · rename_i l te e' xs i' off ha
      simp only [Option.some.injEq, Prod.mk.injEq] at h
      obtain ⟨h1, rfl⟩ := h
      subst h1
      obtain ⟨e, hu, hg⟩ := arrOf_sound hT ha
      cases hx with
      | @fp _ _ _ _ cap ad hx hi' =>
      refine ⟨.pointer (some ⟨ad.block, ad.off + (i' * psz P e' + (off + j.toNat * te.size)), none⟩), ?_, .fp hx hi'⟩
      simp only [Instr.indexAt, asIntOf, Sem.run_bind, Sem.run_pure, Result.andThen_ok, run_underlying' hu, Instr.sureAddr, hob.1, hob.2, and_self, if_true, hg.run_sizeOf, add_none]
      congr 4; omega
    · simp at h

theorem index_sound (hT : tab.checks P = true) {t : TypeId} {x i : AV} {ob : Prop} {v : AV} {cv ci : Value} (h : indexAV tab t x i = some (ob, v)) (hob : ob)
    (hx : VRel (psz P) F ρ n x cv) (hi : VRel (psz P) F ρ n i ci) : Gives P (psz P) F ρ n w (Instr.index t cv ci) v := by
  unfold indexAV at h
  split at h
  · simp at h
  rename_i j hj
  obtain ⟨k, rfl⟩ := asI_sound hj hi
  split at h
  · rename_i s
    split at h
    · rename_i hs
      simp only [Option.some.injEq, Prod.mk.injEq] at h
      obtain ⟨h1, rfl⟩ := h
      subst h1
      obtain ⟨h0, h1⟩ := hob
      have := hx.str_inv
      subst this
      have hlt : j.toNat < s.length := by omega
      refine ⟨.int .u8 (byteAt s j.toNat), ?_, rint _ _⟩
      have hget : (ByteArray.mk s.toArray)[j.toNat]? = some (s.getD j.toNat 0) := by
        rw [getElem?_pos (ByteArray.mk s.toArray) j.toNat (by show j.toNat < s.toArray.size; simpa using hlt)]
        show some (s.toArray[j.toNat]'_) = _
        simp [List.getD, List.getElem?_eq_getElem hlt]
      simp only [Instr.index, asIntOf, Sem.run_bind, Sem.run_pure, Result.andThen_ok, run_underlying' (isStr_sound hT hs), h0, if_true, hget, byteAt]
    · simp at h
  · rename_i cs
    simp only [Option.map_eq_some_iff, Prod.mk.injEq, Prod.exists] at h
    obtain ⟨l, te, ha, h1, rfl⟩ := h
    subst h1
    obtain ⟨h0, h1, h2⟩ := hob
    obtain ⟨e, hu, hg⟩ := arrOf_sound hT ha
    have hx' := hx
    cases hx with | d hx => cases hx with
    | agg _ vs hs val hv hr =>
      obtain ⟨cv, h4, h5⟩ := part_sound (P := P) (w := w) hg hx' (o := j.toNat * te.size) (by simpa [AV.cells, D.cells] using h2) (.inl ⟨cs, rfl⟩)
      refine ⟨cv, ?_, h5⟩
      simp only [Instr.index, asIntOf, Sem.run_bind, Sem.run_pure, Result.andThen_ok, run_underlying' hu, h0, h1, and_self, if_true, hg.run_sizeOf, h4]
  · rename_i cs
    simp only [Option.map_eq_some_iff, Prod.mk.injEq, Prod.exists] at h
    obtain ⟨l, te, ha, h1, rfl⟩ := h
    subst h1
    obtain ⟨h0, h1, h2⟩ := hob
    obtain ⟨e, hu, hg⟩ := arrOf_sound hT ha
    have hx' := hx
    cases hx with
    | agg _ vs hs val hv hr =>
      obtain ⟨cv, h4, h5⟩ := part_sound (P := P) (w := w) hg hx' (o := j.toNat * te.size) h2 (.inr ⟨cs, rfl⟩)
      refine ⟨cv, ?_, h5⟩
      simp only [Instr.index, asIntOf, Sem.run_bind, Sem.run_pure, Result.andThen_ok, run_underlying' hu, h0, h1, and_self, if_true, hg.run_sizeOf, h4]
  · simp at h

end Go.Vm
