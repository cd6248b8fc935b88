/- evH is sound. -/
import Derived.Test.YtggeifnbllfmbaaDoorVmQ
set_option linter.unusedSimpArgs false
namespace Go.Vm
variable {P : Program} {base : Nat} {w0 : World} {m nt : Nat} {F : Frz} {ρ : Env0} {env : Env} {a : Act} {w : World} {n : Nat} {tab : Tab} {h : List Blk}

/-- What comes of an operation that writes memory. -/
def Does (P : Program) (base : Nat) (w0 : World) (F : Frz) (ρ : Env0) (h : List Blk) (w : World) (s : Sem Next) (h' : List Blk) (v : AV) : Prop :=
  ∃ nx cv w' F' ρ', s.run P w = .ok nx w' ∧ (nx = .value cv ∨ (nx = .skip ∧ cv = undef)) ∧ Ext h.length F ρ F' ρ' ∧ St (psz P) base w0 F' ρ' h' w' ∧ VRel (psz P) F' ρ' h'.length v cv ∧ h.length ≤ h'.length

theorem does_value {s : Sem Value} {h' : List Blk} {v : AV} {cv : Value} {w' : World} {F' : Frz} {ρ' : Env0} (hrun : s.run P w = .ok cv w') (hx : Ext h.length F ρ F' ρ') (hst : St (psz P) base w0 F' ρ' h' w') (hv : VRel (psz P) F' ρ' h'.length v cv) (hl : h.length ≤ h'.length) :
    Does P base w0 F ρ h w (do Pure.pure (Next.value (← s))) h' v :=
  ⟨_, cv, w', F', ρ', by simp only [Sem.run_bind, hrun, Result.andThen_ok, Sem.run_pure], .inl rfl, hx, hst, hv, hl⟩

theorem undef_rel {sz : TypeId → Nat} : VRel sz F ρ n (.tup []) undef := .tup [] #[] rfl (fun _ => .nilIface) (by simp) (by simp)

theorem sl_empty' {sz : TypeId → Nat} (e : TypeId) (A : Option Addr) (c : Nat) : FRep sz F (.sl e []) (.slice A 0 c) :=
  .sl e [] A ⟨0, 0, none⟩ c (fun _ _ => .nilIface) (by simp) (by simp) (by simp) (by simp) (by simp) (by simp)

theorem ptr_new {sz : TypeId → Nat} {t : TypeId} {x : AV} : VRel sz F (upd ρ h.length (.mt w.heap.size 1)) (h ++ [Blk.cells t [x]]).length (.ptr h.length t 0 0) (.pointer (some ⟨w.heap.size, 0, none⟩)) := by
  refine .ptr (by simp) (fun B N hl => ?_)
  rw [upd_same] at hl
  cases hl
  simp

theorem isSrc_sound (hT : tab.checks P = true) {t : TypeId} (h : isSrc tab t = true) : ∃ d, P.underlying t = some d ∧ (∀ k, d ≠ .int k) ∧ (d = .string ∨ ∃ e, d = .slice e) := by
  simp only [isSrc, Bool.or_eq_true] at h
  rcases h with h | h
  · exact ⟨_, isStr_sound hT h, by simp, .inl rfl⟩
  · obtain ⟨e, he⟩ := Option.isSome_iff_exists.mp h
    exact ⟨_, (slOf_sound hT he).1, by simp, .inr ⟨e, rfl⟩⟩

theorem alloc_sound (hT : tab.checks P = true) (hst : St (psz P) base w0 F ρ h w) {t : TypeId} {ti : TI} (hti : tab.get t = some ti) :
    Does P base w0 F ρ h w (do Pure.pure (Next.value (← Instr.alloc t true (.tuple #[])))) (h ++ [.cells t [zeroAV ti]]) (.ptr h.length t 0 0) := by
  have hg := Tab.good hT hti
  obtain ⟨info, hi1, hi2, _, z, hz, hzc, hzp, hza⟩ := hg.info
  have hzl : z.cells.size = ti.size := by rw [← Array.length_toList, hzc]; simp [hg.zlen]
  have hrun : (Instr.alloc t true (.tuple #[])).run P w = .ok (.pointer (some ⟨w.heap.size, 0, none⟩)) (w.alloc (.cells z.cells t)) := by
    simp only [Instr.alloc, zeroValue, typeInfo, newVar, newRow, Sem.run_bind, run_program, hi1, hz, run_newObj, Result.andThen_ok, Sem.run_pure, World.alloc_eq]
  have hrow := zeros_row (F := F) (ρ := ρ) (n := h.length) hg hzc hzp 1
  have hcells : ((Array.range (1 * ti.size)).map (z.cells[· % z.cells.size]!)).toList = z.cells.toList := by
    apply List.ext_getElem?
    intro j
    by_cases hj : j < ti.size
    · have : j % z.cells.size = j := by rw [hzl, Nat.mod_eq_of_lt hj]
      have hj' : j < z.cells.size := by omega
      simp [hj, this, hj', getElem!_def]
    · rw [List.getElem?_eq_none (by simp; omega), List.getElem?_eq_none (by simp; omega)]
  rw [hcells] at hrow
  exact does_value hrun (Ext.upd _ _ _ _) (hst.new_mut (e0 := t) hrow (fun j v hj => by simpa using hj) (N := 1) (by simp) (by simp [hg.psz, hzl]) rfl) ptr_new (by simp)

theorem box_sound (hT : tab.checks P = true) (hst : St (psz P) base w0 F ρ h w) {t : TypeId} {ti : TI} (hti : tab.get t = some ti) {v : AV} {cv : Value} (hv : VRel (psz P) F ρ h.length v cv) (hok : okCells v ti.size) :
    Does P base w0 F ρ h w (do Pure.pure (Next.value (← Instr.box t cv))) (h ++ [.cells t [v]]) (.ptr h.length t 0 0) := by
  have hg := Tab.good hT hti
  obtain ⟨hsz, hcr⟩ := cells_rel hv hok
  have hrun : (Instr.box t cv).run P w = .ok (.pointer (some ⟨w.heap.size, 0, none⟩)) (w.alloc (.cells cv.cells t)) := by
    simp only [Instr.box, newVar, newRow, Sem.run_bind, run_newObj, Result.andThen_ok, Sem.run_pure, World.alloc_eq]
  exact does_value hrun (Ext.upd _ _ _ _) (hst.new_var (e := t) (e0 := t) (x := v) (cs := cv.cells) (by rw [hg.psz]; exact hok.1) (by rw [hg.psz, hsz]) rfl hcr) ptr_new (by simp)

theorem makeMap_sound (hst : St (psz P) base w0 F ρ h w) (t : TypeId) :
    Does P base w0 F ρ h w (do Pure.pure (Next.value (← Instr.makeMap t none))) (h ++ [.map []]) (.map h.length) := by
  have hrun : (Instr.makeMap t none).run P w = .ok (.map (some w.heap.size)) (w.alloc (.map #[] 0)) := by
    simp only [Instr.makeMap, Sem.run_bind, run_newObj, Result.andThen_ok, Sem.run_pure, World.alloc_eq]
  refine does_value hrun (Ext.upd _ _ _ (.obj w.heap.size)) (hst.push (.inl rfl) (Frz.le_refl _) (fun _ _ => rfl) (fun y v hy hyb => ?_) (fun y v hy => by have := frz_lt hst hy; omega) ?_) (.map (by simp) (upd_same _ _ _)) (by simp)
  · have := frz_lt hst hy; omega
  · exact ⟨w.heap.size, #[], upd_same _ _ _, hst.hb, heap_new _ _, rfl, fun i k x hi => by simp at hi⟩

theorem mapUpdate_sound (hT : tab.checks P = true) (hst : St (psz P) base w0 F ρ h w) {t kt : TypeId} {te : TI} {b : Nat} {kd : D} {v : AV} {es es' : List (D × AV)} {cm ck cv : Value} (hmo : mapOf tab t = some (kt, te))
    (hm : VRel (psz P) F ρ h.length (.map b) cm) (hk : FRep (psz P) F kd ck) (hv : VRel (psz P) F ρ h.length v cv) (hb : h[b]? = some (.map es)) (hko : keyOk tab kt kd = true) (hp : mapPut kd v es = some es') :
    Does P base w0 F ρ h w (do Instr.mapUpdate t cm ck cv; Pure.pure Next.skip) (h.set b (.map es')) (.tup []) := by
  obtain ⟨e, hu, hte⟩ := mapOf_sound hT hmo
  obtain ⟨d, hd, hck, hkey⟩ := keyOk_sound (w := w) hT hko hk
  obtain ⟨ro, m', h1, h2, h3, h4, h5⟩ := hst.blk b _ hb
  have hlt := (List.getElem?_eq_some_iff.mp hb).1
  have he : Ents (psz P) F ρ h.length es m'.toList := ⟨by simpa using h4, fun i k x hi => by
    obtain ⟨en, h6, h7, h8, h9⟩ := h5 i k x hi
    exact ⟨en, by simpa using h6, h8, h9⟩⟩
  have hgo : (getObj ro).run P w = .ok (.map m' m'.size) w := by simp only [getObj, Sem.run, h3]
  have hso : ∀ o, (setObj ro o).run P w = .ok () (setBlk w ro o) := fun o => by simp only [setObj, Sem.run, h3, setBlk]
  have hrl : ro < w.heap.size := (Array.getElem?_eq_some_iff.mp h3).1
  have hFn : ∀ y, y.block = ro → F y = none := fun y hy => by
    cases hF : F y with
    | none => rfl
    | some u =>
      have := hst.frz y u hF
      unfold World.cell? at this
      rw [hy, h3] at this
      cases this
  cases hm with
  | @map _ r' hbn hl =>
    rw [h1] at hl
    cases hl
    suffices ∃ m2, (Instr.mapUpdate t (.map (some ro)) ck cv).run P w = .ok () (setBlk w ro (.map m2 m2.size)) ∧ m2.size = es'.length ∧
        ∀ (i : Nat) (k : D) (x : AV), es'[i]? = some (k, x) → ∃ en : MapEntry, m2[i]? = some en ∧ en.born = i ∧ FRep (psz P) F k en.key ∧ VRel (psz P) F ρ h.length x en.val by
      obtain ⟨m2, hrun, h6, h7⟩ := this
      refine ⟨_, undef, setBlk w ro (.map m2 m2.size), F, ρ, by simp only [Sem.run_bind, hrun, Result.andThen_ok, Sem.run_pure], .inr ⟨rfl, rfl⟩, Ext.refl _ _ _, hst.rewrite hlt (.inr h1) h2 hFn ?_, undef_rel, by simp⟩
      exact ⟨ro, m2, h1, h2, by rw [setBlk_get, if_pos rfl, if_pos hrl], h6, h7⟩
    rcases put_sound hkey he hp with ⟨hf, rfl⟩ | ⟨i, cx, en, k', x', hf, hi, hen, hsb, hes, rfl⟩
    · refine ⟨m'.push { key := ck, val := cv, born := m'.size }, ?_, by simp [h4], fun i k x hi => ?_⟩
      · simp only [Instr.mapUpdate, Sem.run_bind, run_underlying' hu, Result.andThen_ok, hgo, hck, Instr.findKey, run_underlying' hd]
        rw [hf]
        simp only [Sem.run_bind, Sem.run_pure, Result.andThen_ok, hso, Array.size_push]
      · rcases Nat.lt_trichotomy i es.length with hl | hl | hl
        · rw [List.getElem?_append_left hl] at hi
          obtain ⟨en, h6, h7⟩ := h5 i k x hi
          refine ⟨en, ?_, h7⟩
          rw [Array.getElem?_push, if_neg (by omega)]
          exact h6
        · subst hl
          simp only [List.getElem?_append_right (Nat.le_refl _), Nat.sub_self, List.getElem?_cons_zero, Option.some.injEq, Prod.mk.injEq] at hi
          obtain ⟨rfl, rfl⟩ := hi
          exact ⟨_, by rw [← h4]; exact Array.getElem?_push_size, h4, hk, hv⟩
        · rw [List.getElem?_eq_none (by simp; omega)] at hi
          cases hi
    · have hia : m'[i]? = some en := by simpa using hi
      refine ⟨m'.modify i fun e => { e with key := ck, val := cv }, ?_, by simp [h4], fun j k x hj => ?_⟩
      · simp only [Instr.mapUpdate, Sem.run_bind, run_underlying' hu, Result.andThen_ok, hgo, hck, Instr.findKey, run_underlying' hd]
        rw [hf]
        simp only [Sem.run_bind, Sem.run_pure, Result.andThen_ok, hia, Option.map_some, Option.getD_some, Instr.keyThatStays, hsb, if_true, hso, Array.size_modify]
      · by_cases hij : j = i
        · subst hij
          rw [List.getElem?_set_self (List.getElem?_eq_some_iff.mp hes).1] at hj
          simp only [Option.some.injEq, Prod.mk.injEq] at hj
          obtain ⟨rfl, rfl⟩ := hj
          obtain ⟨en2, h6, h7, h8, h9⟩ := h5 j _ _ hes
          rw [hia] at h6
          cases h6
          exact ⟨{ en with key := ck, val := cv }, by rw [Array.getElem?_modify, if_pos rfl, hia]; rfl, h7, by rw [← hen]; exact h8, hv⟩
        · rw [List.getElem?_set_ne (Ne.symm hij)] at hj
          obtain ⟨en2, h6, h7⟩ := h5 j k x hj
          exact ⟨en2, by rw [Array.getElem?_modify, if_neg (Ne.symm hij)]; exact h6, h7⟩

theorem storeop_sound (hT : tab.checks P = true) (hst : St (psz P) base w0 F ρ h w) {t e e' : TypeId} {ti te : TI} {b i off : Nat} {v : AV} {cp cv : Value} {xs : List AV} (hti : tab.get t = some ti) (hte : tab.get e = some te)
    (hp : VRel (psz P) F ρ h.length (.ptr b e i off) cp) (hv : VRel (psz P) F ρ h.length v cv) (hb : h[b]? = some (.cells e' xs)) (hob : e' = e ∧ i < xs.length ∧ off + ti.size ≤ te.size ∧ okCells v ti.size) :
    Does P base w0 F ρ h w (do Instr.storeAt t cp cv; Pure.pure Next.skip) (h.set b (.cells e (xs.set i (putAV (ti.size == te.size) (xs.getD i .unk) off v)))) (.tup []) := by
  obtain ⟨rfl, hi, hk, hok⟩ := hob
  have hg := Tab.good hT hti
  have hte' := good_size hT hte
  have hx' : (putAV (ti.size == te.size) (xs.getD i .unk) off v).cells = setCells (xs.getD i .unk).cells off v.cells := by
    have hlen : (xs.getD i .unk).cells.length = te.size := by
      obtain ⟨B', N, c, e0, _, _, _, _, _, h6⟩ := hst.blk b _ hb
      have hxi : xs[i]? = some (xs.getD i .unk) := by simp [List.getD, List.getElem?_eq_getElem hi]
      rw [← hte']
      exact (h6 i _ hxi).1
    unfold putAV
    by_cases hw : ti.size = te.size
    · have h0 : off = 0 := by omega
      subst h0
      simp only [hw, beq_self_eq_true, if_true, setCells, List.take_zero, List.nil_append, Nat.zero_add]
      rw [List.drop_eq_nil_of_le (by rw [hlen, hok.1]; omega)]
      simp
    · have hne : (ti.size == te.size) = false := by simpa using hw
      rw [hne]
      simp only [Bool.false_eq_true, if_false]
      unfold AV.pack
      cases hds : AV.allD (setCells (xs.getD i .unk).cells off v.cells) with
      | none => rfl
      | some ds => rw [AV.allD_some hds]; rfl
  obtain ⟨w', hrun, hst'⟩ := store_sound (P := P) hst hg hb hp hi (by rw [hte']; exact hk) hv hok hx'
  exact ⟨.skip, undef, w', F, ρ, by simp only [Sem.run_bind, hrun, Result.andThen_ok, Sem.run_pure], .inr ⟨rfl, rfl⟩, Ext.refl _ _ _, hst', undef_rel, by simp⟩

theorem buildSlice_sound (hT : tab.checks P = true) (hr : Rel (psz P) base w0 m nt F ρ env a w) {mu : Bool} {t e : TypeId} {te : TI} {len : Nat} {parts : Array (Nat × Operand)} {ps : List (Nat × AV)} {ob : Prop} {h' : List Blk} {v : AV}
    (he : slOf tab t = some e) (hte : tab.get e = some te) (hps : partsAV env parts.toList = some ps)
    (hf : freshRow mu env.h e len (fillAV (List.replicate len (zeroAV te)) ps) (len * te.size ≤ 16777216 ∧ okParts len te.size ps) = some (ob, h', v)) (hob : ob) :
    Does P base w0 F ρ env.h w (do Pure.pure (Next.value (← Instr.buildSlice t len (parts.map fun (i, x) => (i, a.eval x))))) h' v := by
  have hg := Tab.good hT hte
  obtain ⟨info, hi1, hi2, _, z, hz, hzc, hzp, hza⟩ := hg.info
  have hob' : len * te.size ≤ 16777216 ∧ okParts len te.size ps := by
    unfold freshRow at hf
    split at hf
    · simp only [Option.some.injEq, Prod.mk.injEq] at hf; rw [hf.1]; exact hob
    · split at hf
      · simp only [Option.some.injEq, Prod.mk.injEq] at hf; rw [hf.1]; exact hob
      · simp at hf
  obtain ⟨hlen, hparts⟩ := hob'
  rw [okParts_iff] at hparts
  obtain ⟨h1, h2⟩ := parts_sound hr hps
  have hrow := zeros_row (F := F) (ρ := ρ) (n := env.h.length) hg hzc hzp len
  obtain ⟨c', h3, h4⟩ := fill_sound (pvs := parts.toList.map fun p => (p.1, a.eval p.2)) hrow (by simp [h1]) h2 (fun p hp => ⟨by simpa using (hparts p hp).1, by rw [hg.psz]; exact (hparts p hp).2⟩)
  have hu := (slOf_sound hT he).1
  have hfl : (fillAV (List.replicate len (zeroAV te)) ps).length = len := by rw [fillAV_length]; simp
  have hcsz : c'.size = len * psz P e := by have := h4.1; rw [hfl] at this; simpa using this
  have hrun : (Instr.buildSlice t len (parts.map fun (i, x) => (i, a.eval x))).run P w = .ok (.slice (some ⟨w.heap.size, 0, none⟩) len len) (w.alloc (.cells c' e)) := by
    have hlist : (parts.map fun (i, x) => (i, a.eval x)).toList = parts.toList.map fun p => (p.1, a.eval p.2) := by simp
    have hle : ¬ (len * te.size > 2 ^ 24) := by omega
    simp only [Instr.buildSlice, Sem.run_bind, run_underlying' hu, Result.andThen_ok, hg.run_sizeOf, if_neg hle, hlist]
    rw [hg.psz] at h3
    by_cases h0 : len * te.size = 0
    · rw [if_pos h0]
      have e0 : ((Array.range (len * te.size)).map fun x => (#[] : Array Value)[x % (#[] : Array Value).size]!) = (Array.range (len * te.size)).map (z.cells[· % z.cells.size]!) := by rw [h0]; simp
      rw [pure_bind, e0, h3]
      simp only [newRow, Sem.run_bind, run_newObj, Result.andThen_ok, Sem.run_pure, World.alloc_eq]
    · rw [if_neg h0]
      simp only [zeroValue, typeInfo, Sem.run_bind, run_program, hi1, hz, Result.andThen_ok, Sem.run_pure]
      rw [h3]
      simp only [newRow, Sem.run_bind, run_newObj, Result.andThen_ok, Sem.run_pure, World.alloc_eq]
  obtain ⟨_, F', ρ', hx, hst', hv', hl⟩ := fresh_sound (e0 := e) (cap := len) hr.st hf hfl h4 (fun j v hj => by simpa using hj) (Nat.le_refl _) (by rw [hcsz]) rfl
  exact does_value hrun hx hst' hv' hl

theorem makeSlice_sound (hT : tab.checks P = true) (hr : Rel (psz P) base w0 m nt F ρ env a w) {mu : Bool} {t e : TypeId} {te : TI} {i k : Int} {ki kk : IntKind} {ob : Prop} {h' : List Blk} {v : AV}
    (he : slOf tab t = some e) (hte : tab.get e = some te) 
    (hf : freshRow mu env.h e i.toNat (List.replicate i.toNat (zeroAV te)) (0 ≤ i ∧ i ≤ k ∧ te.bytes * k ≤ 281474976710656 ∧ k ≤ 9223372036854775807) = some (ob, h', v)) (hob : ob) :
    Does P base w0 F ρ env.h w (do Pure.pure (Next.value (← Instr.makeSlice t (.int ki i) (.int kk k)))) h' v := by
  have hg := Tab.good hT hte
  obtain ⟨info, hi1, hi2, hi3, z, hz, hzc, hzp, hza⟩ := hg.info
  have hob' : 0 ≤ i ∧ i ≤ k ∧ te.bytes * k ≤ 281474976710656 ∧ k ≤ 9223372036854775807 := by
    unfold freshRow at hf
    split at hf
    · simp only [Option.some.injEq, Prod.mk.injEq] at hf; rw [hf.1]; exact hob
    · split at hf
      · simp only [Option.some.injEq, Prod.mk.injEq] at hf; rw [hf.1]; exact hob
      · simp at hf
  obtain ⟨h0, h1, h2, h3⟩ := hob'
  have wr : ∀ x : Int, 0 ≤ x → x ≤ 9223372036854775807 → IntKind.i64.wrap x = x := fun x hx0 hx1 => IntWalk.i64_in _ (by omega)
  have hu := (slOf_sound hT he).1
  have hsz : ((Array.range (k.toNat * te.size)).map (z.cells[· % z.cells.size]!)).size = k.toNat * te.size := by simp
  have hrow := zeros_row (F := F) (ρ := ρ) (n := env.h.length) hg hzc hzp i.toNat
  have hrun : (Instr.makeSlice t (.int ki i) (.int kk k)).run P w = .ok (.slice (some ⟨w.heap.size, 0, none⟩) i.toNat k.toNat) (w.alloc (.cells ((Array.range (k.toNat * te.size)).map (z.cells[· % z.cells.size]!)) e)) := by
    have c1 : ¬ (((decide (k < 0) || decide ((info.bytes : Int) * k > 2 ^ 48)) || decide (i < 0) || decide (i > k)) = true) := by
      rw [hi3]
      simp only [Bool.or_eq_true, decide_eq_true_eq, not_or]
      omega
    simp only [Instr.makeSlice, asInt, asIntOf, typeInfo, Sem.run_bind, run_underlying' hu, run_program, hi1, Sem.run_pure, Result.andThen_ok, wr i h0 (by omega), wr k (by omega) h3, if_neg c1, run_askRoom, hg.run_sizeOf]
    by_cases hz0 : k.toNat * te.size = 0
    · rw [if_pos hz0]
      have e0 : ((Array.range (k.toNat * te.size)).map fun x => (#[] : Array Value)[x % (#[] : Array Value).size]!) = (Array.range (k.toNat * te.size)).map (z.cells[· % z.cells.size]!) := by rw [hz0]; simp
      rw [pure_bind, e0]
      simp only [newRow, Sem.run_bind, run_newObj, Result.andThen_ok, Sem.run_pure, World.alloc_eq]
    · rw [if_neg hz0]
      simp only [zeroValue, typeInfo, Sem.run_bind, run_program, hi1, hz, Result.andThen_ok, Sem.run_pure, newRow, run_newObj, World.alloc_eq]
  obtain ⟨_, F', ρ', hx, hst', hv', hl⟩ := fresh_sound (e0 := e) (cap := k.toNat) hr.st hf (by simp) hrow (cs := (Array.range (k.toNat * te.size)).map (z.cells[· % z.cells.size]!)) (fun j v hj => by
    rw [Array.getElem?_toList] at hj
    have hlt := (Array.getElem?_eq_some_iff.mp hj).1
    simp only [Array.size_map, Array.size_range] at hlt
    have hle : i.toNat * te.size ≤ k.toNat * te.size := Nat.mul_le_mul_right _ (by omega)
    rw [Array.getElem?_map] at hj ⊢
    rw [Array.getElem?_range] at hj ⊢
    rw [if_pos hlt] at hj
    rw [if_pos (by omega)]
    exact hj) (by omega) (by rw [hsz, hg.psz]) rfl
  exact does_value hrun hx hst' hv' hl

theorem ARow.mono {sz : TypeId → Nat} {F' : Frz} {ρ' : Env0} {n' : Nat} {e : TypeId} {xs : List AV} {vs : List Value} (h : ARow sz F ρ n e xs vs) (hx : Ext n F ρ F' ρ') (hn : n ≤ n') : ARow sz F' ρ' n' e xs vs :=
  ⟨h.1, fun i x hi => ⟨(h.2 i x hi).1, fun k y hk => by obtain ⟨v, h1, h2, h3⟩ := (h.2 i x hi).2 k y hk; exact ⟨v, h1, h2.mono hx hn, h3⟩⟩⟩

theorem ARow.append {sz : TypeId → Nat} {e : TypeId} {xs ys : List AV} {vs us : List Value} (h : ARow sz F ρ n e xs vs) (h' : ARow sz F ρ n e ys us) : ARow sz F ρ n e (xs ++ ys) (vs ++ us) := by
  refine ⟨by rw [List.length_append, List.length_append, h.1, h'.1, Nat.add_mul], fun i x hi => ?_⟩
  by_cases hlt : i < xs.length
  · rw [List.getElem?_append_left hlt] at hi
    obtain ⟨h1, h2⟩ := h.2 i x hi
    refine ⟨h1, fun k y hk => ?_⟩
    obtain ⟨v, h3, h4⟩ := h2 k y hk
    exact ⟨v, by rw [List.getElem?_append_left (List.getElem?_eq_some_iff.mp h3).1]; exact h3, h4⟩
  · rw [List.getElem?_append_right (by omega)] at hi
    obtain ⟨h1, h2⟩ := h'.2 _ x hi
    refine ⟨h1, fun k y hk => ?_⟩
    obtain ⟨v, h3, h4⟩ := h2 k y hk
    have hm : xs.length * sz e + (i - xs.length) * sz e = i * sz e := by rw [← Nat.add_mul]; congr 1; omega
    refine ⟨v, ?_, h4⟩
    rw [List.getElem?_append_right (by rw [h.1]; omega), h.1, ← h3]
    congr 1; omega

/-- A block whose row is known. -/
theorem blk_of_row {sz : TypeId → Nat} {b B N : Nat} {e e0 : TypeId} {xs : List AV} {c : Array Value} {vs : List Value} (hl : ρ b = .mt B N) (hB : base ≤ B) (hh : w.heap[B]? = some (.cells c e0 (0, 0))) (hF : ∀ a, a.block = B → F a = none)
    (hN : xs.length ≤ N) (hsz : N * sz e = c.size ∧ e0 = e) (hr : ARow sz F ρ n e xs vs) (hc : ∀ (j : Nat) (v : Value), vs[j]? = some v → c[j]? = some v) : BlkRel sz base F ρ n w b (.cells e xs) :=
  ⟨B, N, c, e0, hl, hB, hh, hF, ⟨hN, hsz⟩, fun i x hi => ⟨(hr.2 i x hi).1, fun k y hk => by obtain ⟨v, h1, h2, h3⟩ := (hr.2 i x hi).2 k y hk; exact ⟨v, hc _ _ h1, h2, h3⟩⟩⟩

/-- append to a row that may be written: the row gets a new name. -/
theorem append_ref (hst : St (psz P) base w0 F ρ h w) {t t2 ty e : TypeId} {te : TI} (hg : te.Good P e) (hu : P.underlying t = some (.slice e)) {d2 : TypeDesc} (hu2 : P.underlying t2 = some d2) (hd2 : ∀ k, d2 ≠ .int k)
    {b len : Nat} {xs : List AV} {ys : List D} {cs cx : Value} (hb : h[b]? = some (.cells e xs)) (hlx : len ≤ xs.length) (hs : VRel (psz P) F ρ h.length (.ref b e 0 len) cs)
    (hsrc : (Builtin.lenOf cx).run P w = .ok ys.length w ∧ (∀ y ∈ ys, y.cells.length = psz P e) ∧ ∃ vs, RowRep (psz P) F (flatD ys) vs ∧
      ∀ w2 : World, (∀ y, w2.cell? y = w.cell? y) → (Builtin.firstCells te.size ys.length cx).run P w2 = .ok vs.toArray w2)
    (hfit : (len + ys.length) * te.bytes ≤ 140737488355328) (hb1 : 1 ≤ te.bytes) :
    Does P base w0 F ρ h w (do Pure.pure (Next.value (← Builtin.append_ #[t, t2] ty #[cs, cx]))) (h.set b .gone ++ [.cells e (xs.take len ++ ys.map AV.d)]) (.ref h.length e 0 (len + ys.length)) := by
  obtain ⟨h3, h4, vs, h5, h6⟩ := hsrc
  have hlt := (List.getElem?_eq_some_iff.mp hb).1
  obtain ⟨B, N, c, e0, hl, hB, hh, hF, ⟨hN, hsz⟩, hcells⟩ := hst.blk b _ hb
  have hvl : vs.length = ys.length * psz P e := by rw [h5.1, flatD_length h4]
  have hle0 : len + ys.length ≤ (len + ys.length) * te.bytes := Nat.le_mul_of_pos_right _ hb1
  cases hs with
  | @ref _ _ _ _ cap A hbn hA0 hlA hcap =>
  obtain ⟨hA, hoN⟩ := hlA B N hl
  rw [Nat.zero_add] at hoN
  rw [Nat.zero_mul] at hA
  have hNs : cap * psz P e ≤ N * psz P e := Nat.mul_le_mul_right _ hoN
  have hls : len * psz P e ≤ cap * psz P e := Nat.mul_le_mul_right _ hcap
  -- the old elements' cells
  have hold : ARow (psz P) F ρ h.length e (xs.take len) ((List.range (len * psz P e)).map fun j => (c[j]?).getD .nilIface) := by
    refine ⟨by simp [Nat.min_eq_left hlx], fun i x hi => ?_⟩
    have hil : i < len := by have := (List.getElem?_eq_some_iff.mp hi).1; simp at this; omega
    rw [List.getElem?_take_of_lt hil] at hi
    obtain ⟨h7, h8⟩ := hcells i x hi
    refine ⟨h7, fun k y hk => ?_⟩
    obtain ⟨v, h9, h10⟩ := h8 k y hk
    have hk' := (List.getElem?_eq_some_iff.mp hk).1
    have : (i + 1) * psz P e ≤ len * psz P e := Nat.mul_le_mul_right _ hil
    rw [Nat.add_mul] at this
    have hj : i * psz P e + k < len * psz P e := by omega
    exact ⟨v, by simp [hj, h9], h10⟩
  have holdc : ∀ (j : Nat) (v : Value), ((List.range (len * psz P e)).map fun j => (c[j]?).getD .nilIface)[j]? = some v → c[j]? = some v := by
    intro j v hj
    have hjl := (List.getElem?_eq_some_iff.mp hj).1
    simp at hjl
    have hjc : j < c.size := by omega
    simp [hjl] at hj
    simp only [hjc, getElem?_pos, Option.getD_some] at hj
    simp [hjc, hj]
  have hnew : ARow (psz P) F ρ h.length e (ys.map AV.d) vs := ARow.of_rows h4 h5
  have hrow := hold.append hnew
  by_cases hin : len + ys.length ≤ cap
  · -- in place
    have hmul : (len + ys.length) * psz P e ≤ cap * psz P e := Nat.mul_le_mul_right _ hin
    rw [Nat.add_mul] at hmul
    by_cases hc0 : cap = 0
    · have hy0 : ys = [] := List.eq_nil_of_length_eq_zero (by omega)
      have hl0 : len = 0 := by omega
      subst hy0 hl0 hc0
      have hv0 : vs = [] := List.eq_nil_of_length_eq_zero (by rw [hvl]; simp)
      subst hv0
      have hrun := append_in (ty := ty) (t2 := t2) (base' := A) (sLen := 0) (sCap := 0) (w := w) (w' := w) hg hu hu2 hd2 h3 (by simp) (h6 w (fun _ => rfl)) (fun ad _ => by simp [storeCells]) (fun _ => rfl)
      obtain ⟨h7, h8⟩ := hst.rename (xs := []) hl hlt ⟨B, N, c, e0, hl, hB, hh, hF, ⟨by simp, hsz⟩, by simp⟩
      refine does_value hrun h8 (by simpa using h7) (.ref (by simp) (fun h => absurd rfl h) (fun B' N' hl' => ?_) (by simp)) (by simp)
      exact ⟨fun h => absurd rfl h, by simp⟩
    · obtain rfl := hA hc0
      have hlB : B < w.heap.size := (Array.getElem?_eq_some_iff.mp hh).1
      have hsto : (storeCells ((⟨B, 0, none⟩ : Addr).add (len * te.size)) vs).run P w = .ok () (setBlk w B (.cells (writeAll c (len * psz P e) vs) e0 (0, 0))) := by
        rw [add_none, ← hg.psz]
        have := storeCells_run (P := P) (B := B) (o := len * psz P e) (e0 := e0) vs 0 c w hh (by rw [hvl]; omega) h5.one
        simpa using this
      have hrun := append_in (ty := ty) (t2 := t2) (base' := some ⟨B, 0, none⟩) (sLen := len) (sCap := cap) (w := w) hg hu hu2 hd2 h3 hin (h6 w (fun _ => rfl)) (fun ad' e => by cases e; exact hsto) (fun e => by cases e)
      have hblk : BlkRel (psz P) base F ρ h.length (setBlk w B (.cells (writeAll c (len * psz P e) vs) e0 (0, 0))) b (.cells e (xs.take len ++ ys.map AV.d)) := by
        refine blk_of_row (c := writeAll c (len * psz P e) vs) (e0 := e0) hl hB (by rw [setBlk_get]; simp [hlB]) hF (by simp; omega) (by rw [writeAll_size]; exact hsz) hrow (fun j v hj => ?_)
        rw [writeAll_get c _ _ (by rw [hvl]; omega)]
        have hlo : ((List.range (len * psz P e)).map fun j => (c[j]?).getD .nilIface).length = len * psz P e := by simp
        by_cases hjl : j < len * psz P e
        · rw [if_neg (by omega)]
          rw [List.getElem?_append_left (by rw [hlo]; exact hjl)] at hj
          exact holdc j v hj
        · rw [List.getElem?_append_right (by rw [hlo]; omega), hlo] at hj
          have := (List.getElem?_eq_some_iff.mp hj).1
          rw [if_pos (by omega)]
          exact hj
      have hst1 := hst.rewrite hlt (.inl ⟨N, hl⟩) hB hF hblk
      obtain ⟨h7, h8⟩ := hst1.rename (xs := xs.take len ++ ys.map AV.d) hl (by simpa using hlt) (by simpa using hblk)
      simp only [List.length_set, List.set_set] at h7 h8
      refine does_value hrun h8 h7 (.ref (by simp) (fun _ => ⟨_, rfl⟩) (fun B' N' hl' => ?_) hin) (by simp)
      rw [upd_same] at hl'
      cases hl'
      exact ⟨fun _ => by rw [Nat.zero_mul], by omega⟩
  · have hA1 : len ≠ 0 → A = some ⟨B, 0, none⟩ := fun hne => hA (by omega)
    obtain ⟨cap', ca, h7, h8, h9, h10⟩ := append_new (ty := ty) (t2 := t2) (base' := A) (sLen := len) (sCap := cap) (olds := (List.range (len * psz P e)).map fun j => (c[j]?).getD .nilIface) (news := vs) (w := w) hg hu hu2 hd2 h3 (by omega) (fun w2 hw2 => by
      by_cases hl0 : len = 0
      · subst hl0
        cases A with
        | none => simp [Builtin.firstCells]
        | some ad => simp [Builtin.firstCells, loadCells, loadCellsFrom]
      · obtain rfl := hA1 hl0
        simp only [Builtin.firstCells]
        have hlo : ((List.range (len * psz P e)).map fun j => (c[j]?).getD .nilIface).length = len * te.size := by simp [hg.psz]
        rw [← hlo]
        exact loadCells_vs rfl (fun j v hj => by rw [hw2]; simp only [World.cell?, hh, Nat.zero_add]; exact holdc j v hj)) h6 (by simp [hg.psz]) (by rw [hvl, hg.psz]) hfit (by omega)
    obtain ⟨hk1, hk2⟩ := hst.kill hl hlt
    have := hk1.drew.new_mut (e := e) (e0 := e) (xs := xs.take len ++ ys.map AV.d) (by simpa using hrow.mono hk2 (Nat.le_refl _)) h9 (N := cap') (by simp; omega) (by rw [hg.psz]; exact h8) rfl
    simp only [List.length_set] at this
    refine does_value h10 (hk2.trans (Ext.upd _ _ _ _)) this (.ref (by simp) (fun _ => ⟨_, rfl⟩) (fun B' N' hl' => ?_) h7) (by simp)
    rw [upd_same] at hl'
    cases hl'
    exact ⟨fun _ => by rw [Nat.zero_mul]; rfl, by omega⟩

theorem append_sound (hT : tab.checks P = true) (hr : Rel (psz P) base w0 m nt F ρ env a w) {mu : Bool} {t t2 ty e : TypeId} {te : TI} {sv xv v : AV} {cs cx : Value} {ob ob' : Prop} {ys : List D} {h' : List Blk}
    (he : slOf tab t = some e) (h2 : isSrc tab t2 = true) (hte : tab.get e = some te) (hs : VRel (psz P) F ρ env.h.length sv cs) (hx : VRel (psz P) F ρ env.h.length xv cx) (hsrc : srcOf e te.size env.h xv = some (ob, ys))
    (hf : appAV mu env.h e te.bytes sv ob ys = some (ob', h', v)) (hob : ob') :
    Does P base w0 F ρ env.h w (do Pure.pure (Next.value (← Builtin.append_ #[t, t2] ty #[cs, cx]))) h' v := by
  have hg := Tab.good hT hte
  have hu := (slOf_sound hT he).1
  obtain ⟨d2, hu2, hd2, hd2'⟩ := isSrc_sound hT h2
  have hsrc' : srcOf e (psz P e) env.h xv = some (ob, ys) := by rw [hg.psz]; exact hsrc
  have src : ob → (Builtin.lenOf cx).run P w = .ok ys.length w ∧ (∀ y ∈ ys, y.cells.length = psz P e) ∧ ∃ vs, RowRep (psz P) F (flatD ys) vs ∧
      ∀ w2 : World, (∀ y, w2.cell? y = w.cell? y) → (Builtin.firstCells te.size ys.length cx).run P w2 = .ok vs.toArray w2 := by
    intro ho
    have := src_sound (P := P) hr.st hsrc' ho hx
    rw [hg.psz] at this ⊢
    exact this
  -- a first row: there is nothing yet
  have first : ∀ (A : Option Addr), cs = .slice A 0 0 → ob → ys.length * te.bytes ≤ 140737488355328 → 1 ≤ te.bytes → ys ≠ [] →
      ∃ cap ca, ys.length ≤ cap ∧ cap * psz P e = ca.size ∧ (∀ y ∈ ys, y.cells.length = psz P e) ∧ (∃ vs, RowRep (psz P) F (flatD ys) vs ∧ ∀ (j : Nat) (v : Value), vs[j]? = some v → ca[j]? = some v) ∧
        (Builtin.append_ #[t, t2] ty #[cs, cx]).run P w = .ok (.slice (some ⟨w.heap.size, 0, none⟩) ys.length cap) (w.drew.alloc (.cells ca e)) := by
    intro A hcs ho hfit hb1 hne
    subst hcs
    obtain ⟨h3, h4, vs, h5, h6⟩ := src ho
    have hvl : vs.length = ys.length * te.size := by rw [h5.1, flatD_length h4, hg.psz]
    have hpos : 0 < ys.length := List.length_pos_iff.mpr hne
    have hle : ys.length ≤ ys.length * te.bytes := Nat.le_mul_of_pos_right _ hb1
    obtain ⟨cap, ca, h7, h8, h9, h10⟩ := append_new (ty := ty) (t2 := t2) (base' := A) (sLen := 0) (sCap := 0) (olds := []) (w := w) hg hu hu2 hd2 h3 (by omega) (fun w2 _ => by
      cases A with
      | none => rfl
      | some ad => simp [Builtin.firstCells, loadCells, loadCellsFrom]) h6 (by simp) hvl (by simpa using hfit) (by simp; omega)
    simp only [Nat.zero_add, List.nil_append] at h7 h9 h10
    exact ⟨cap, ca, h7, by rw [hg.psz]; exact h8, h4, ⟨vs, h5, h9⟩, h10⟩
  have first0 : ∀ (A : Option Addr), cs = .slice A 0 0 → ob → ys = [] → (Builtin.append_ #[t, t2] ty #[cs, cx]).run P w = .ok (.slice A 0 0) w := by
    intro A hcs ho hne
    subst hcs
    obtain ⟨h3, h4, vs, h5, h6⟩ := src ho
    subst hne
    have hvl : vs = [] := List.eq_nil_of_length_eq_zero (by rw [h5.1]; rfl)
    subst hvl
    have := append_in (ty := ty) (t2 := t2) (base' := A) (sLen := 0) (sCap := 0) (w := w) (w' := w) hg hu hu2 hd2 h3 (by simp) (h6 w (fun _ => rfl)) (fun ad _ => by simp [storeCells]) (fun _ => rfl)
    simpa using this
  have newbl : ∀ (A : Option Addr), cs = .slice A 0 0 → ob → ys.length * te.bytes ≤ 140737488355328 → 1 ≤ te.bytes →
      Does P base w0 F ρ env.h w (do Pure.pure (Next.value (← Builtin.append_ #[t, t2] ty #[cs, cx]))) (env.h ++ [.tail e ys.length]) (.bl env.h.length e ys) := by
    intro A hcs ho hfit hb1
    by_cases hne : ys = []
    · have hrun := first0 A hcs ho hne
      subst hne
      have hst := hr.st
      have hx : Ext env.h.length F ρ F (upd ρ env.h.length (.bld (.slice A 0 0) 0)) := Ext.upd _ _ _ _
      refine does_value hrun hx ?_ (.bl (by simp) (sl_empty' e A 0) (upd_same _ _ _) (by simp) (fun _ => rfl)) (by simp)
      refine ⟨hst.frz, fun b x hb => ?_, fun b b' B h1 h2 c1 c2 => ?_, hst.old, hst.hb, fun b B h1 c1 => ?_⟩
      · rw [List.length_append, List.length_singleton]
        rcases Nat.lt_trichotomy b env.h.length with h1 | h1 | h1
        · rw [List.getElem?_append_left h1] at hb
          exact (hst.blk b x hb).mono hx (upd_ne (by omega)) (Nat.le_succ _) (fun r o _ hr => hr) (fun _ _ _ _ => rfl)
        · subst h1
          simp only [List.getElem?_append_right (Nat.le_refl _), Nat.sub_self, List.getElem?_cons_zero, Option.some.injEq] at hb
          subst hb
          exact ⟨A, 0, upd_same _ _ _, Nat.le_refl _, fun h => absurd rfl h⟩
        · rw [List.getElem?_eq_none (by simp; omega)] at hb
          cases hb
      · simp only [List.length_append, List.length_singleton] at h1 h2
        by_cases e1 : b = env.h.length
        · subst e1; rw [upd_same] at c1; cases A <;> simp [Loc.conc] at c1
        · by_cases e2 : b' = env.h.length
          · subst e2; rw [upd_same] at c2; cases A <;> simp [Loc.conc] at c2
          · rw [upd_ne e1] at c1; rw [upd_ne e2] at c2
            exact hst.dist b b' B (by omega) (by omega) c1 c2
      · simp only [List.length_append, List.length_singleton] at h1
        by_cases e1 : b = env.h.length
        · subst e1; rw [upd_same] at c1; cases A <;> simp [Loc.conc] at c1
        · rw [upd_ne e1] at c1
          exact hst.lt b B (by omega) c1
    · obtain ⟨cap, ca, h7, h8, h4, ⟨vs, h5, h9⟩, h10⟩ := first A hcs ho hfit hb1 hne
      have := hr.st.drew.new_bld (e := e) (e0 := e) h4 h5 h9 h7 h8 rfl
      exact does_value h10 this.1 this.2.1 (by simpa using this.2.2) (by simp)
  have newmu : ∀ (A : Option Addr), cs = .slice A 0 0 → ob → ys.length * te.bytes ≤ 140737488355328 → 1 ≤ te.bytes → ys ≠ [] →
      Does P base w0 F ρ env.h w (do Pure.pure (Next.value (← Builtin.append_ #[t, t2] ty #[cs, cx]))) (env.h ++ [.cells e (ys.map AV.d)]) (.ref env.h.length e 0 ys.length) := by
    intro A hcs ho hfit hb1 hne
    obtain ⟨cap, ca, h7, h8, h4, ⟨vs, h5, h9⟩, h10⟩ := first A hcs ho hfit hb1 hne
    have hmul : ys.length * psz P e ≤ cap * psz P e := Nat.mul_le_mul_right _ h7
    have := hr.st.drew.new_mut (e := e) (e0 := e) (xs := ys.map AV.d) (ARow.of_rows h4 h5) h9 (N := cap) (by simpa using h7) h8 rfl
    refine does_value h10 (Ext.upd _ _ _ _) this (.ref (by simp) (fun _ => ⟨_, rfl⟩) (fun B N hl => ?_) h7) (by simp)
    rw [upd_same] at hl
    cases hl
    exact ⟨fun _ => by rw [Nat.zero_mul]; rfl, by omega⟩
  unfold appAV at hf
  split at hf
  · rename_i b e' xs
    simp only [Option.some.injEq, Prod.mk.injEq] at hf
    obtain ⟨h1, rfl, rfl⟩ := hf
    rw [← h1] at hob
    obtain ⟨hb, rfl, ho, hfit, hb1⟩ := hob
    obtain ⟨h3, h4, vs, h5, h6⟩ := src ho
    obtain ⟨A, cap, rfl, hcap, hρ, hrep, hblk⟩ := bld_inv hr.st hb hs
    have hvl : vs.length = ys.length * te.size := by rw [h5.1, flatD_length h4, hg.psz]
    have hle0 : xs.length + ys.length ≤ (xs.length + ys.length) * te.bytes := Nat.le_mul_of_pos_right _ hb1
    by_cases hne : ys = []
    · subst hne
      have hv0 : vs = [] := List.eq_nil_of_length_eq_zero (by rw [hvl]; simp)
      subst hv0
      have hrun := append_in (ty := ty) (t2 := t2) (base' := A) (sLen := xs.length) (sCap := cap) (w := w) (w' := w) hg hu hu2 hd2 h3 (by simpa using hcap) (h6 w (fun _ => rfl)) (fun ad _ => by simp [storeCells]) (fun _ => rfl)
      have hh : env.h.set b (.tail e' (xs.length + ([] : List D).length)) = env.h := by
        obtain ⟨hlt, he⟩ := List.getElem?_eq_some_iff.mp hb
        simp only [List.length_nil, Nat.add_zero]
        rw [← he]
        exact List.set_getElem_self hlt
      rw [hh]
      simp only [List.append_nil]
      exact does_value hrun (Ext.refl _ _ _) hr.st (by simpa using hs) (Nat.le_refl _)
    · by_cases hin : xs.length + ys.length ≤ cap
      · have hpos : 0 < ys.length := List.length_pos_iff.mpr hne
        obtain ⟨ad, c, e0, rfl, hsp, hba, hheap, hsz, hFB⟩ := hblk (by omega)
        have hmul : (xs.length + ys.length) * psz P e' ≤ cap * psz P e' := Nat.mul_le_mul_right _ hin
        rw [Nat.add_mul] at hmul
        have hsto : (storeCells (ad.add (xs.length * te.size)) vs).run P w = .ok () (setBlk w ad.block (.cells (writeAll c (ad.off + xs.length * psz P e') vs) e0 (0, 0))) := by
          rw [add_spot hsp, ← hg.psz]
          have := storeCells_run (P := P) (B := ad.block) (o := ad.off + xs.length * psz P e') (e0 := e0) vs 0 c w hheap (by rw [hvl, ← hg.psz]; omega) h5.one
          simpa using this
        have hrun := append_in (ty := ty) (t2 := t2) (base' := some ad) (sLen := xs.length) (sCap := cap) (w := w) hg hu hu2 hd2 h3 hin (h6 w (fun _ => rfl)) (fun ad' e => by cases e; exact hsto) (fun e => by cases e)
        have := hr.st.grow hb hρ hrep hsp hba hheap hsz hFB h4 h5 hin hne
        exact does_value hrun this.1 this.2.1 (by simpa using this.2.2) (by simp)
      · obtain ⟨hlx, vx, hrx, hFx⟩ := hrep.row
        have hvxl : vx.length = xs.length * te.size := by rw [hrx.1, flatD_length hlx, hg.psz]
        obtain ⟨cap', ca, h7, h8, h9, h10⟩ := append_new (ty := ty) (t2 := t2) (base' := A) (sLen := xs.length) (sCap := cap) (olds := vx) (w := w) hg hu hu2 hd2 h3 (by omega) (fun w2 hw2 => by
          by_cases hxe : xs = []
          · subst hxe
            have : vx = [] := List.eq_nil_of_length_eq_zero (by rw [hvxl]; simp)
            subst this
            cases A with
            | none => rfl
            | some ad => simp [Builtin.firstCells, loadCells, loadCellsFrom]
          · obtain ⟨ad, rfl, hsp, hc⟩ := hFx hxe
            simp only [Builtin.firstCells, ← hvxl]
            exact loadCells_vs hsp (fun j v hj => by rw [hw2]; exact hr.st.frz _ _ (hc j v hj))) h6 hvxl hvl hfit (by omega)
        have hpos : 0 < ys.length := List.length_pos_iff.mpr hne
        have hflat : flatD (xs ++ ys) = flatD xs ++ flatD ys := by simp [flatD]
        have := hr.st.drew.regrow (e := e') (e0 := e') (zs := xs ++ ys) (vs := vx ++ vs) (cs := ca) (cap := cap') hb hρ (fun x hx' => by rcases List.mem_append.mp hx' with h | h; exact hlx x h; exact h4 x h)
          (by rw [hflat]; exact hrx.append h5) h9 (by simpa using h7) (by rw [hg.psz]; exact h8) rfl (by simp; omega)
        simp only [List.length_append] at this
        exact does_value h10 this.1 this.2.1 (by simpa using this.2.2) (by simp)
  · cases hs with | d hs => cases hs with
    | nilsl =>
      split at hf
      · split at hf
        · simp only [Option.some.injEq, Prod.mk.injEq] at hf
          obtain ⟨h1, rfl, rfl⟩ := hf
          rw [← h1] at hob
          exact does_value (first0 none rfl hob rfl) (Ext.refl _ _ _) hr.st (.d .nilsl) (Nat.le_refl _)
        · simp only [Option.some.injEq, Prod.mk.injEq] at hf
          obtain ⟨h1, rfl, rfl⟩ := hf
          rw [← h1] at hob
          exact newmu none rfl hob.1 hob.2.1 hob.2.2 (by simp)
      · simp only [Option.some.injEq, Prod.mk.injEq] at hf
        obtain ⟨h1, rfl, rfl⟩ := hf
        rw [← h1] at hob
        exact newbl none rfl hob.1 hob.2.1 hob.2.2
  · cases hs with
    | @z0 _ A =>
      split at hf
      · split at hf
        · simp only [Option.some.injEq, Prod.mk.injEq] at hf
          obtain ⟨h1, rfl, rfl⟩ := hf
          rw [← h1] at hob
          exact does_value (first0 A rfl hob rfl) (Ext.refl _ _ _) hr.st .z0 (Nat.le_refl _)
        · simp only [Option.some.injEq, Prod.mk.injEq] at hf
          obtain ⟨h1, rfl, rfl⟩ := hf
          rw [← h1] at hob
          obtain ⟨ho, rfl, hfit, hb1⟩ := hob
          exact newmu A rfl ho hfit hb1 (by simp)
      · simp only [Option.some.injEq, Prod.mk.injEq] at hf
        obtain ⟨h1, rfl, rfl⟩ := hf
        rw [← h1] at hob
        exact newbl A rfl hob.1 hob.2.2.1 hob.2.2.2
  · rename_i b e' off len
    split at hf
    · rename_i e'' xs hb
      simp only [Option.some.injEq, Prod.mk.injEq] at hf
      obtain ⟨h1, rfl, rfl⟩ := hf
      rw [← h1] at hob
      obtain ⟨rfl, rfl, rfl, hlx, ho, hfit, hb1⟩ := hob
      exact append_ref hr.st hg hu hu2 hd2 hb hlx hs (src ho) hfit hb1
    · simp at hf
  · simp at hf

theorem asData_rel {sz : TypeId → Nat} {x : AV} {v : Value} (hv : VRel sz F ρ n x v) : VRel sz F ρ n x.asData v := by
  cases x with
  | bl b e xs => cases hv with | bl hb h hl hw hc => exact .d h
  | _ => exact hv

theorem evH_sound (hT : tab.checks P = true) (hr : Rel (psz P) base w0 m nt F ρ env a w) {mu : Bool} {o : Oper} {ob : Prop} {h' : List Blk} {v : AV} (h : evH tab mu env o.op = some (ob, h', v)) (hob : ob) :
    Does P base w0 F ρ env.h w (execOp a.eval o) h' v := by
  obtain ⟨dst, op, type, pos, after, guard⟩ := o
  simp only at h
  cases op with
  | alloc t =>
    simp only [evH, Option.map_eq_some_iff, Prod.mk.injEq] at h
    obtain ⟨ti, hti, _, rfl, rfl⟩ := h
    exact alloc_sound hT hr.st hti
  | move x =>
    simp only [evH, Option.map_eq_some_iff, Prod.mk.injEq] at h
    obtain ⟨v0, hv0, _, rfl, rfl⟩ := h
    exact ⟨_, a.eval x, w, F, ρ, rfl, .inl rfl, Ext.refl _ _ _, hr.st, asData_rel (ev_sound hr hv0), Nat.le_refl _⟩
  | convert s d x =>
    simp only [evH] at h
    split at h
    · rename_i e sz1 by1 z1 b e' off len hs hx
      split at h
      · rename_i _ _ _ e'' xs he hb
        split at h
        · rename_i ds hds
          simp only [Option.some.injEq, Prod.mk.injEq] at h
          obtain ⟨h1, rfl, rfl⟩ := h
          rw [← h1] at hob
          obtain ⟨rfl, rfl, rfl, rfl, rfl, hpos⟩ := hob
          obtain ⟨ds', hus, hfs⟩ := (Tab.good hT hs).desc
          obtain ⟨de, hue, hfe⟩ := (Tab.good hT he).desc
          rw [tk_sl hfs] at hus
          rw [tk_int hfe] at hue
          rw [AV.allD_some hds] at hb
          have hlt := (List.getElem?_eq_some_iff.mp hb).1
          obtain ⟨B, N, c, e0, g1, g2, g3, g4, g5, g6⟩ := hr.st.blk b _ hb
          have hv := ev_sound hr hx
          generalize hcv : a.eval x = cv at hv
          have hv' := hv
          cases hv with
          | @ref _ _ _ _ cap A0 hbn hA0 hl hc =>
            have hA : A0 = some ⟨B, 0, none⟩ := by
              have := (hl B N g1).1 (by omega)
              rwa [Nat.zero_mul] at this
            subst hA
            obtain ⟨F', f1, f2, f3⟩ := hr.st.freeze hb
            have hfr := f3 hv' (by omega)
            simp only [List.drop_zero, List.take_length] at hfr
            have hst := f2.freezeAt (k := b) (g := B) (by simpa using hlt) (by rw [g1]; rfl) g2 c.size 1
            rw [List.set_set] at hst
            have hsh : w.shape? B = some (e0, c.size) := by unfold World.shape?; rw [g3]
            have hrun : (convert s s (.slice (some ⟨B, 0, none⟩) ds.length cap)).run P w = .ok (.slice (some ⟨B, 0, none⟩) ds.length cap) (w.freeze ⟨B, c.size, none⟩ 1) := by
              simp [convert, run_underlying' hus, run_underlying' hue, markStringish, hsh]
            have he' : execOp a.eval ⟨dst, .convert s s x, type, pos, after, guard⟩ = (do Pure.pure (Next.value (← convert s s (a.eval x)))) := by simp only [execOp]
            rw [he', hcv]
            exact does_value hrun ⟨f1, fun _ _ => Loc.ext_refl _⟩ hst (.d hfr) (by simp)
        · simp at h
      · simp at h
    · simp at h
  | box t x =>
    simp only [evH] at h
    split at h
    · rename_i ti v' hti hv
      simp only [Option.some.injEq, Prod.mk.injEq] at h
      obtain ⟨h1, rfl, rfl⟩ := h
      rw [← h1] at hob
      exact box_sound hT hr.st hti (ev_sound hr hv) hob
    · simp at h
  | store t p x =>
    simp only [evH] at h
    split at h
    · rename_i b e i off v' ti hp hx hti
      split at h
      · rename_i e' xs te hb hte
        simp only [Option.some.injEq, Prod.mk.injEq] at h
        obtain ⟨h1, rfl, rfl⟩ := h
        rw [← h1] at hob
        exact storeop_sound hT hr.st hti hte (ev_sound hr hp) (ev_sound hr hx) hb hob
      · simp at h
    · simp at h
  | buildSlice t len parts =>
    simp only [evH] at h
    split at h
    · rename_i e he
      split at h
      · rename_i te ps hte hps
        exact buildSlice_sound hT hr he hte hps h hob
      · simp at h
    · simp at h
  | makeSlice t l c =>
    simp only [evH] at h
    split at h
    · rename_i e i k he hi hk
      split at h
      · rename_i te hte
        simp only [Option.bind_eq_some_iff] at hi hk
        obtain ⟨vi, hi1, hi2⟩ := hi
        obtain ⟨vk, hk1, hk2⟩ := hk
        obtain ⟨ki, hki⟩ := asI_sound hi2 (ev_sound hr hi1)
        obtain ⟨kk, hkk⟩ := asI_sound hk2 (ev_sound hr hk1)
        have := makeSlice_sound (ki := ki) (kk := kk) hT hr he hte h hob
        rw [← hki, ← hkk] at this
        exact this
      · simp at h
    · simp at h
  | makeMap t r =>
    cases r with
    | none =>
      simp only [evH, Option.some.injEq, Prod.mk.injEq] at h
      obtain ⟨_, rfl, rfl⟩ := h
      exact makeMap_sound hr.st t
    | some x => simp [evH] at h
  | mapUpdate t m k x =>
    simp only [evH] at h
    split at h
    · rename_i kt te b kd v hmo hm hk hx
      split at h
      · rename_i es hb
        split at h
        · rename_i hko
          simp only [Option.map_eq_some_iff, Prod.mk.injEq] at h
          obtain ⟨es', hp, _, rfl, rfl⟩ := h
          exact mapUpdate_sound hT hr.st hmo (ev_sound hr hm) (ev_sound hr hk).d_inv (ev_sound hr hx) hb hko hp
        · simp at h
      · simp at h
    · simp at h
  | insert t m k x =>
    simp only [evH] at h
    split at h
    · rename_i kt te b kd v hmo hm hk hx
      split at h
      · rename_i es hb
        split at h
        · rename_i hko
          simp only [Option.map_eq_some_iff, Prod.mk.injEq] at h
          obtain ⟨es', hp, _, rfl, rfl⟩ := h
          exact mapUpdate_sound hT hr.st hmo (ev_sound hr hm) (ev_sound hr hk).d_inv (ev_sound hr hx) hb hko hp
        · simp at h
      · simp at h
    · simp at h
  | call c =>
    obtain ⟨callee, args, ts⟩ := c
    cases callee with
    | builtin b =>
      cases b with
      | append =>
        simp only [evH] at h
        split at h
        · rename_i s x t t2 hsx htt
          have hargs : args = #[s, x] := by rw [← Array.toArray_toList (xs := args), hsx]
          have hts : ts = #[t, t2] := by rw [← Array.toArray_toList (xs := ts), htt]
          subst hargs; subst hts
          split at h
          · rename_i e sv xv he h2 hsv hxv
            split at h
            · rename_i te hte
              split at h
              · rename_i ob' ys hsrc
                have := append_sound (ty := type) (mu := mu) hT hr he h2 hte (ev_sound hr hsv) (ev_sound hr hxv) hsrc h hob
                have e : execOp a.eval { dst, op := .call { callee := .builtin .append, args := #[s, x], argTypes := #[t, t2] }, type, pos, after, guard } =
                    (do Pure.pure (Next.value (← Builtin.append_ #[t, t2] type #[a.eval s, a.eval x]))) := by
                  simp only [execOp, resolve, pure_bind, invoke, builtin]
                  rw [show #[s, x].map a.eval = #[a.eval s, a.eval x] from by simp]
                rw [e]
                exact this
              · simp at h
            · simp at h
          · rename_i e kx k he _ hsv hxv
            split at h
            · rename_i te kd s1 s2 s3 hte ht2
              simp only [Option.some.injEq, Prod.mk.injEq] at h
              obtain ⟨h1, rfl, rfl⟩ := h
              rw [← h1] at hob
              obtain ⟨hk1, hfit, hb1, hs1⟩ := hob
              have hg := Tab.good hT hte
              have hu := (slOf_sound hT he).1
              obtain ⟨d2, hu2, hf2⟩ := (Tab.good hT ht2).desc
              have := tk_int hf2
              subst this
              have hcs : a.eval s = .slice none 0 0 := by
                have hrv := ev_sound hr hsv
                generalize a.eval s = cv at hrv
                cases hrv with | d hrv => cases hrv with
                | nilsl => rfl
              have hcx : a.eval x = .int kx (k.toNat : Int) := by
                have := (ev_sound hr hxv).int_inv
                rw [this]; congr 1; omega
              obtain ⟨cap, cs, h7, h8, h10⟩ := append_zeros (w := w) (t := t) (t2 := t2) (ty := type) (kx := kx) hg hu hu2 (k := k.toNat) (by omega) hb1 hs1 hfit
              have := hr.st.drew.new_bld (e := e) (e0 := e) (xs := []) (vs := []) (cs := cs) (cap := cap) (by simp) row_nil (by simp) (by simp) (by rw [hg.psz]; exact h8) rfl
              obtain ⟨hx1, hx2, hx3⟩ := this
              have e : execOp a.eval { dst, op := .call { callee := .builtin .append, args := #[s, x], argTypes := #[t, t2] }, type, pos, after, guard } =
                  (do Pure.pure (Next.value (← Builtin.append_ #[t, t2] type #[a.eval s, a.eval x]))) := by
                simp only [execOp, resolve, pure_bind, invoke, builtin]
                rw [show #[s, x].map a.eval = #[a.eval s, a.eval x] from by simp]
              rw [e, hcs, hcx]
              refine does_value h10 hx1 hx2 ?_ (by simp)
              exact .gr (by simp) (upd_same _ _ _) (fun _ => rfl) h7
            · simp at h
          · simp at h
        · simp at h
      | _ => simp [evH] at h
    | _ => simp [evH] at h
  | _ => simp [evH] at h

end Go.Vm
