/- Which blocks a value speaks of, and forgetting the last blocks. -/
import Derived.Test.YtggeifnbllfmbaaDoorVmI
import Derived.Lib.ConvBytes
set_option linter.unusedSimpArgs false
namespace Go.Vm

inductive Bel (n : Nat) : AV → Prop
  | d (x : D) : Bel n (.d x)
  | bl {b : Nat} {e : TypeId} {xs : List D} (h : b < n) : Bel n (.bl b e xs)
  | ref {b : Nat} {e : TypeId} {o l : Nat} (h : b < n) : Bel n (.ref b e o l)
  | z0 {e : TypeId} : Bel n (.z0 e)
  | fp {e : TypeId} {xs : List D} {i o : Nat} : Bel n (.fp e xs i o)
  | ptr {b : Nat} {e : TypeId} {i o : Nat} (h : b < n) : Bel n (.ptr b e i o)
  | agg {cs : List AV} (h : ∀ (k : Nat) (c : AV), cs[k]? = some c → Bel n c) : Bel n (.agg cs)
  | tup {cs : List AV} (h : ∀ (k : Nat) (c : AV), cs[k]? = some c → Bel n c) : Bel n (.tup cs)
  | clo {f : FuncId} {cs : List AV} (h : ∀ (k : Nat) (c : AV), cs[k]? = some c → Bel n c) : Bel n (.clo f cs)
  | map {b : Nat} (h : b < n) : Bel n (.map b)
  | iter {b : Nat} (h : b < n) : Bel n (.iter b)
  | gr {b : Nat} {e : TypeId} {k : Nat} (h : b < n) : Bel n (.gr b e k)
  | pb {p : Bool → Prop} : Bel n (.pb p)
  | unk : Bel n .unk

theorem Bel.mono {n n' : Nat} {x : AV} (h : Bel n x) (hn : n ≤ n') : Bel n' x := by
  induction h with
  | d x => exact .d x
  | bl h => exact .bl (by omega)
  | ref h => exact .ref (by omega)
  | z0 => exact .z0
  | fp => exact .fp
  | ptr h => exact .ptr (by omega)
  | agg h ih => exact .agg ih
  | tup h ih => exact .tup ih
  | clo h ih => exact .clo ih
  | map h => exact .map (by omega)
  | iter h => exact .iter (by omega)
  | gr h => exact .gr (by omega)
  | pb => exact .pb
  | unk => exact .unk

variable {P : Program} {base : Nat} {w0 : World} {m nt : Nat} {F : Frz} {ρ : Env0} {env env' : Env} {a : Act} {w : World} {n : Nat} {tab : Tab} {sz : TypeId → Nat} {h : List Blk}

theorem VRel.bel {x : AV} {v : Value} (hv : VRel sz F ρ n x v) : Bel n x := by
  induction hv with
  | d h => exact .d _
  | bl hb => exact .bl hb
  | ref hb => exact .ref hb
  | z0 => exact .z0
  | fp => exact .fp
  | ptr hb => exact .ptr hb
  | agg cs vs hs val hv hr ih => exact .agg ih
  | tup cs vs hs val hv hr ih => exact .tup ih
  | clo f cs vs hs val hv hr ih => exact .clo ih
  | map hb => exact .map hb
  | iter hb => exact .iter hb
  | gr hb => exact .gr hb
  | pb h => exact .pb
  | unk v => exact .unk

theorem VRel.cut {x : AV} {v : Value} {k : Nat} (hv : VRel sz F ρ n x v) (hb : Bel k x) : VRel sz F ρ k x v := by
  induction hv with
  | d h => exact .d h
  | bl _ h hl hw hc => cases hb with | bl hb => exact .bl hb h hl hw hc
  | ref _ hA hl hc => cases hb with | ref hb => exact .ref hb hA hl hc
  | z0 => exact .z0
  | fp h hi => exact .fp h hi
  | ptr _ hl => cases hb with | ptr hb => exact .ptr hb hl
  | agg cs vs hs val hv hr ih => cases hb with | agg hb => exact .agg cs vs hs val hv (fun k c hc => ih k c hc (hb k c hc))
  | tup cs vs hs val hv hr ih => cases hb with | tup hb => exact .tup cs vs hs val hv (fun k c hc => ih k c hc (hb k c hc))
  | clo f cs vs hs val hv hr ih => cases hb with | clo hb => exact .clo f cs vs hs val hv (fun k c hc => ih k c hc (hb k c hc))
  | map _ hl => cases hb with | map hb => exact .map hb hl
  | iter _ hl => cases hb with | iter hb => exact .iter hb hl
  | gr _ hl h0 hk => cases hb with | gr hb => exact .gr hb hl h0 hk
  | pb h => exact .pb h
  | unk v => exact .unk v

@[simp] theorem bel_d (x : D) : Bel n (.d x) ↔ True := ⟨fun _ => trivial, fun _ => .d x⟩
@[simp] theorem bel_bl {b : Nat} {e : TypeId} {xs : List D} : Bel n (.bl b e xs) ↔ b < n := ⟨fun h => by cases h; assumption, .bl⟩
@[simp] theorem bel_ref {b : Nat} {e : TypeId} {o l : Nat} : Bel n (.ref b e o l) ↔ b < n := ⟨fun h => by cases h; assumption, .ref⟩
@[simp] theorem bel_z0 {e : TypeId} : Bel n (.z0 e) ↔ True := ⟨fun _ => trivial, fun _ => .z0⟩
@[simp] theorem bel_fp {e : TypeId} {xs : List D} {i o : Nat} : Bel n (.fp e xs i o) ↔ True := ⟨fun _ => trivial, fun _ => .fp⟩
@[simp] theorem bel_ptr {b : Nat} {e : TypeId} {i o : Nat} : Bel n (.ptr b e i o) ↔ b < n := ⟨fun h => by cases h; assumption, .ptr⟩
@[simp] theorem bel_map {b : Nat} : Bel n (.map b) ↔ b < n := ⟨fun h => by cases h; assumption, .map⟩
@[simp] theorem bel_iter {b : Nat} : Bel n (.iter b) ↔ b < n := ⟨fun h => by cases h; assumption, .iter⟩
@[simp] theorem bel_gr {b : Nat} {e : TypeId} {k : Nat} : Bel n (.gr b e k) ↔ b < n := ⟨fun h => by cases h; assumption, .gr⟩
@[simp] theorem bel_pb {p : Bool → Prop} : Bel n (.pb p) ↔ True := ⟨fun _ => trivial, fun _ => .pb⟩
@[simp] theorem bel_unk : Bel n .unk ↔ True := ⟨fun _ => trivial, fun _ => .unk⟩
theorem all_get {cs : List AV} {p : AV → Prop} : (∀ (k : Nat) (c : AV), cs[k]? = some c → p c) ↔ ∀ c ∈ cs, p c :=
  ⟨fun h c hc => by obtain ⟨k, hk⟩ := List.getElem?_of_mem hc; exact h k c hk, fun h k c hk => h c (List.mem_of_getElem? hk)⟩
@[simp] theorem bel_agg {cs : List AV} : Bel n (.agg cs) ↔ ∀ c ∈ cs, Bel n c := ⟨fun h => by cases h with | agg h => exact all_get.mp h, fun h => .agg (all_get.mpr h)⟩
@[simp] theorem bel_tup {cs : List AV} : Bel n (.tup cs) ↔ ∀ c ∈ cs, Bel n c := ⟨fun h => by cases h with | tup h => exact all_get.mp h, fun h => .tup (all_get.mpr h)⟩
@[simp] theorem bel_clo {f : FuncId} {cs : List AV} : Bel n (.clo f cs) ↔ ∀ c ∈ cs, Bel n c := ⟨fun h => by cases h with | clo h => exact all_get.mp h, fun h => .clo (all_get.mpr h)⟩

def BlkBel (n : Nat) : Blk → Prop
  | .cells _ xs => ∀ x ∈ xs, ∀ y ∈ x.cells, Bel n y
  | .map es => ∀ e ∈ es, Bel n e.2
  | _ => True

theorem BlkBel.mono {n n' : Nat} {x : Blk} (h : BlkBel n x) (hn : n ≤ n') : BlkBel n' x := by
  cases x with
  | cells e xs => exact fun x hx y hy => (h x hx y hy).mono hn
  | map es => exact fun e he => (h e he).mono hn
  | _ => trivial

/-- The blocks speak of no block behind them. -/
def HOk (h : List Blk) : Prop := ∀ x ∈ h, BlkBel h.length x

theorem HOk.append {h g : List Blk} (h1 : HOk h) (h2 : ∀ x ∈ g, BlkBel (h.length + g.length) x) : HOk (h ++ g) := by
  intro x hx
  rw [List.length_append]
  rcases List.mem_append.mp hx with hx | hx
  · exact (h1 x hx).mono (by omega)
  · exact h2 x hx

theorem HOk.set {h : List Blk} {b : Nat} {x : Blk} (h1 : HOk h) (h2 : BlkBel h.length x) : HOk (h.set b x) := by
  intro y hy
  rw [List.length_set]
  rcases List.mem_or_eq_of_mem_set hy with hy | rfl
  · exact h1 y hy
  · exact h2

theorem St.hok (hst : St sz base w0 F ρ h w) : HOk h := by
  intro x hx
  obtain ⟨b, hb⟩ := List.getElem?_of_mem hx
  have hbr := hst.blk b x hb
  cases x with
  | cells e xs =>
    obtain ⟨B, N, c, e0, _, _, _, _, _, h6⟩ := hbr
    intro x hx y hy
    obtain ⟨i, hi⟩ := List.getElem?_of_mem hx
    obtain ⟨k, hk⟩ := List.getElem?_of_mem hy
    obtain ⟨v, _, hv, _⟩ := (h6 i x hi).2 k y hk
    exact hv.bel
  | map es =>
    obtain ⟨r, mm, _, _, _, _, h5⟩ := hbr
    intro e he
    obtain ⟨i, hi⟩ := List.getElem?_of_mem he
    obtain ⟨en, _, _, _, hv⟩ := h5 i e.1 e.2 (by simpa using hi)
    exact hv.bel
  | _ => trivial

theorem BlkRel.cut {b k : Nat} {x : Blk} (hb : BlkRel sz base F ρ n w b x) (hk : BlkBel k x) : BlkRel sz base F ρ k w b x := by
  cases x with
  | cells e xs =>
    obtain ⟨B, N, c, e0, h1, h2, h3, h4, h5, h6⟩ := hb
    refine ⟨B, N, c, e0, h1, h2, h3, h4, h5, fun i x hi => ⟨(h6 i x hi).1, fun j y hj => ?_⟩⟩
    obtain ⟨v, h7, h8, h9⟩ := (h6 i x hi).2 j y hj
    exact ⟨v, h7, h8.cut (hk x (List.mem_of_getElem? hi) y (List.mem_of_getElem? hj)), h9⟩
  | tail e hw => exact hb
  | map es =>
    obtain ⟨r, mm, h1, h2, h3, h4, h5⟩ := hb
    refine ⟨r, mm, h1, h2, h3, h4, fun i k' x hi => ?_⟩
    obtain ⟨en, h6, h7, h8, h9⟩ := h5 i k' x hi
    exact ⟨en, h6, h7, h8, h9.cut (hk (k', x) (List.mem_of_getElem? hi))⟩
  | gone => trivial

theorem St.cut {g : List Blk} (hst : St sz base w0 F ρ (h ++ g) w) (hok : HOk h) : St sz base w0 F ρ h w := by
  refine ⟨hst.frz, fun b x hb => ?_, fun b b' B h1 h2 => hst.dist b b' B (by simp; omega) (by simp; omega), hst.old, hst.hb, fun b B h1 => hst.lt b B (by simp; omega)⟩
  have hlt := (List.getElem?_eq_some_iff.mp hb).1
  exact (hst.blk b x (by rw [List.getElem?_append_left hlt]; exact hb)).cut (hok x (List.mem_of_getElem? hb))


/-- A row of elements that is built at once: as data. -/
def evB (tab : Tab) (env : Env) (t : TypeId) (len : Nat) (parts : Array (Nat × Operand)) : Option (Prop × AV) :=
  match slOf tab t with
  | some e => match tab.get e, partsAV env parts.toList with
    | some te, some ps => match AV.allD (fillAV (List.replicate len (zeroAV te)) ps) with
      | some ds => some (len * te.size ≤ 16777216 ∧ okParts len te.size ps, if len = 0 then .z0 e else .d (.sl e ds))
      | none => none
    | _, _ => none
  | none => none

/-! Structs and arrays that are built at once. -/

def sizesOf (tab : Tab) : List (Nat × TypeId) → Option (List (Nat × Nat))
  | [] => some []
  | (o, t) :: r => match tab.get t, sizesOf tab r with
    | some ti, some l => some ((o, ti.size) :: l)
    | _, _ => none

def arrPl (s : Nat) : Nat → Nat → List (Nat × Nat)
  | _, 0 => []
  | i, n + 1 => (i * s, s) :: arrPl s (i + 1) n

def plOf (tab : Tab) : TK → Option (List (Nat × Nat))
  | .struct _ fs => sizesOf tab fs
  | .arr _ n e => match tab.get e with
    | some te => some (arrPl te.size 0 n)
    | none => none
  | _ => none

def setParts (pl : List (Nat × Nat)) : List AV → List (Nat × AV) → Option (Prop × List AV)
  | cs, [] => some (True, cs)
  | cs, (i, v) :: r => match pl[i]? with
    | some (off, size) => match setParts pl (setCells cs off v.cells) r with
      | some (o, cs') => some ((okCells v size ∧ off + size ≤ cs.length) ∧ o, cs')
      | none => none
    | none => none

def evS (tab : Tab) (env : Env) (t : TypeId) (parts : Array (Nat × Operand)) : Option (Prop × AV) :=
  match tab.get t with
  | some ti => match plOf tab ti.k, partsAV env parts.toList with
    | some pl, some ps => match setParts pl (ti.zero.map AV.d) ps with
      | some (o, cs) => some (o, AV.pack cs)
      | none => none
    | _, _ => none
  | none => none

def CRel (sz : TypeId → Nat) (F : Frz) (ρ : Env0) (n : Nat) (cs : List AV) (c : Array Value) : Prop :=
  c.size = cs.length ∧ ∀ (k : Nat) (y : AV), cs[k]? = some y → ∃ v, c[k]? = some v ∧ VRel sz F ρ n y v

theorem setParts_sound {pl : List (Nat × Nat)} {place : Nat → Option (Nat × Nat)} (hpl : ∀ (i : Nat) (p : Nat × Nat), pl[i]? = some p → place i = some p) : ∀ {ps : List (Nat × AV)} {pvs : List (Nat × Value)} {cs cs' : List AV} {c : Array Value} {o : Prop},
    CRel sz F ρ n cs c → setParts pl cs ps = some (o, cs') → o → pvs.length = ps.length → (∀ (j i : Nat) (v : AV), ps[j]? = some (i, v) → ∃ cv, pvs[j]? = some (i, cv) ∧ VRel sz F ρ n v cv) →
    ∃ c', Instr.fill place c pvs = some c' ∧ CRel sz F ρ n cs' c'
  | [], [], cs, cs', c, o, hr, hs, _, _, _ => by
    simp only [setParts, Option.some.injEq, Prod.mk.injEq] at hs
    obtain ⟨_, rfl⟩ := hs
    exact ⟨c, rfl, hr⟩
  | [], _ :: _, cs, cs', c, o, hr, _, _, hl, _ => by simp at hl
  | _ :: _, [], cs, cs', c, o, hr, _, _, hl, _ => by simp at hl
  | (i, v) :: ps, (i', cv) :: pvs, cs, cs', c, o, hr, hs, ho, hl, hv => by
    obtain ⟨cv', h1, h2⟩ := hv 0 i v rfl
    simp only [List.getElem?_cons_zero, Option.some.injEq, Prod.mk.injEq] at h1
    obtain ⟨rfl, rfl⟩ := h1
    simp only [setParts] at hs
    split at hs
    · rename_i off size hp
      split at hs
      · rename_i o' cs1 hs1
        simp only [Option.some.injEq, Prod.mk.injEq] at hs
        obtain ⟨rfl, rfl⟩ := hs
        obtain ⟨⟨hk, hb⟩, ho'⟩ := ho
        obtain ⟨hsz, hc⟩ := cells_rel h2 hk
        have hlv : v.cells.length = size := hk.1
        have hbc : off + cv.cells.toList.length ≤ c.size := by rw [hr.1]; simp only [Array.length_toList]; omega
        have hr' : CRel sz F ρ n (setCells cs off v.cells) (writeAll c off cv.cells.toList) := by
          refine ⟨by rw [writeAll_size, hr.1, setCells_length (by omega)], fun k y hk' => ?_⟩
          rw [setCells_get (by omega)] at hk'
          rw [writeAll_get _ _ _ hbc]
          have hll : cv.cells.toList.length = v.cells.length := by rw [hlv]; simpa using hsz
          rw [hll]
          split at hk'
          · rename_i hin
            rw [if_pos hin]
            obtain ⟨u, h3, h4, _⟩ := hc _ y hk'
            exact ⟨u, by simpa using h3, h4⟩
          · rename_i hin
            rw [if_neg hin]
            exact hr.2 k y hk'
        obtain ⟨c', h3, h4⟩ := setParts_sound hpl (ps := ps) (pvs := pvs) hr' hs1 ho' (by simpa using hl) (fun j i v hj => by simpa using hv (j + 1) i v (by simpa using hj))
        refine ⟨c', ?_, h4⟩
        simp only [Instr.fill, hpl _ _ hp]
        rw [if_neg (by simp only [hsz, ne_eq, not_true_eq_false, decide_false, Bool.false_or, decide_eq_true_eq, hr.1]; omega)]
        rw [← Array.foldl_toList, Array.toList_zipIdx]
        have := writeAll_fold cv.cells.toList c off 0
        simp only [Nat.add_zero] at this
        rw [this]
        exact h3
      · simp at hs
    · simp at hs

theorem sizesOf_run (hT : tab.checks P = true) {w : World} : ∀ {fds : List Field} {pl : List (Nat × Nat)}, sizesOf tab (fds.map fun (f : Field) => (f.offset, f.type)) = some pl →
    (fds.mapM fun (f : Field) => (do Pure.pure (f.offset, ← sizeOf f.type) : Sem (Nat × Nat))).run P w = .ok pl w
  | [], pl, h => by cases h; rfl
  | f :: fds, pl, h => by
    simp only [List.map_cons, sizesOf] at h
    split at h
    · rename_i ti l h1 h2
      cases h
      rw [List.mapM_cons]
      simp only [Sem.run_bind, (Tab.good hT h1).run_sizeOf, Result.andThen_ok, Sem.run_pure, sizesOf_run hT h2]
    · simp at h

theorem arrPl_get (s : Nat) : ∀ (n i k : Nat) (p : Nat × Nat), (arrPl s i n)[k]? = some p → p = ((i + k) * s, s)
  | 0, i, k, p, h => by simp [arrPl] at h
  | n + 1, i, k, p, h => by
    simp only [arrPl] at h
    cases k with
    | zero => simp at h; exact h.symm
    | succ k =>
      have := arrPl_get s n (i + 1) k p (by simpa using h)
      rw [this]
      congr 2; omega

theorem evS_sound (hT : tab.checks P = true) (hr : Rel (psz P) base w0 m nt F ρ env a w) {t : TypeId} {parts : Array (Nat × Operand)} {ob : Prop} {v : AV} (h : evS tab env t parts = some (ob, v)) (hob : ob) :
    Gives P (psz P) F ρ env.h.length w (Instr.build t (parts.map fun (i, x) => (i, a.eval x))) v := by
  unfold evS at h
  split at h
  · rename_i ti hti
    have hg := Tab.good hT hti
    obtain ⟨info, hi1, hi2, _, z, hz, hzc, hzp, hza⟩ := hg.info
    split at h
    · rename_i pl ps hpl hps
      split at h
      · rename_i o cs hs
        simp only [Option.some.injEq, Prod.mk.injEq] at h
        obtain ⟨rfl, rfl⟩ := h
        obtain ⟨h1, h2⟩ := parts_sound hr hps
        have hlist : (parts.map fun (i, x) => (i, a.eval x)).toList = parts.toList.map fun p => (p.1, a.eval p.2) := by simp
        have hc0 : CRel (psz P) F ρ env.h.length (ti.zero.map AV.d) z.cells := by
          refine ⟨by rw [← Array.length_toList, hzc]; simp, fun k y hk => ?_⟩
          simp only [List.getElem?_map, Option.map_eq_some_iff] at hk
          obtain ⟨d, hd, rfl⟩ := hk
          refine ⟨d.val, ?_, .d (D.val_rep (hzp d (List.mem_of_getElem? hd)))⟩
          rw [← Array.getElem?_toList, hzc]; simp [hd]
        have fin : ∀ {c' : Array Value}, CRel (psz P) F ρ env.h.length cs c' → VRel (psz P) F ρ env.h.length (AV.pack cs) (.agg c') := by
          intro c' hc'
          refine pack_rel hc'.1 (fun k => (c'[k]?).getD .nilIface) (fun k c hk => ?_) (fun k c hk => ?_)
          · obtain ⟨u, h3, _⟩ := hc'.2 k c hk
            rw [h3]; rfl
          · obtain ⟨u, h3, h4⟩ := hc'.2 k c hk
            rw [h3]; exact h4
        have hzero : (zeroValue t).run P w = .ok z w := by simp only [zeroValue, typeInfo, Sem.run_bind, run_program, hi1, Result.andThen_ok, Sem.run_pure, hz]
        obtain ⟨d, hu, hf⟩ := hg.desc
        unfold plOf at hpl
        split at hpl
        · rename_i b fs hk
          rw [hk] at hf
          cases d <;> simp only [TK.fits, Bool.false_eq_true, beq_iff_eq] at hf
          rename_i fds
          subst hf
          have hrun := sizesOf_run (w := w) hT hpl
          obtain ⟨c', h3, h4⟩ := setParts_sound (place := (pl.toArray[·]?)) (fun i p hp => by simpa using hp) hc0 hs hob (pvs := parts.toList.map fun p => (p.1, a.eval p.2)) (by simp [h1]) h2
          refine ⟨.agg c', ?_, fin h4⟩
          simp only [Instr.build, Sem.run_bind, hzero, Result.andThen_ok, Sem.run_pure, run_underlying' hu, Array.mapM_eq_mapM_toList, Sem.run_map, hrun, hlist]
          rw [h3]
          rfl
        · rename_i b nn e hk
          rw [hk] at hf
          cases d <;> simp only [TK.fits, Bool.false_eq_true, Bool.and_eq_true, beq_iff_eq] at hf
          obtain ⟨rfl, rfl⟩ := hf
          split at hpl
          · rename_i te hte
            cases hpl
            obtain ⟨c', h3, h4⟩ := setParts_sound (place := fun i => some (i * te.size, te.size)) (fun i p hp => by rw [arrPl_get _ _ _ _ _ hp]; simp) hc0 hs hob (pvs := parts.toList.map fun p => (p.1, a.eval p.2)) (by simp [h1]) h2
            refine ⟨.agg c', ?_, fin h4⟩
            simp only [Instr.build, Sem.run_bind, hzero, Result.andThen_ok, Sem.run_pure, run_underlying' hu, (Tab.good hT hte).run_sizeOf, hlist, h3]
          · simp at hpl
        · simp at hpl
      · simp at h
    · simp at h
  · simp at h

/-- The bytes of a text, as a slice of their own. -/
def evC (tab : Tab) (env : Env) (s d : TypeId) (x : Operand) : Option (Prop × AV) :=
  match tab.get s, tab.get d, ev env x with
  | some ⟨.str, _, _, _⟩, some ⟨.sl e, _, _, _⟩, some (.d (.str t)) => match tab.get e with
    | some ⟨.int .u8, _, _, _⟩ => some (True, .d (.sl e (t.map fun c => .int .u8 (c.toNat : Int))))
    | _ => none
  | _, _, _ => none

/-- What leaves the blocks as they are: evL, and rows that are built at once. -/
def evX (tab : Tab) (env : Env) : Op → Option (Prop × AV)
  | .convert s d x => match evC tab env s d x with
    | some r => some r
    | none => evL tab env (.convert s d x)
  | .buildSlice t len parts => evB tab env t len parts
  | .build t parts => evS tab env t parts
  | op => evL tab env op

/-- More of the world is known to stay. -/
theorem St.more (hst : St (psz P) base w0 F ρ h w) {F' : Frz} (hle : F.le F') (hF : ∀ y v, F' y = some v → w.cell? y = some v) (hsame : ∀ b r, b < h.length → (ρ b).conc = some r → ∀ y, y.block = r → F' y = F y) : St (psz P) base w0 F' ρ h w :=
  ⟨hF, fun b x hx => (hst.blk b x hx).mono ⟨hle, fun _ _ => Loc.ext_refl _⟩ rfl (Nat.le_refl _) (fun _ _ _ h => h) (fun r hr y hy => hsame b r (List.getElem?_eq_some_iff.mp hx).1 hr y hy), hst.dist, hst.old, hst.hb, hst.lt⟩

theorem evC_sound (hT : tab.checks P = true) (hr : Rel (psz P) base w0 m nt F ρ env a w) {s d : TypeId} {x : Operand} {ob : Prop} {v : AV} (h : evC tab env s d x = some (ob, v)) :
    Does P base w0 F ρ env.h w (do Pure.pure (Next.value (← convert s d (a.eval x)))) env.h v := by
  unfold evC at h
  split at h
  · rename_i e _ _ _ t hs hd hx
    split at h
    · rename_i s1 b1 z1 he
      simp only [Option.some.injEq, Prod.mk.injEq] at h
      obtain ⟨_, rfl⟩ := h
      obtain ⟨ds, hus, hfs⟩ := (Tab.good hT hs).desc
      obtain ⟨dd, hud, hfd⟩ := (Tab.good hT hd).desc
      obtain ⟨de, hue, hfe⟩ := (Tab.good hT he).desc
      rw [tk_sl hfd] at hud
      rw [tk_int hfe] at hue
      have hsz1 : psz P e = 1 := by rw [(Tab.good hT he).psz]; exact (Tab.good hT he).one rfl
      have hcv := (ev_sound hr hx).str_inv
      have hrun := Lib.run_convert_string_bytes (P := P) w s d e ⟨t.toArray⟩ hus hud hue
      rw [← hcv] at hrun
      have hts : (ByteArray.mk t.toArray).size = t.length := by show t.toArray.size = _; simp
      have hcap : t.length ≤ grownCap w t.length 0 e := by simp only [grownCap, Question.cut]; omega
      rw [hts] at hrun
      have hst1 : St (psz P) base w0 F ρ env.h (Lib.bytesWorld w e ⟨t.toArray⟩) := by
        have hst := hr.st
        refine ⟨fun y v hy => ?_, fun b x hx => ?_, hst.dist, ⟨⟨⟨hst.old.1.1.1, hst.old.1.1.2.1, hst.old.1.1.2.2⟩, hst.old.1.2⟩, fun r hr' => ?_⟩, ?_, fun b B h1 h2 => ?_⟩
        · rw [Lib.bytesWorld_old w e _ y (frz_lt hst hy)]
          exact hst.frz y v hy
        · refine (hst.blk b x hx).mono (Ext.refl _ _ _) rfl (Nat.le_refl _) (fun r o hc ho => ?_) (fun _ _ _ _ => rfl)
          rw [Lib.bytesWorld_at_old w e _ r (Array.getElem?_eq_some_iff.mp ho).1]
          exact ho
        · rw [Lib.bytesWorld_at_old w e _ r (by have := hst.hb; omega)]
          exact hst.old.2 r hr'
        · rw [Lib.bytesWorld_size]
          have := hst.hb; omega
        · rw [Lib.bytesWorld_size]
          have := hst.lt b B h1 h2; omega
      have hcell : ∀ (j : Nat) (u : Value), (t.map fun c => Value.int .u8 (c.toNat : Int))[j]? = some u → (Lib.bytesWorld w e ⟨t.toArray⟩).cell? ⟨w.heap.size, j, none⟩ = some u := by
        intro j u hj
        have hjl := (List.getElem?_eq_some_iff.mp hj).1
        simp only [List.length_map] at hjl
        rw [Lib.bytesWorld_cell w e _ j (by rw [hts]; exact hjl)]
        simp only [List.getElem?_map, List.getElem?_eq_getElem hjl, Option.map_some, Option.some.injEq] at hj
        subst hj
        simp [List.getD, hjl]
      have hnone : ∀ y, y.block = w.heap.size → F y = none := by
        intro y hy
        cases hF : F y with
        | none => rfl
        | some u => have := frz_lt hr.st hF; omega
      have hst2 := hst1.more (F' := addFrz F w.heap.size 0 t.length (t.map fun c => Value.int .u8 (c.toNat : Int)).toArray) (fun y u hy => by
          rw [addFrz_other (by have := frz_lt hr.st hy; omega)]; exact hy) (fun y u hy => by
          unfold addFrz at hy
          split at hy
          · rename_i hc
            obtain ⟨yb, yo, ys⟩ := y
            simp only at hc hy
            obtain ⟨rfl, rfl, _, _⟩ := hc
            exact hcell yo u (by simpa using hy)
          · rw [Lib.bytesWorld_old w e _ y (frz_lt hr.st hy)]
            exact hr.st.frz y u hy) (fun b r hb hc y hy => addFrz_other (by have := hr.st.lt b r hb hc; omega))
      refine does_value hrun ⟨fun y u hy => by rw [addFrz_other (by have := frz_lt hr.st hy; omega)]; exact hy, fun _ _ => Loc.ext_refl _⟩ hst2 (.d ?_) (Nat.le_refl _)
      have hlen : (t.map fun c => D.int .u8 (c.toNat : Int)).length = t.length := by simp
      conv => arg 4; rw [← hlen]
      refine FRep.of_row (vs := t.map fun c => Value.int .u8 (c.toNat : Int)) (ad := ⟨w.heap.size, 0, none⟩) (fun y hy => ?_) ?_ rfl (by simpa using hcap) (fun j u hj => ?_)
      · obtain ⟨c, _, rfl⟩ := List.mem_map.mp hy
        rw [hsz1]; rfl
      · exact src_str
      · have hjl := (List.getElem?_eq_some_iff.mp hj).1
        simp only [List.length_map] at hjl
        simp only [Nat.zero_add]
        rw [addFrz_in (by omega) hjl]
        simpa using hj
    · simp at h
  · simp at h

theorem evB_sound (hT : tab.checks P = true) (hr : Rel (psz P) base w0 m nt F ρ env a w) {t : TypeId} {len : Nat} {parts : Array (Nat × Operand)} {ob : Prop} {v : AV} (h : evB tab env t len parts = some (ob, v)) (hob : ob) :
    Does P base w0 F ρ env.h w (do Pure.pure (Next.value (← Instr.buildSlice t len (parts.map fun (i, x) => (i, a.eval x))))) env.h v := by
  unfold evB at h
  split at h
  · rename_i e he
    split at h
    · rename_i te ps hte hps
      split at h
      · rename_i ds hds
        simp only [Option.some.injEq, Prod.mk.injEq] at h
        obtain ⟨h1, rfl⟩ := h
        have hf : freshRow false env.h e len (fillAV (List.replicate len (zeroAV te)) ps) (len * te.size ≤ 16777216 ∧ okParts len te.size ps) = some (ob, env.h ++ [.tail e len], .bl env.h.length e ds) := by
          simp only [freshRow, Bool.false_eq_true, if_false, hds, h1]
        obtain ⟨nx, cv, w', F', ρ', h2, h3, h4, h5, h6, h7⟩ := buildSlice_sound hT hr he hte hps hf hob
        refine ⟨nx, cv, w', F', ρ', h2, h3, h4, h5.cut hr.st.hok, ?_, Nat.le_refl _⟩
        cases h6 with
        | bl hb hrep hl hw hc =>
          by_cases h0 : len = 0
          · rw [if_pos h0]
            obtain ⟨B, cap, c1, c2, _⟩ := h5.blk env.h.length (.tail e len) (by simp)
            rw [c1] at hl
            cases hl
            have hlen : ds.length = len := by
              have := AV.allD_some hds
              have h8 := congrArg List.length this
              rw [fillAV_length] at h8
              simpa using h8.symm
            have := hc hlen.symm
            subst this
            subst h0
            have hcap : cap = 0 := by
              rcases h3 with rfl | ⟨rfl, hu⟩
              · simp only [Sem.run_bind, Sem.run_pure] at h2
                have hu := (slOf_sound hT he).1
                have hg := Tab.good hT hte
                simp only [Instr.buildSlice, Sem.run_bind, run_underlying' hu, Result.andThen_ok, hg.run_sizeOf, Nat.zero_mul, Sem.run_ite] at h2
                rw [if_neg (by omega)] at h2
                simp only [if_true, Sem.run_pure, Result.andThen_ok] at h2
                split at h2
                · simp only [newRow, Sem.run_bind, run_newObj, Result.andThen_ok, Sem.run_pure, Result.ok.injEq, Next.value.injEq, Value.slice.injEq] at h2
                  omega
                · simp at h2
              · cases hu
            subst hcap
            exact .z0
          · rw [if_neg h0]
            exact .d hrep
      · simp at h
    · simp at h
  · simp at h

end Go.Vm
