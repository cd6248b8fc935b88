/- VMb: Vm9, VmG, VmH, VmQ, VmI, VmJ. -/
import Derived.Test.YtkmeiandnebaeaaGreatDoorVMa
import Derived.Maps.RangeRun
import Derived.Lib.ConvBytes
/- New blocks and stores. -/
set_option linter.unusedSimpArgs false
namespace Go.Vm
variable {P : Program} {base : Nat} {w0 : World} {m nt : Nat} {F : Frz} {ρ : Env0} {env : Env} {a : Act} {w : World} {n : Nat} {tab : Tab} {sz : TypeId → Nat} {h : List Blk}

def upd (ρ : Env0) (b : Nat) (l : Loc) : Env0 := fun i => if i = b then l else ρ i

theorem upd_same (ρ : Env0) (b : Nat) (l : Loc) : upd ρ b l b = l := by simp [upd]
theorem upd_ne {ρ : Env0} {b i : Nat} {l : Loc} (hne : i ≠ b) : upd ρ b l i = ρ i := by simp [upd, hne]

theorem Ext.upd (n : Nat) (F : Frz) (ρ : Env0) (l : Loc) : Ext n F ρ F (upd ρ n l) :=
  ⟨Frz.le_refl _, fun b hb => by rw [upd_ne (by omega)]; exact Loc.ext_refl _⟩

theorem heap_push {w : World} {o x : Obj} {r : Nat} (hr : w.heap[r]? = some x) : (w.alloc o).heap[r]? = some x := by
  have hlt : r < w.heap.size := by
    rcases Nat.lt_or_ge r w.heap.size with h | h
    · exact h
    · simp [Array.getElem?_eq_none h] at hr
  simp only [World.alloc, Array.getElem?_push]
  simp [Nat.ne_of_lt hlt, hr]

theorem heap_new (w : World) (o : Obj) : (w.alloc o).heap[w.heap.size]? = some o := by
  unfold World.alloc
  exact Array.getElem?_push_size

theorem cell_push {w : World} {o : Obj} {x : Addr} {v : Value} (hx : w.cell? x = some v) : (w.alloc o).cell? x = some v := by
  rw [World.cell?_alloc_lt w o x (World.block_lt_of_cell? w x hx)]; exact hx

/-- A block stays as it is told when the world gets further blocks and more is known. -/
theorem BlkRel.mono {w w' : World} {F F' : Frz} {ρ ρ' : Env0} {n n' b : Nat} {x : Blk} (hb : BlkRel sz base F ρ n w b x) (hx : Ext n F ρ F' ρ') (hρ : ρ' b = ρ b) (hn : n ≤ n')
    (hw : ∀ r o, (ρ b).conc = some r → w.heap[r]? = some o → w'.heap[r]? = some o)
    (hF : ∀ r, (ρ b).conc = some r → ∀ y, y.block = r → F' y = F y) : BlkRel sz base F' ρ' n' w' b x := by
  cases x with
  | cells e xs =>
    obtain ⟨B, N, c, e0, h1, h2, h3, h4, h5, h6⟩ := hb
    have hc : (ρ b).conc = some B := by rw [h1]; rfl
    refine ⟨B, N, c, e0, by rw [hρ]; exact h1, h2, hw _ _ hc h3, fun y hy => by rw [hF _ hc y hy]; exact h4 y hy, h5, fun i x hi => ?_⟩
    obtain ⟨h7, h8⟩ := h6 i x hi
    refine ⟨h7, fun k y hk => ?_⟩
    obtain ⟨v, h9, h10, h11⟩ := h8 k y hk
    exact ⟨v, h9, h10.mono hx hn, h11⟩
  | tail e hw' =>
    obtain ⟨A, cap, h1, h2, h3⟩ := hb
    refine ⟨A, cap, by rw [hρ]; exact h1, h2, fun hc => ?_⟩
    obtain ⟨ad, c, e0, h4, h5, h6, h7, h8, h9⟩ := h3 hc
    have hcc : (ρ b).conc = some ad.block := by rw [h1, h4]; simp [Loc.conc, hc]
    exact ⟨ad, c, e0, h4, h5, h6, hw _ _ hcc h7, h8, fun y hy hne => h9 y hy (by rw [← hF _ hcc y hy]; exact hne)⟩
  | map es =>
    obtain ⟨r, mm, h1, h2, h3, h4, h5⟩ := hb
    have hc : (ρ b).conc = some r := by rw [h1]; rfl
    refine ⟨r, mm, by rw [hρ]; exact h1, h2, hw _ _ hc h3, h4, fun i k x hi => ?_⟩
    obtain ⟨en, h6, h7, h8, h9⟩ := h5 i k x hi
    exact ⟨en, h6, h7, h8.mono hx.frz, h9.mono hx hn⟩
  | iter mb cnt seen =>
    obtain ⟨r, r', h1, h2, h3, h4, h5⟩ := hb
    have hc : (ρ b).conc = some r := by rw [h1]; rfl
    exact ⟨r, r', by rw [hρ]; exact h1, h2, by omega, by have := hx.loc _ h3; rw [h4] at this; exact this, hw _ _ hc h5⟩
  | gone => trivial

theorem BlkRel.conc_lt {w : World} {b : Nat} (hst : St sz base w0 F ρ h w) (hb : b < h.length) {r : Nat} (hc : (ρ b).conc = some r) : r < w.heap.size := hst.lt b r hb hc

/-- A new object in the world is a new block. -/
theorem St.push (hst : St sz base w0 F ρ h w) {o : Obj} {blk : Blk} {l : Loc} {F' : Frz} (hl : l.conc = some w.heap.size ∨ l.conc = none)
    (hF : F.le F') (hFo : ∀ y, y.block < w.heap.size → F' y = F y) (hFn : ∀ y v, F' y = some v → y.block = w.heap.size → (w.alloc o).cell? y = some v)
    (hFl : ∀ y v, F' y = some v → y.block ≤ w.heap.size)
    (hb : BlkRel sz base F' (upd ρ h.length l) (h.length + 1) (w.alloc o) h.length blk) : St sz base w0 F' (upd ρ h.length l) (h ++ [blk]) (w.alloc o) := by
  have hx : Ext h.length F ρ F' (upd ρ h.length l) := ⟨hF, fun b hb => by rw [upd_ne (by omega)]; exact Loc.ext_refl _⟩
  constructor
  · intro y v hy
    rcases Nat.lt_or_eq_of_le (hFl y v hy) with h1 | h1
    · rw [hFo y h1] at hy
      exact cell_push (hst.frz y v hy)
    · exact hFn y v hy h1
  · intro b x hbx
    rw [List.length_append, List.length_singleton]
    rcases Nat.lt_trichotomy b h.length with h1 | h1 | h1
    · rw [List.getElem?_append_left h1] at hbx
      exact (hst.blk b x hbx).mono hx (upd_ne (by omega)) (by omega) (fun r o hc hr => heap_push hr) (fun r hc y hy => hFo y (by rw [hy]; exact hst.lt b r h1 hc))
    · subst h1
      simp only [List.getElem?_append_right (Nat.le_refl _), Nat.sub_self, List.getElem?_cons_zero, Option.some.injEq] at hbx
      subst hbx
      exact hb
    · rw [List.getElem?_eq_none (by simp; omega)] at hbx
      cases hbx
  · intro b b' B hb1 hb2 hc1 hc2
    simp only [List.length_append, List.length_singleton] at hb1 hb2
    by_cases e1 : b = h.length <;> by_cases e2 : b' = h.length
    · omega
    · subst e1
      rw [upd_same] at hc1
      rw [upd_ne e2] at hc2
      have := hst.lt b' B (by omega) hc2
      rcases hl with hl | hl <;> rw [hl] at hc1 <;> cases hc1
      omega
    · subst e2
      rw [upd_same] at hc2
      rw [upd_ne e1] at hc1
      have := hst.lt b B (by omega) hc1
      rcases hl with hl | hl <;> rw [hl] at hc2 <;> cases hc2
      omega
    · rw [upd_ne e1] at hc1
      rw [upd_ne e2] at hc2
      exact hst.dist b b' B (by omega) (by omega) hc1 hc2
  · refine ⟨hst.old.1, fun r hr => ?_⟩
    rw [← hst.old.2 r hr]
    have := hst.hb
    simp only [World.alloc, Array.getElem?_push]
    rw [if_neg (by omega)]
  · have := hst.hb; simp; omega
  · intro b B hb hc
    simp only [List.length_append, List.length_singleton] at hb
    simp only [World.size_alloc]
    by_cases e1 : b = h.length
    · subst e1
      rw [upd_same] at hc
      rcases hl with hl | hl <;> rw [hl] at hc <;> cases hc
      omega
    · rw [upd_ne e1] at hc
      have := hst.lt b B (by omega) hc
      omega

theorem frz_lt (hst : St sz base w0 F ρ h w) {y : Addr} {v : Value} (hy : F y = some v) : y.block < w.heap.size := World.block_lt_of_cell? w y (hst.frz y v hy)

/-- A new block of one variable. -/
theorem St.new_var (hst : St sz base w0 F ρ h w) {e e0 : TypeId} {x : AV} {cs : Array Value} (hl : x.cells.length = sz e) (hs : sz e = cs.size) (he : e0 = e)
    (hv : ∀ (k : Nat) (y : AV), x.cells[k]? = some y → ∃ v, cs[k]? = some v ∧ VRel sz F ρ h.length y v ∧ v.oneCell' = true) :
    St sz base w0 F (upd ρ h.length (.mt w.heap.size 1)) (h ++ [.cells e [x]]) (w.alloc (.cells cs e0)) := by
  refine hst.push (.inl rfl) (Frz.le_refl _) (fun _ _ => rfl) (fun y v hy hyb => ?_) (fun y v hy => by have := frz_lt hst hy; omega) ?_
  · have := frz_lt hst hy; omega
  · refine ⟨w.heap.size, 1, cs, e0, upd_same _ _ _, hst.hb, heap_new _ _, fun y hy => ?_, ⟨by simp, by simpa using hs, he⟩, fun i x' hi => ?_⟩
    · cases hF : F y with
      | none => rfl
      | some v => have := frz_lt hst hF; omega
    · cases i with
      | zero =>
        simp only [List.getElem?_cons_zero, Option.some.injEq] at hi
        subst hi
        refine ⟨hl, fun k y hk => ?_⟩
        obtain ⟨v, h1, h2, h3⟩ := hv k y hk
        exact ⟨v, by simpa using h1, h2.mono (Ext.upd _ _ _ _) (by omega), h3⟩
      | succ i => simp at hi

/-- Is it the value of one cell? -/
def D.leaf : D → Bool
  | .agg _ => false
  | _ => true
def AV.leaf : AV → Bool
  | .d x => x.leaf
  | .agg _ | .tup _ | .unk | .pb _ => false
  | _ => true

theorem leaf_one {y : AV} {v : Value} (hv : VRel sz F ρ n y v) (hl : y.leaf = true) : v.oneCell' = true := by
  cases hv with
  | d hd => cases hd <;> first | rfl | (simp [AV.leaf, D.leaf] at hl)
  | bl hb h hl' hw hc => cases h; rfl
  | _ => first | rfl | (simp [AV.leaf] at hl)

/-- A value of k cells, each of one piece. -/
def okCells (v : AV) (k : Nat) : Prop := v.cells.length = k ∧ ∀ y ∈ v.cells, y.leaf = true

def okParts (len size : Nat) : List (Nat × AV) → Prop
  | [] => True
  | (i, v) :: r => (i < len ∧ okCells v size) ∧ okParts len size r

theorem okParts_iff {len size : Nat} : ∀ {ps : List (Nat × AV)}, okParts len size ps ↔ ∀ p ∈ ps, p.1 < len ∧ okCells p.2 size
  | [] => by simp [okParts]
  | (i, v) :: r => by simp only [okParts, okParts_iff (ps := r), List.forall_mem_cons]

theorem cells_rel {v : AV} {cv : Value} {k : Nat} (hv : VRel sz F ρ n v cv) (hk : okCells v k) :
    cv.cells.size = k ∧ ∀ (j : Nat) (y : AV), v.cells[j]? = some y → ∃ u, cv.cells[j]? = some u ∧ VRel sz F ρ n y u ∧ u.oneCell' = true := by
  obtain ⟨hl, hlf⟩ := hk
  have one : v.cells = [v] → (∀ vs, cv ≠ .agg vs) → cv.cells.size = k ∧ ∀ (j : Nat) (y : AV), v.cells[j]? = some y → ∃ u, cv.cells[j]? = some u ∧ VRel sz F ρ n y u ∧ u.oneCell' = true := by
    intro h1 h2
    have hc : cv.cells = #[cv] := by cases cv <;> first | rfl | exact absurd rfl (h2 _)
    rw [hc]
    rw [h1] at hl hlf ⊢
    refine ⟨by simpa using hl, fun j y hj => ?_⟩
    cases j with
    | zero =>
      simp only [List.getElem?_cons_zero, Option.some.injEq] at hj
      subst hj
      exact ⟨cv, rfl, hv, leaf_one hv (hlf _ (by simp))⟩
    | succ j => simp at hj
  cases v with
  | d x =>
    cases x with
    | agg cs =>
      cases hv with | d hv => cases hv with
      | agg _ vs hs val hvv hr =>
        simp only [AV.cells, D.cells, List.length_map] at hl hlf ⊢
        refine ⟨by simp [Value.cells, hs, hl], fun j y hj => ?_⟩
        simp only [List.getElem?_map, Option.map_eq_some_iff] at hj
        obtain ⟨c, hc, rfl⟩ := hj
        have hr' : VRel sz F ρ n (.d c) (val j) := .d (hr j c hc)
        exact ⟨val j, hvv j c hc, hr', leaf_one hr' (hlf _ (List.mem_map.mpr ⟨c, List.mem_of_getElem? hc, rfl⟩))⟩
    | _ => exact one rfl (by intro vs e; subst e; cases hv with | d hv => cases hv)
  | agg cs =>
    cases hv with
    | agg _ vs hs val hvv hr =>
      simp only [AV.cells] at hl hlf ⊢
      exact ⟨by simp [Value.cells, hs, hl], fun j y hj => ⟨val j, hvv j y hj, hr j y hj, leaf_one (hr j y hj) (hlf _ (List.mem_of_getElem? hj))⟩⟩
  | tup vs => simp [AV.cells, AV.leaf] at hlf
  | unk => simp [AV.cells, AV.leaf] at hlf
  | pb p => simp [AV.cells, AV.leaf] at hlf
  | bl b e xs => exact one rfl (by intro vs e; subst e; cases hv with | bl hb h hl' hw hc => cases h)
  | _ => exact one rfl (by intro vs e; subst e; cases hv)

/-- The world with one block written anew. -/
def setBlk (w : World) (B : Nat) (o : Obj) : World := { w with heap := w.heap.setIfInBounds B o }

def writeAll (c : Array Value) (o : Nat) : List Value → Array Value
  | [] => c
  | v :: vs => writeAll (c.setIfInBounds o v) (o + 1) vs

theorem writeAll_size (c : Array Value) (o : Nat) (vs : List Value) : (writeAll c o vs).size = c.size := by
  induction vs generalizing c o with
  | nil => rfl
  | cons v vs ih => simp [writeAll, ih]

theorem writeAll_get (c : Array Value) (o : Nat) (vs : List Value) (hs : o + vs.length ≤ c.size) (i : Nat) :
    (writeAll c o vs)[i]? = if o ≤ i ∧ i < o + vs.length then vs[i - o]? else c[i]? := by
  induction vs generalizing c o with
  | nil => simp only [writeAll, List.length_nil]; rw [if_neg (by omega)]
  | cons v vs ih =>
    simp only [List.length_cons] at hs
    rw [writeAll, ih _ _ (by simp; omega)]
    by_cases h1 : o + 1 ≤ i ∧ i < o + 1 + vs.length
    · rw [if_pos h1, if_pos (by simp only [List.length_cons]; omega), show i - o = (i - (o + 1)) + 1 from by omega, List.getElem?_cons_succ]
    · rw [if_neg h1]
      by_cases h2 : i = o
      · subst h2
        rw [if_pos (by simp only [List.length_cons]; omega)]
        simp [show i < c.size from by omega]
      · rw [if_neg (by simp only [List.length_cons]; omega)]
        simp [Ne.symm h2]

theorem setBlk_get {w : World} {B r : Nat} {o : Obj} : (setBlk w B o).heap[r]? = if r = B then (if B < w.heap.size then some o else none) else w.heap[r]? := by
  simp only [setBlk, Array.getElem?_setIfInBounds]
  by_cases h : r = B
  · subst h; by_cases h2 : r < w.heap.size <;> simp [h2]
  · simp [h, Ne.symm h]

theorem setCell_setBlk {w : World} {B o : Nat} {c : Array Value} {e0 : TypeId} {v : Value} (hb : w.heap[B]? = some (.cells c e0 (0, 0))) :
    w.setCell ⟨B, o, none⟩ v = setBlk w B (.cells (c.setIfInBounds o v) e0 (0, 0)) := by
  obtain ⟨hlt, he⟩ := Array.getElem?_eq_some_iff.mp hb
  simp only [World.setCell, setBlk]
  congr 1
  apply Array.ext
  · simp
  · intro i h1 h2
    by_cases hi : B = i
    · subst hi; simp [Array.getElem_modify, he]
    · rw [Array.getElem_modify, if_neg hi, Array.getElem_setIfInBounds, if_neg hi]

theorem setBlk_setBlk {w : World} {B : Nat} {x y : Obj} : (setBlk (setBlk w B x) B y) = setBlk w B y := by
  simp only [setBlk]
  congr 1
  apply Array.ext
  · simp
  · intro i h1 h2
    by_cases hi : B = i
    · subst hi; simp
    · simp

theorem storeCells_run {B o : Nat} {e0 : TypeId} : ∀ (vs : List Value) (i : Nat) (c : Array Value) (w : World), w.heap[B]? = some (.cells c e0 (0, 0)) → o + i + vs.length ≤ c.size →
    (∀ v ∈ vs, v.oneCell' = true) → (storeCells ⟨B, o, none⟩ vs i).run P w = .ok () (setBlk w B (.cells (writeAll c (o + i) vs) e0 (0, 0)))
  | [], i, c, w, hb, _, _ => by
    simp only [storeCells, Sem.run_pure, writeAll]
    congr 1
    obtain ⟨hlt, he⟩ := Array.getElem?_eq_some_iff.mp hb
    cases w with | mk heap tape drawn os out =>
    simp only [setBlk]
    congr 1
    apply Array.ext
    · simp
    · intro j h1 h2
      by_cases hj : B = j
      · subst hj; simpa using he
      · rw [Array.getElem_setIfInBounds, if_neg hj]
  | v :: vs, i, c, w, hb, hs, hv => by
    obtain ⟨hlt, he⟩ := Array.getElem?_eq_some_iff.mp hb
    simp only [List.length_cons] at hs
    have hcell : w.cell? ⟨B, o + i, none⟩ = some (c[o + i]'(by omega)) := by
      simp only [World.cell?, hb]
      simp [show o + i < c.size from by omega]
    have hfr : w.frozen? ⟨B, o + i, none⟩ = false := by simp [World.frozen?, hb]
    simp only [storeCells, Sem.run_bind, add_none]
    rw [run_store P w _ v .plain (hv v (by simp))]
    simp only [hcell, hfr, Bool.false_eq_true, if_false, Result.andThen_ok]
    rw [setCell_setBlk hb]
    rw [storeCells_run (e0 := e0) vs (i + 1) (c.setIfInBounds (o + i) v) _ (by rw [setBlk_get]; simp [hlt]) (by simp; omega) (fun u hu => hv u (by simp [hu]))]
    rw [setBlk_setBlk]
    rfl

theorem setCells_length {cs vs : List AV} {off : Nat} (hs : off + vs.length ≤ cs.length) : (setCells cs off vs).length = cs.length := by
  simp only [setCells, List.length_append, List.length_take, List.length_drop]; omega

theorem setCells_get {cs vs : List AV} {off : Nat} (hs : off + vs.length ≤ cs.length) (j : Nat) : (setCells cs off vs)[j]? = if off ≤ j ∧ j < off + vs.length then vs[j - off]? else cs[j]? := by
  have hlt : (cs.take off).length = off := by simp only [List.length_take]; omega
  simp only [setCells]
  by_cases h1 : j < off
  · rw [if_neg (by omega), List.getElem?_append_left (by rw [List.length_append]; omega), List.getElem?_append_left (by omega), List.getElem?_take_of_lt h1]
  · by_cases h2 : j < off + vs.length
    · rw [if_pos (by omega), List.getElem?_append_left (by rw [List.length_append]; omega), List.getElem?_append_right (by omega), hlt]
    · rw [if_neg (by omega), List.getElem?_append_right (by rw [List.length_append]; omega), List.length_append, hlt, List.getElem?_drop]
      congr 1; omega

theorem setBlk_cell {w : World} {B : Nat} {o : Obj} {y : Addr} (hy : y.block ≠ B) : (setBlk w B o).cell? y = w.cell? y := by
  simp only [World.cell?, setBlk_get, hy, if_false]

theorem setBlk_size {w : World} {B : Nat} {o : Obj} : (setBlk w B o).heap.size = w.heap.size := by simp [setBlk]

/-- One block of the world is written anew. -/
theorem St.rewrite (hst : St sz base w0 F ρ h w) {b B : Nat} {o : Obj} {blk : Blk} (hb : b < h.length) (hl : (∃ N, ρ b = .mt B N) ∨ ρ b = .obj B) (hB : base ≤ B)
    (hF : ∀ y, y.block = B → F y = none) (hn : BlkRel sz base F ρ h.length (setBlk w B o) b blk) : St sz base w0 F ρ (h.set b blk) (setBlk w B o) := by
  have hc : (ρ b).conc = some B := by rcases hl with ⟨N, hl⟩ | hl <;> rw [hl] <;> rfl
  constructor
  · intro y v hy
    rw [setBlk_cell (fun e => by rw [hF y e] at hy; cases hy)]
    exact hst.frz y v hy
  · intro b' x hx
    rw [List.length_set]
    by_cases e1 : b' = b
    · subst e1
      rw [List.getElem?_set_self hb] at hx
      cases hx
      exact hn
    · rw [List.getElem?_set_ne (Ne.symm e1)] at hx
      have hlt := (List.getElem?_eq_some_iff.mp hx).1
      refine (hst.blk b' x hx).mono (Ext.refl _ _ _) rfl (Nat.le_refl _) (fun r o' hr ho => ?_) (fun _ _ _ _ => rfl)
      rw [setBlk_get, if_neg (fun e => e1 (hst.dist b' b B hlt hb (by rw [hr, e]) hc))]
      exact ho
  · intro b1 b2 B' h1 h2 c1 c2
    rw [List.length_set] at h1 h2
    exact hst.dist b1 b2 B' h1 h2 c1 c2
  · refine ⟨hst.old.1, fun r hr => ?_⟩
    rw [setBlk_get, if_neg (by omega)]
    exact hst.old.2 r hr
  · rw [setBlk_size]; exact hst.hb
  · intro b1 B' h1 c1
    rw [List.length_set] at h1
    rw [setBlk_size]
    exact hst.lt b1 B' h1 c1

theorem store_sound (hst : St (psz P) base w0 F ρ h w) {t : TypeId} {ti : TI} (hg : ti.Good P t) {b : Nat} {e : TypeId} {xs : List AV} {i off : Nat} {ca cv : Value} {v x' : AV}
    (hb : h[b]? = some (.cells e xs)) (hp : VRel (psz P) F ρ n (.ptr b e i off) ca) (hi : i < xs.length) (hk : off + ti.size ≤ psz P e) (hv : VRel (psz P) F ρ h.length v cv) (hok : okCells v ti.size)
    (hx' : x'.cells = setCells (xs.getD i .unk).cells off v.cells) :
    ∃ w', (Instr.storeAt t ca cv).run P w = .ok () w' ∧ St (psz P) base w0 F ρ (h.set b (.cells e (xs.set i x'))) w' := by
  cases hp with
  | @ptr _ _ _ _ ad hbn hl' =>
    have hlt := (List.getElem?_eq_some_iff.mp hb).1
    obtain ⟨B, N, c, e0, hl, h2, h3, h4, h5, h6⟩ := hst.blk b _ hb
    have := hl' _ _ hl
    subst this
    obtain ⟨hsz, hcr⟩ := cells_rel hv hok
    have hxi : xs[i]? = some (xs.getD i .unk) := by simp [List.getD, List.getElem?_eq_getElem hi]
    obtain ⟨hlen, hcs⟩ := h6 i _ hxi
    have hlc : cv.cells.toList.length = ti.size := by simpa using hsz
    have hpos : i * psz P e + off + ti.size ≤ c.size := by
      have hm1 : xs.length * psz P e ≤ N * psz P e := Nat.mul_le_mul_right _ h5.1
      have hm2 := h5.2.1
      have : (i + 1) * psz P e ≤ xs.length * psz P e := Nat.mul_le_mul_right _ hi
      rw [Nat.add_mul] at this
      omega
    have hone : ∀ u ∈ cv.cells.toList, u.oneCell' = true := by
      intro u hu
      obtain ⟨j, hj⟩ := List.getElem?_of_mem hu
      have hjl := (List.getElem?_eq_some_iff.mp hj).1
      have : v.cells[j]? = some (v.cells[j]'(by rw [hok.1]; omega)) := List.getElem?_eq_getElem _
      obtain ⟨u', hu', _, ho⟩ := hcr j _ this
      have : u' = u := by
        have h9 : cv.cells[j]? = some u := by simpa using hj
        rw [h9] at hu'; cases hu'; rfl
      rw [← this]; exact ho
    refine ⟨setBlk w B (.cells (writeAll c (i * psz P e + off) cv.cells.toList) e0 (0, 0)), ?_, ?_⟩
    · simp only [Instr.storeAt, Instr.sureAddr, pure_bind, storeVar, Sem.run_bind, hg.run_sizeOf, Result.andThen_ok, hsz, ne_eq, not_true_eq_false, if_false]
      have := storeCells_run (P := P) (B := B) (o := i * psz P e + off) (e0 := e0) cv.cells.toList 0 c w h3 (by rw [hlc]; omega) hone
      simpa using this
    · refine hst.rewrite hlt (.inl ⟨N, hl⟩) h2 h4 ⟨B, N, writeAll c (i * psz P e + off) cv.cells.toList, e0, hl, h2, by rw [setBlk_get]; simp [(Array.getElem?_eq_some_iff.mp h3).1], h4, by rw [writeAll_size, List.length_set]; exact h5, fun i' x hx => ?_⟩
      have hvl := hok.1
      have hoff : off + v.cells.length ≤ (xs.getD i .unk).cells.length := by rw [hlen, hvl]; exact hk
      by_cases hii : i' = i
      · subst hii
        rw [List.getElem?_set_self hi] at hx
        cases hx
        rw [hx', setCells_length hoff]
        refine ⟨hlen, fun k y hky => ?_⟩
        rw [setCells_get hoff] at hky
        rw [writeAll_get c _ _ (by rw [hlc]; omega), hlc]
        by_cases hin : off ≤ k ∧ k < off + v.cells.length
        · rw [if_pos hin] at hky
          rw [if_pos (by omega)]
          obtain ⟨u, hu, hr', ho⟩ := hcr _ _ hky
          refine ⟨u, ?_, hr', ho⟩
          rw [show i' * psz P e + k - (i' * psz P e + off) = k - off from by omega]
          simpa using hu
        · rw [if_neg hin] at hky
          rw [if_neg (by omega)]
          exact hcs k y hky
      · rw [List.getElem?_set_ne (Ne.symm hii)] at hx
        obtain ⟨hl2, hc2⟩ := h6 i' x hx
        refine ⟨hl2, fun k y hky => ?_⟩
        obtain ⟨u, hu, hr', ho⟩ := hc2 k y hky
        refine ⟨u, ?_, hr', ho⟩
        have hkl := (List.getElem?_eq_some_iff.mp hky).1
        rw [writeAll_get c _ _ (by rw [hlc]; omega), hlc, if_neg, hu]
        intro hin
        rcases Nat.lt_or_gt_of_ne hii with hlt' | hgt
        · have : (i' + 1) * psz P e ≤ i * psz P e := Nat.mul_le_mul_right _ hlt'
          rw [Nat.add_mul] at this
          omega
        · have : (i + 1) * psz P e ≤ i' * psz P e := Nat.mul_le_mul_right _ hgt
          rw [Nat.add_mul] at this
          omega

/-- A block is forgotten for good. -/
theorem St.kill (hst : St sz base w0 F ρ h w) {b B N : Nat} (hl : ρ b = .mt B N) (hb : b < h.length) : St sz base w0 F (upd ρ b .dead) (h.set b .gone) w ∧ Ext h.length F ρ F (upd ρ b .dead) := by
  have hx : Ext h.length F ρ F (upd ρ b .dead) := ⟨Frz.le_refl _, fun b' _ => by
    by_cases e1 : b' = b
    · subst e1; rw [upd_same, hl]; exact .inr rfl
    · rw [upd_ne e1]; exact Loc.ext_refl _⟩
  refine ⟨⟨hst.frz, fun b' x hx' => ?_, fun b1 b2 B' h1 h2 c1 c2 => ?_, hst.old, hst.hb, fun b1 B' h1 c1 => ?_⟩, hx⟩
  · rw [List.length_set]
    by_cases e1 : b' = b
    · subst e1
      rw [List.getElem?_set_self hb] at hx'
      cases hx'
      trivial
    · rw [List.getElem?_set_ne (Ne.symm e1)] at hx'
      exact (hst.blk b' x hx').mono hx (upd_ne e1) (Nat.le_refl _) (fun _ _ _ h => h) (fun _ _ _ _ => rfl)
  · rw [List.length_set] at h1 h2
    by_cases e1 : b1 = b
    · subst e1; rw [upd_same] at c1; cases c1
    · by_cases e2 : b2 = b
      · subst e2; rw [upd_same] at c2; cases c2
      · rw [upd_ne e1] at c1; rw [upd_ne e2] at c2
        exact hst.dist b1 b2 B' h1 h2 c1 c2
  · rw [List.length_set] at h1
    by_cases e1 : b1 = b
    · subst e1; rw [upd_same] at c1; cases c1
    · rw [upd_ne e1] at c1
      exact hst.lt b1 B' h1 c1

/-- A block of elements gets a new name: the last one. -/
theorem St.rename (hst : St sz base w0 F ρ h w) {b B N : Nat} {e : TypeId} {xs : List AV} (hl : ρ b = .mt B N) (hlt : b < h.length) (hb : BlkRel sz base F ρ h.length w b (.cells e xs)) :
    St sz base w0 F (upd (upd ρ b .dead) h.length (.mt B N)) (h.set b .gone ++ [.cells e xs]) w ∧ Ext h.length F ρ F (upd (upd ρ b .dead) h.length (.mt B N)) := by
  have hx : Ext h.length F ρ F (upd (upd ρ b .dead) h.length (.mt B N)) := ⟨Frz.le_refl _, fun b' hb' => by
    rw [upd_ne (by omega)]
    by_cases e1 : b' = b
    · subst e1; rw [upd_same, hl]; exact .inr rfl
    · rw [upd_ne e1]; exact Loc.ext_refl _⟩
  have hc : (ρ b).conc = some B := by rw [hl]; rfl
  have hold : ∀ b' B', b' ≠ h.length → ((upd (upd ρ b .dead) h.length (.mt B N)) b').conc = some B' → b' ≠ b ∧ (ρ b').conc = some B' := by
    intro b' B' hne hcc
    rw [upd_ne hne] at hcc
    by_cases e1 : b' = b
    · subst e1; rw [upd_same] at hcc; cases hcc
    · rw [upd_ne e1] at hcc; exact ⟨e1, hcc⟩
  refine ⟨⟨hst.frz, fun b' x hx' => ?_, fun b1 b2 B' h1 h2 c1 c2 => ?_, hst.old, hst.hb, fun b1 B' h1 c1 => ?_⟩, hx⟩
  · simp only [List.length_append, List.length_set, List.length_singleton]
    rcases Nat.lt_trichotomy b' h.length with h1 | h1 | h1
    · rw [List.getElem?_append_left (by simpa using h1)] at hx'
      by_cases e1 : b' = b
      · subst e1
        rw [List.getElem?_set_self hlt] at hx'
        cases hx'
        trivial
      · rw [List.getElem?_set_ne (Ne.symm e1)] at hx'
        exact (hst.blk b' x hx').mono hx (by rw [upd_ne (by omega), upd_ne e1]) (by omega) (fun _ _ _ h => h) (fun _ _ _ _ => rfl)
    · subst h1
      rw [List.getElem?_append_right (by simp)] at hx'
      simp only [List.length_set, Nat.sub_self, List.getElem?_cons_zero, Option.some.injEq] at hx'
      subst hx'
      obtain ⟨B0, N0, c, e0, h1, h2, h3, h4, h5, h6⟩ := hb
      rw [hl] at h1
      cases h1
      refine ⟨B, N, c, e0, upd_same _ _ _, h2, h3, h4, h5, fun i x hi => ?_⟩
      obtain ⟨h7, h8⟩ := h6 i x hi
      refine ⟨h7, fun k y hk => ?_⟩
      obtain ⟨v, h9, h10, h11⟩ := h8 k y hk
      exact ⟨v, h9, h10.mono hx (by omega), h11⟩
    · rw [List.getElem?_eq_none (by simp; omega)] at hx'
      cases hx'
  · simp only [List.length_append, List.length_set, List.length_singleton] at h1 h2
    by_cases e1 : b1 = h.length
    · by_cases e2 : b2 = h.length
      · omega
      · obtain ⟨hne, c2⟩ := hold b2 B' e2 c2
        subst e1
        rw [upd_same] at c1
        cases c1
        exact absurd (hst.dist b2 b B (by omega) hlt c2 hc) hne
    · obtain ⟨hne, c1⟩ := hold b1 B' e1 c1
      by_cases e2 : b2 = h.length
      · subst e2
        rw [upd_same] at c2
        cases c2
        exact absurd (hst.dist b1 b B (by omega) hlt c1 hc) hne
      · obtain ⟨_, c2⟩ := hold b2 B' e2 c2
        exact hst.dist b1 b2 B' (by omega) (by omega) c1 c2
  · simp only [List.length_append, List.length_set, List.length_singleton] at h1
    by_cases e1 : b1 = h.length
    · subst e1
      rw [upd_same] at c1
      cases c1
      exact hst.lt b B hlt hc
    · obtain ⟨_, c1⟩ := hold b1 B' e1 c1
      exact hst.lt b1 B' (by omega) c1

end Go.Vm

/- Slices that grow: new builders, growing in place, growing elsewhere. -/
set_option linter.unusedSimpArgs false
namespace Go.Vm
variable {P : Program} {sz : TypeId → Nat} {base : Nat} {w0 : World} {m nt : Nat} {F : Frz} {ρ : Env0} {env : Env} {a : Act} {w : World} {n : Nat} {tab : Tab} {h : List Blk}

/-- More cells of one block are frozen: those from lo on, below hi. -/
def addFrz (F : Frz) (B lo hi : Nat) (c : Array Value) : Frz := fun a => if a.block = B ∧ a.spot = none ∧ lo ≤ a.off ∧ a.off < hi then c[a.off]? else F a

theorem addFrz_in {B lo hi : Nat} {c : Array Value} {o : Nat} (h1 : lo ≤ o) (h2 : o < hi) : addFrz F B lo hi c ⟨B, o, none⟩ = c[o]? := by
  simp [addFrz, h1, h2]
theorem addFrz_other {B lo hi : Nat} {c : Array Value} {y : Addr} (h1 : y.block ≠ B) : addFrz F B lo hi c y = F y := by
  simp [addFrz, h1]

/-- The cells of elements, one behind the other. -/
def flatD (xs : List D) : List D := xs.flatMap D.cells

theorem flatD_get {s : Nat} : ∀ {xs : List D}, (∀ x ∈ xs, x.cells.length = s) → ∀ (i k : Nat) (x : D) (c : D), xs[i]? = some x → x.cells[k]? = some c → (flatD xs)[i * s + k]? = some c
  | [], _, i, k, x, c, hi, hk => by simp at hi
  | y :: xs, hl, i, k, x, c, hi, hk => by
    have hy := hl y (by simp)
    simp only [flatD, List.flatMap_cons]
    cases i with
    | zero =>
      simp only [List.getElem?_cons_zero, Option.some.injEq] at hi
      subst hi
      have hlt := (List.getElem?_eq_some_iff.mp hk).1
      rw [Nat.zero_mul, Nat.zero_add, List.getElem?_append_left hlt]
      exact hk
    | succ i =>
      simp only [List.getElem?_cons_succ] at hi
      rw [List.getElem?_append_right (by rw [hy, Nat.add_mul]; omega)]
      have := flatD_get (fun z hz => hl z (by simp [hz])) i k x c hi hk
      rw [show (i + 1) * s + k - y.cells.length = i * s + k from by rw [hy, Nat.add_mul]; omega]
      exact this

theorem flatD_length {s : Nat} : ∀ {xs : List D}, (∀ x ∈ xs, x.cells.length = s) → (flatD xs).length = xs.length * s
  | [], _ => by simp [flatD]
  | y :: xs, hl => by
    have := flatD_length (xs := xs) (fun z hz => hl z (by simp [hz]))
    simp only [flatD, List.flatMap_cons, List.length_append, List.length_cons] at this ⊢
    rw [hl y (by simp), Nat.add_mul]
    omega

/-- Which cell of which element is the j-th cell? -/
theorem flatD_back {s : Nat} : ∀ {xs : List D}, (∀ x ∈ xs, x.cells.length = s) → ∀ (j : Nat) (c : D), (flatD xs)[j]? = some c → ∃ i k x, xs[i]? = some x ∧ x.cells[k]? = some c ∧ j = i * s + k
  | [], _, j, c, h => by simp [flatD] at h
  | y :: xs, hl, j, c, h => by
    have hy := hl y (by simp)
    simp only [flatD, List.flatMap_cons] at h
    by_cases hj : j < y.cells.length
    · rw [List.getElem?_append_left hj] at h
      exact ⟨0, j, y, rfl, h, by omega⟩
    · rw [List.getElem?_append_right (by omega)] at h
      obtain ⟨i, k, x, h1, h2, h3⟩ := flatD_back (xs := xs) (fun z hz => hl z (by simp [hz])) _ _ h
      exact ⟨i + 1, k, x, by simpa using h1, h2, by rw [Nat.add_mul]; omega⟩

/-- The cells are represented, one by one. -/
def RowRep (sz : TypeId → Nat) (F : Frz) (cs : List D) (vs : List Value) : Prop := vs.length = cs.length ∧ ∀ (j : Nat) (c : D), cs[j]? = some c → ∃ v, vs[j]? = some v ∧ FRep sz F c v ∧ v.oneCell' = true

theorem RowRep.mono {F' : Frz} {cs : List D} {vs : List Value} (h : RowRep sz F cs vs) (hF : F.le F') : RowRep sz F' cs vs :=
  ⟨h.1, fun j c hc => by obtain ⟨v, h1, h2, h3⟩ := h.2 j c hc; exact ⟨v, h1, h2.mono hF, h3⟩⟩

theorem RowRep.append {cs ds : List D} {vs us : List Value} (h : RowRep sz F cs vs) (h' : RowRep sz F ds us) : RowRep sz F (cs ++ ds) (vs ++ us) := by
  refine ⟨by simp [h.1, h'.1], fun j c hc => ?_⟩
  by_cases hj : j < cs.length
  · rw [List.getElem?_append_left hj] at hc
    obtain ⟨v, h1, h2⟩ := h.2 j c hc
    exact ⟨v, by rw [List.getElem?_append_left (by rw [h.1]; exact hj)]; exact h1, h2⟩
  · rw [List.getElem?_append_right (by omega)] at hc
    obtain ⟨v, h1, h2⟩ := h'.2 _ c hc
    exact ⟨v, by rw [List.getElem?_append_right (by rw [h.1]; omega), h.1]; exact h1, h2⟩

theorem RowRep.one {cs : List D} {vs : List Value} (h : RowRep sz F cs vs) : ∀ v ∈ vs, v.oneCell' = true := by
  intro v hv
  obtain ⟨j, hj⟩ := List.getElem?_of_mem hv
  have hlt := (List.getElem?_eq_some_iff.mp hj).1
  obtain ⟨u, h1, _, h3⟩ := h.2 j (cs[j]'(by rw [← h.1]; exact hlt)) (List.getElem?_eq_getElem _)
  rw [hj] at h1; cases h1; exact h3

/-- A frozen row out of the cells of one block. -/
theorem FRep.of_row {e : TypeId} {xs : List D} {vs : List Value} {ad : Addr} {cap : Nat} (hl : ∀ x ∈ xs, x.cells.length = sz e) (hr : RowRep sz F (flatD xs) vs) (hs : ad.spot = none) (hc : xs.length ≤ cap)
    (hF : ∀ (j : Nat) (v : Value), vs[j]? = some v → F ⟨ad.block, ad.off + j, none⟩ = some v) : FRep sz F (.sl e xs) (.slice (some ad) xs.length cap) := by
  have key : ∀ (i : Nat) (x : D) (k : Nat) (c : D), xs[i]? = some x → x.cells[k]? = some c → ∃ v, vs[i * sz e + k]? = some v ∧ FRep sz F c v ∧ v.oneCell' = true := by
    intro i x k c hi hk
    exact hr.2 _ c (flatD_get hl i k x c hi hk)
  refine .sl e xs (some ad) ad cap (fun i k => vs.getD (i * sz e + k) .nilIface) (fun _ => ⟨rfl, hs⟩) hc (fun i x hi => hl x (List.mem_of_getElem? hi)) (fun i x k c hi hk => ?_) (fun i x k c hi hk => ?_) (fun i x k c hi hk => ?_)
  · obtain ⟨v, h1, _⟩ := key i x k c hi hk
    rw [hF _ v h1, List.getD, h1]; rfl
  · obtain ⟨v, h1, h2, _⟩ := key i x k c hi hk
    rw [List.getD, h1]; exact h2
  · obtain ⟨v, h1, _, h3⟩ := key i x k c hi hk
    rw [List.getD, h1]; exact h3

/-- A frozen row's cells. -/
theorem FRep.row {e : TypeId} {xs : List D} {A : Option Addr} {cap : Nat} (h : FRep sz F (.sl e xs) (.slice A xs.length cap)) :
    (∀ x ∈ xs, x.cells.length = sz e) ∧ ∃ vs, RowRep sz F (flatD xs) vs ∧ (xs ≠ [] → ∃ ad, A = some ad ∧ ad.spot = none ∧ ∀ (j : Nat) (v : Value), vs[j]? = some v → F ⟨ad.block, ad.off + j, none⟩ = some v) := by
  generalize hv : Value.slice A xs.length cap = v at h
  cases h with
  | sl _ _ A' ad cap' val hA hc hl hF hr ho =>
    simp only [Value.slice.injEq] at hv
    obtain ⟨rfl, _, _⟩ := hv
    have hl' : ∀ x ∈ xs, x.cells.length = sz e := fun x hx => by obtain ⟨i, hi⟩ := List.getElem?_of_mem hx; exact hl i x hi
    have hdm : ∀ (i k : Nat) (x c : D), xs[i]? = some x → x.cells[k]? = some c → (i * sz e + k) / sz e = i ∧ (i * sz e + k) % sz e = k := by
      intro i k x c h1 h2
      have hk : k < sz e := by have := (List.getElem?_eq_some_iff.mp h2).1; rw [hl i x h1] at this; exact this
      exact ⟨by rw [Nat.mul_comm, Nat.mul_add_div (by omega), Nat.div_eq_of_lt hk]; omega, by rw [Nat.mul_comm, Nat.mul_add_mod, Nat.mod_eq_of_lt hk]⟩
    refine ⟨hl', (List.range (flatD xs).length).map (fun j => val (j / sz e) (j % sz e)), ⟨by simp, fun j c hj => ?_⟩, fun hne => ?_⟩
    · obtain ⟨i, k, x, h1, h2, rfl⟩ := flatD_back hl' j c hj
      have hlt := (List.getElem?_eq_some_iff.mp hj).1
      obtain ⟨e1, e2⟩ := hdm i k x c h1 h2
      exact ⟨val i k, by simp [hlt, e1, e2], hr i x k c h1 h2, ho i x k c h1 h2⟩
    · obtain ⟨rfl, hs⟩ := hA hne
      refine ⟨ad, rfl, hs, fun j v hj => ?_⟩
      have hlt := (List.getElem?_eq_some_iff.mp hj).1
      simp only [List.length_map, List.length_range] at hlt
      obtain ⟨i, k, x, h1, h2, rfl⟩ := flatD_back hl' j _ (List.getElem?_eq_getElem hlt)
      obtain ⟨e1, e2⟩ := hdm i k x _ h1 h2
      have : v = val i k := by simpa [hlt, e1, e2] using hj.symm
      rw [this]
      exact hF i x k _ h1 h2

/-- A new builder: a new block, whose first cells are frozen. -/
theorem St.new_bld (hst : St sz base w0 F ρ h w) {e e0 : TypeId} {xs : List D} {vs : List Value} {cs : Array Value} {cap : Nat} (hl : ∀ x ∈ xs, x.cells.length = sz e) (hr : RowRep sz F (flatD xs) vs)
    (hcs : ∀ (j : Nat) (v : Value), vs[j]? = some v → cs[j]? = some v) (hcap : xs.length ≤ cap) (hsz : cap * sz e = cs.size) (he : e0 = e) :
    let v := Value.slice (some ⟨w.heap.size, 0, none⟩) xs.length cap
    let F' := addFrz F w.heap.size 0 (xs.length * sz e) cs
    let ρ' := upd ρ h.length (.bld v xs.length)
    Ext h.length F ρ F' ρ' ∧ St sz base w0 F' ρ' (h ++ [.tail e xs.length]) (w.alloc (.cells cs e0)) ∧ VRel sz F' ρ' (h.length + 1) (.bl h.length e xs) v := by
  intro v F' ρ'
  have hle : F.le F' := by
    intro y u hy
    have := frz_lt hst hy
    show addFrz F w.heap.size 0 (xs.length * sz e) cs y = some u
    rw [addFrz_other (by omega)]; exact hy
  have hx : Ext h.length F ρ F' ρ' := ⟨hle, fun b hb => by rw [show ρ' b = ρ b from upd_ne (by omega)]; exact Loc.ext_refl _⟩
  have hlen : vs.length = xs.length * sz e := by rw [hr.1, flatD_length hl]
  refine ⟨hx, ?_, ?_⟩
  · refine hst.push ?_ hle (fun y hy => addFrz_other (by omega)) (fun y u hy hyb => ?_) (fun y u hy => ?_) ?_
    · simp only [v, Loc.conc]
      by_cases hc : cap = 0
      · right; simp [hc]
      · left; simp [hc]
    · simp only [F', addFrz] at hy
      split at hy
      · rename_i hc
        cases y with | mk yb yo ys =>
        simp only at hc hyb ⊢
        obtain ⟨rfl, rfl, _, _⟩ := hc
        rw [World.cell?_alloc_new]; exact hy
      · have := frz_lt hst hy; omega
    · simp only [F', addFrz] at hy
      split at hy
      · rename_i hc; omega
      · have := frz_lt hst hy; omega
    · refine ⟨some ⟨w.heap.size, 0, none⟩, cap, upd_same _ _ _, hcap, fun hc => ⟨⟨w.heap.size, 0, none⟩, cs, e0, rfl, rfl, hst.hb, heap_new _ _, ⟨by simpa using hsz, rfl, he⟩, fun y hy hne => ?_⟩⟩
      simp only [F', addFrz] at hne
      split at hne
      · rename_i hc2; simp; omega
      · cases hF : F y with
        | none => exact absurd hF hne
        | some u => have := frz_lt hst hF; simp only at hy; omega
  · refine .bl (by omega) ?_ (upd_same _ _ _) (Nat.le_refl _) (fun _ => rfl)
    refine FRep.of_row hl (hr.mono hle) rfl hcap (fun j u hj => ?_)
    have hjl := (List.getElem?_eq_some_iff.mp hj).1
    simp only [Nat.zero_add]
    show addFrz F w.heap.size 0 (xs.length * sz e) cs ⟨w.heap.size, j, none⟩ = some u
    rw [addFrz_in (by omega) (by omega)]
    exact hcs j u hj

theorem bld_inv (hst : St sz base w0 F ρ h w) {b : Nat} {e : TypeId} {xs : List D} {cv : Value} (hb : h[b]? = some (.tail e xs.length)) (hv : VRel sz F ρ n (.bl b e xs) cv) :
    ∃ A cap, cv = .slice A xs.length cap ∧ xs.length ≤ cap ∧ ρ b = .bld (.slice A xs.length cap) xs.length ∧ FRep sz F (.sl e xs) (.slice A xs.length cap) ∧
      (cap ≠ 0 → ∃ ad c e0, A = some ad ∧ ad.spot = none ∧ base ≤ ad.block ∧ w.heap[ad.block]? = some (.cells c e0 (0, 0)) ∧ (ad.off + cap * sz e = c.size ∧ ad.off = 0 ∧ e0 = e) ∧ ∀ y, y.block = ad.block → F y ≠ none → y.off < ad.off + xs.length * sz e) := by
  obtain ⟨A, cap, h1, h2, h3⟩ := hst.blk b _ hb
  cases hv with
  | bl hbn hf hl hw hc =>
    rw [h1] at hl
    cases hl
    have := hc rfl
    subst this
    exact ⟨A, cap, rfl, h2, h1, hf, h3⟩

/-- A builder grows where it lies. -/
theorem St.grow (hst : St sz base w0 F ρ h w) {b : Nat} {e : TypeId} {xs ys : List D} {vs : List Value} {ad : Addr} {cap : Nat} {c : Array Value} {e0 : TypeId} (hb : h[b]? = some (.tail e xs.length))
    (hρ : ρ b = .bld (.slice (some ad) xs.length cap) xs.length) (hrep : FRep sz F (.sl e xs) (.slice (some ad) xs.length cap)) (hs : ad.spot = none) (hba : base ≤ ad.block) (hheap : w.heap[ad.block]? = some (.cells c e0 (0, 0)))
    (hsz' : ad.off + cap * sz e = c.size ∧ ad.off = 0 ∧ e0 = e) (hFB : ∀ y, y.block = ad.block → F y ≠ none → y.off < ad.off + xs.length * sz e)
    (hl : ∀ x ∈ ys, x.cells.length = sz e) (hr : RowRep sz F (flatD ys) vs) (hfit : xs.length + ys.length ≤ cap) (hne : ys ≠ []) :
    let c' := writeAll c (ad.off + xs.length * sz e) vs
    let v := Value.slice (some ad) (xs.length + ys.length) cap
    let F' := addFrz F ad.block (ad.off + xs.length * sz e) (ad.off + (xs.length + ys.length) * sz e) c'
    let ρ' := upd ρ b (.bld v (xs.length + ys.length))
    Ext h.length F ρ F' ρ' ∧ St sz base w0 F' ρ' (h.set b (.tail e (xs.length + ys.length))) (setBlk w ad.block (.cells c' e0 (0, 0))) ∧ VRel sz F' ρ' h.length (.bl b e (xs ++ ys)) v := by
  intro c' v F' ρ'
  have hsz := Nat.le_of_eq hsz'.1
  have hblt := (List.getElem?_eq_some_iff.mp hb).1
  have hlen : vs.length = ys.length * sz e := by rw [hr.1, flatD_length hl]
  have hmul : (xs.length + ys.length) * sz e ≤ cap * sz e := Nat.mul_le_mul_right _ hfit
  rw [Nat.add_mul] at hmul
  have hmul' : (xs.length + ys.length) * sz e = xs.length * sz e + ys.length * sz e := Nat.add_mul _ _ _
  have hsize : c'.size = c.size := writeAll_size _ _ _
  have hget : ∀ i, c'[i]? = if ad.off + xs.length * sz e ≤ i ∧ i < ad.off + xs.length * sz e + vs.length then vs[i - (ad.off + xs.length * sz e)]? else c[i]? := fun i => writeAll_get _ _ _ (by omega) i
  have hle : F.le F' := by
    intro y u hy
    show addFrz F ad.block _ _ c' y = some u
    unfold addFrz
    split
    · rename_i hc2
      have := hFB y hc2.1 (by rw [hy]; simp)
      omega
    · exact hy
  have hcpos : cap ≠ 0 := by
    have : ys.length ≠ 0 := by simpa using hne
    omega
  have hconc : (ρ b).conc = some ad.block := by rw [hρ]; simp [Loc.conc, hcpos]
  have hconc' : (ρ' b).conc = some ad.block := by rw [show ρ' b = _ from upd_same _ _ _]; simp [v, Loc.conc, hcpos]
  have hx : Ext h.length F ρ F' ρ' := by
    refine ⟨hle, fun b' hb' => ?_⟩
    by_cases e1 : b' = b
    · subst e1
      rw [hρ, show ρ' b' = _ from upd_same _ _ _]
      exact ⟨_, _, rfl, by omega, fun e => by have : ys.length ≠ 0 := by simpa using hne
                                              omega⟩
    · rw [show ρ' b' = ρ b' from upd_ne e1]; exact Loc.ext_refl _
  obtain ⟨hltB, heB⟩ := Array.getElem?_eq_some_iff.mp hheap
  have hcw : (setBlk w ad.block (.cells c' e0 (0, 0))).heap[ad.block]? = some (.cells c' e0 (0, 0)) := by rw [setBlk_get]; simp [hltB]
  refine ⟨hx, ⟨fun y u hy => ?_, fun b' x hb' => ?_, fun b1 b2 B h1 h2 c1 c2 => ?_, ⟨hst.old.1, fun r hr' => ?_⟩, by rw [setBlk_size]; exact hst.hb, fun b1 B h1 c1 => ?_⟩, ?_⟩
  · have hold : F y = some u → (setBlk w ad.block (.cells c' e0 (0, 0))).cell? y = some u := by
      intro hF
      by_cases e1 : y.block = ad.block
      · have h1 := hst.frz y u hF
        have h2 := hFB y e1 (by rw [hF]; simp)
        simp only [World.cell?, e1, hheap] at h1
        simp only [World.cell?, e1, hcw]
        split
        · rename_i hsp; rw [if_pos hsp] at h1; exact h1
        · rename_i hsp
          rw [if_neg hsp] at h1
          rw [hget, if_neg (by omega)]
          exact h1
      · rw [setBlk_cell e1]; exact hst.frz y u hF
    simp only [F', addFrz] at hy
    split at hy
    · rename_i hc2
      cases y with | mk yb yo ys' =>
      simp only at hc2 ⊢ hy
      obtain ⟨rfl, rfl, _, _⟩ := hc2
      simp only [World.cell?, hcw]
      simpa using hy
    · exact hold hy
  · rw [List.length_set]
    by_cases e1 : b' = b
    · subst e1
      rw [List.getElem?_set_self hblt] at hb'
      cases hb'
      refine ⟨some ad, cap, upd_same _ _ _, hfit, fun _ => ⟨ad, c', e0, rfl, hs, hba, hcw, by rw [hsize]; exact hsz', fun y hy hne' => ?_⟩⟩
      simp only [F', addFrz] at hne'
      split at hne'
      · rename_i hc2; exact hc2.2.2.2
      · have := hFB y hy hne'; omega
    · rw [List.getElem?_set_ne (Ne.symm e1)] at hb'
      have hlt' := (List.getElem?_eq_some_iff.mp hb').1
      have hneB : ∀ r, (ρ b').conc = some r → r ≠ ad.block := fun r hr' e => e1 (hst.dist b' b ad.block hlt' hblt (by rw [hr', e]) hconc)
      exact (hst.blk b' x hb').mono hx (upd_ne e1) (Nat.le_refl _) (fun r o hr' ho => by rw [setBlk_get, if_neg (hneB r hr')]; exact ho) (fun r hr' y hy => addFrz_other (by rw [hy]; exact hneB r hr'))
  · rw [List.length_set] at h1 h2
    have tr : ∀ b3, (ρ' b3).conc = some B → (ρ b3).conc = some B := by
      intro b3 h3
      by_cases e1 : b3 = b
      · subst e1; rw [hconc'] at h3; rw [hconc]; exact h3
      · rw [show ρ' b3 = ρ b3 from upd_ne e1] at h3; exact h3
    exact hst.dist b1 b2 B h1 h2 (tr _ c1) (tr _ c2)
  · rw [setBlk_get, if_neg (by omega)]; exact hst.old.2 r hr'
  · rw [List.length_set] at h1
    rw [setBlk_size]
    by_cases e1 : b1 = b
    · subst e1; rw [hconc'] at c1; cases c1; exact hltB
    · rw [show ρ' b1 = ρ b1 from upd_ne e1] at c1; exact hst.lt b1 B h1 c1
  · obtain ⟨hlx, vx, hrx, hFx⟩ := hrep.row
    refine .bl hblt ?_ (upd_same _ _ _) (by simp) (fun _ => rfl)
    have hall : ∀ x ∈ xs ++ ys, x.cells.length = sz e := fun x hx' => by rcases List.mem_append.mp hx' with h | h; exact hlx x h; exact hl x h
    have hflat : flatD (xs ++ ys) = flatD xs ++ flatD ys := by simp [flatD]
    have hvx : vx.length = xs.length * sz e := by rw [hrx.1, flatD_length hlx]
    have := FRep.of_row (sz := sz) (F := F') (e := e) (xs := xs ++ ys) (vs := vx ++ vs) (ad := ad) (cap := cap) hall (by rw [hflat]; exact (hrx.mono hle).append (hr.mono hle)) hs (by simpa using hfit) (fun j u hj => ?_)
    · simpa [v] using this
    · by_cases hj1 : j < vx.length
      · rw [List.getElem?_append_left hj1] at hj
        have hxne : xs ≠ [] := by
          intro e1
          subst e1
          have : vx.length = 0 := by rw [hvx]; simp
          omega
        obtain ⟨ad', ha1, _, ha2⟩ := hFx hxne
        cases ha1
        exact hle _ _ (ha2 j u hj)
      · rw [List.getElem?_append_right (by omega)] at hj
        have hjl := (List.getElem?_eq_some_iff.mp hj).1
        show addFrz F ad.block _ _ c' ⟨ad.block, ad.off + j, none⟩ = some u
        rw [addFrz_in (by omega) (by omega), hget, if_pos (by omega), ← hj]
        congr 1; omega

/-- A builder grows elsewhere: a new block takes its place. -/
theorem St.regrow (hst : St sz base w0 F ρ h w) {b : Nat} {e e0 : TypeId} {zs : List D} {vs : List Value} {cs : Array Value} {cap hw : Nat} {v0 : Value} (hb : h[b]? = some (.tail e hw)) (hρ : ρ b = .bld v0 hw)
    (hl : ∀ x ∈ zs, x.cells.length = sz e) (hr : RowRep sz F (flatD zs) vs) (hcs : ∀ (j : Nat) (v : Value), vs[j]? = some v → cs[j]? = some v) (hcap : zs.length ≤ cap) (hsz : cap * sz e = cs.size) (he : e0 = e) (hgt : hw < zs.length) :
    let v := Value.slice (some ⟨w.heap.size, 0, none⟩) zs.length cap
    let F' := addFrz F w.heap.size 0 (zs.length * sz e) cs
    let ρ' := upd ρ b (.bld v zs.length)
    Ext h.length F ρ F' ρ' ∧ St sz base w0 F' ρ' (h.set b (.tail e zs.length)) (w.alloc (.cells cs e0)) ∧ VRel sz F' ρ' h.length (.bl b e zs) v := by
  intro v F' ρ'
  have hblt := (List.getElem?_eq_some_iff.mp hb).1
  have hlen : vs.length = zs.length * sz e := by rw [hr.1, flatD_length hl]
  have hle : F.le F' := by
    intro y u hy
    have := frz_lt hst hy
    show addFrz F w.heap.size 0 (zs.length * sz e) cs y = some u
    rw [addFrz_other (by omega)]; exact hy
  have hcpos : cap ≠ 0 := by omega
  have hconc' : (ρ' b).conc = some w.heap.size := by rw [show ρ' b = _ from upd_same _ _ _]; simp [v, Loc.conc, hcpos]
  have hx : Ext h.length F ρ F' ρ' := by
    refine ⟨hle, fun b' hb' => ?_⟩
    by_cases e1 : b' = b
    · subst e1
      rw [hρ, show ρ' b' = _ from upd_same _ _ _]
      exact ⟨_, _, rfl, by omega, fun e => by omega⟩
    · rw [show ρ' b' = ρ b' from upd_ne e1]; exact Loc.ext_refl _
  refine ⟨hx, ⟨fun y u hy => ?_, fun b' x hb' => ?_, fun b1 b2 B h1 h2 c1 c2 => ?_, ⟨hst.old.1, fun r hr' => ?_⟩, by have := hst.hb; simp; omega, fun b1 B h1 c1 => ?_⟩, ?_⟩
  · simp only [F', addFrz] at hy
    split at hy
    · rename_i hc2
      cases y with | mk yb yo ys' =>
      simp only at hc2 ⊢ hy
      obtain ⟨rfl, rfl, _, _⟩ := hc2
      rw [World.cell?_alloc_new]; exact hy
    · exact cell_push (hst.frz y u hy)
  · rw [List.length_set]
    by_cases e1 : b' = b
    · subst e1
      rw [List.getElem?_set_self hblt] at hb'
      cases hb'
      refine ⟨some ⟨w.heap.size, 0, none⟩, cap, upd_same _ _ _, hcap, fun hc => ⟨⟨w.heap.size, 0, none⟩, cs, e0, rfl, rfl, hst.hb, heap_new _ _, ⟨by simpa using hsz, rfl, he⟩, fun y hy hne => ?_⟩⟩
      simp only [F', addFrz] at hne
      split at hne
      · rename_i hc2; simp; omega
      · cases hF : F y with
        | none => exact absurd hF hne
        | some u => have := frz_lt hst hF; simp only at hy; omega
    · rw [List.getElem?_set_ne (Ne.symm e1)] at hb'
      have hlt' := (List.getElem?_eq_some_iff.mp hb').1
      refine (hst.blk b' x hb').mono hx (upd_ne e1) (Nat.le_refl _) (fun r o hr' ho => heap_push ho) (fun r hr' y hy => addFrz_other ?_)
      have := hst.lt b' r hlt' hr'
      omega
  · rw [List.length_set] at h1 h2
    by_cases e1 : b1 = b <;> by_cases e2 : b2 = b
    · omega
    · subst e1
      rw [hconc'] at c1; cases c1
      rw [show ρ' b2 = ρ b2 from upd_ne e2] at c2
      have := hst.lt b2 _ h2 c2; omega
    · subst e2
      rw [hconc'] at c2; cases c2
      rw [show ρ' b1 = ρ b1 from upd_ne e1] at c1
      have := hst.lt b1 _ h1 c1; omega
    · rw [show ρ' b1 = ρ b1 from upd_ne e1] at c1
      rw [show ρ' b2 = ρ b2 from upd_ne e2] at c2
      exact hst.dist b1 b2 B h1 h2 c1 c2
  · rw [← hst.old.2 r hr']
    have := hst.hb
    simp only [World.alloc, Array.getElem?_push]
    rw [if_neg (by omega)]
  · rw [List.length_set] at h1
    simp only [World.size_alloc]
    by_cases e1 : b1 = b
    · subst e1; rw [hconc'] at c1; cases c1; omega
    · rw [show ρ' b1 = ρ b1 from upd_ne e1] at c1
      have := hst.lt b1 B h1 c1; omega
  · refine .bl hblt ?_ (upd_same _ _ _) (Nat.le_refl _) (fun _ => rfl)
    refine FRep.of_row hl (hr.mono hle) rfl hcap (fun j u hj => ?_)
    have hjl := (List.getElem?_eq_some_iff.mp hj).1
    simp only [Nat.zero_add]
    show addFrz F w.heap.size 0 (zs.length * sz e) cs ⟨w.heap.size, j, none⟩ = some u
    rw [addFrz_in (by omega) (by omega)]
    exact hcs j u hj

end Go.Vm

/- The operations that write memory, each with one outcome: what they leave, and that it is so. -/
set_option linter.unusedSimpArgs false
namespace Go.Vm
variable {P : Program} {sz : TypeId → Nat} {base : Nat} {w0 : World} {m nt : Nat} {F : Frz} {ρ : Env0} {env : Env} {a : Act} {w : World} {n : Nat} {tab : Tab} {h : List Blk}

/-- The elements that a slice (or a text) hands to append. -/
def srcOf (e : TypeId) (size : Nat) (h : List Blk) : AV → Option (Prop × List D)
  | .d (.sl e' xs) => some (e' = e, xs)
  | .d .nilsl => some (True, [])
  | .z0 _ => some (True, [])
  | .bl _ e' xs => some (e' = e, xs)
  | .ref b e' off len => match h[b]? with
    | some (.cells e'' xs) => match AV.allD ((xs.drop off).take len) with
      | some ds => some (e' = e ∧ e'' = e ∧ ds.length = len, ds)
      | none => none
    | _ => none
  | .d (.str s) => some (size = 1, s.map fun c => .int .u8 c.toNat)
  | _ => none

theorem loadCells_vs {ad : Addr} (hs : ad.spot = none) {vs : List Value} (h : ∀ (j : Nat) (v : Value), vs[j]? = some v → w.cell? ⟨ad.block, ad.off + j, none⟩ = some v) :
    (loadCells ad vs.length).run P w = .ok vs.toArray w := by
  rw [loadCells_run hs (fun j => vs.getD j .nilIface) vs.length (fun j hj => by
    have : vs[j]? = some vs[j] := List.getElem?_eq_getElem hj
    rw [h j _ this, List.getD, this]; rfl)]
  congr 2
  apply List.ext_getElem?
  intro j
  by_cases hj : j < vs.length
  · simp [hj]
  · simp [hj]

theorem row_nil : RowRep sz F (flatD []) [] := ⟨rfl, fun j c hc => by simp [flatD] at hc⟩

theorem src_str {s : List UInt8} : RowRep sz F (flatD (s.map fun c => .int .u8 (c.toNat : Int))) (s.map fun c => .int .u8 (c.toNat : Int)) := by
  have : flatD (s.map fun c : UInt8 => D.int .u8 (c.toNat : Int)) = s.map fun c : UInt8 => D.int .u8 (c.toNat : Int) := by
    induction s with
    | nil => rfl
    | cons c s ih => simp only [flatD, List.map_cons, List.flatMap_cons, D.cells, List.singleton_append] at ih ⊢; rw [ih]
  rw [this]
  refine ⟨by simp, fun j c hc => ?_⟩
  simp only [List.getElem?_map, Option.map_eq_some_iff] at hc ⊢
  obtain ⟨b, hb, rfl⟩ := hc
  exact ⟨_, ⟨b, hb, rfl⟩, .int _ _, rfl⟩

theorem frozen_src (hF : ∀ y v, F y = some v → w.cell? y = some v) {e : TypeId} {ys : List D} {A : Option Addr} {cap : Nat} (hrep : FRep sz F (.sl e ys) (.slice A ys.length cap)) :
    (Builtin.lenOf (.slice A ys.length cap)).run P w = .ok ys.length w ∧ (∀ y ∈ ys, y.cells.length = sz e) ∧ ∃ vs, RowRep sz F (flatD ys) vs ∧
      ∀ w2 : World, (∀ y, w2.cell? y = w.cell? y) → (Builtin.firstCells (sz e) ys.length (.slice A ys.length cap)).run P w2 = .ok vs.toArray w2 := by
  obtain ⟨hl, vs, hr, hA⟩ := hrep.row
  have hlen : vs.length = ys.length * sz e := by rw [hr.1, flatD_length hl]
  refine ⟨rfl, hl, vs, hr, fun w2 hw2 => ?_⟩
  by_cases hne : ys = []
  · subst hne
    have : vs = [] := List.eq_nil_of_length_eq_zero (by simpa using hlen)
    subst this
    cases A with
    | none => rfl
    | some ad => simp [Builtin.firstCells, loadCells, loadCellsFrom]
  · obtain ⟨ad, rfl, hs, hc⟩ := hA hne
    simp only [Builtin.firstCells, ← hlen]
    exact loadCells_vs hs (fun j v hj => by rw [hw2]; exact hF _ _ (hc j v hj))

theorem allD_get {cs : List AV} {ds : List D} (h : AV.allD cs = some ds) (i : Nat) : cs[i]? = (ds[i]?).map AV.d := by
  rw [AV.allD_some h, List.getElem?_map]

theorem src_sound (hst : St sz base w0 F ρ h w) {e : TypeId} {x : AV} {ob : Prop} {ys : List D} {cv : Value} (hx : srcOf e (sz e) h x = some (ob, ys)) (hob : ob) (hv : VRel sz F ρ h.length x cv) :
    (Builtin.lenOf cv).run P w = .ok ys.length w ∧ (∀ y ∈ ys, y.cells.length = sz e) ∧ ∃ vs, RowRep sz F (flatD ys) vs ∧
      ∀ w2 : World, (∀ y, w2.cell? y = w.cell? y) → (Builtin.firstCells (sz e) ys.length cv).run P w2 = .ok vs.toArray w2 := by
  have empty : ∀ A c, (Builtin.lenOf (.slice A 0 c)).run P w = .ok 0 w ∧ (∀ y ∈ ([] : List D), y.cells.length = sz e) ∧ ∃ vs, RowRep sz F (flatD []) vs ∧
      ∀ w2 : World, (∀ y, w2.cell? y = w.cell? y) → (Builtin.firstCells (sz e) 0 (.slice A 0 c)).run P w2 = .ok vs.toArray w2 := by
    intro A c
    refine ⟨rfl, by simp, [], row_nil, fun w2 _ => ?_⟩
    cases A with
    | none => rfl
    | some ad => simp [Builtin.firstCells, loadCells, loadCellsFrom]
  unfold srcOf at hx
  split at hx
  · rename_i e' xs
    simp only [Option.some.injEq, Prod.mk.injEq] at hx
    obtain ⟨h1, rfl⟩ := hx
    subst h1
    subst hob
    obtain ⟨A, cap, rfl, _, _⟩ := hv.d_inv.sl_inv
    exact frozen_src hst.frz hv.d_inv
  · simp only [Option.some.injEq, Prod.mk.injEq] at hx
    obtain ⟨_, rfl⟩ := hx
    cases hv with | d hv => cases hv with
    | nilsl => exact empty _ _
  · simp only [Option.some.injEq, Prod.mk.injEq] at hx
    obtain ⟨_, rfl⟩ := hx
    cases hv with
    | z0 => exact empty _ _
  · rename_i b e' xs
    simp only [Option.some.injEq, Prod.mk.injEq] at hx
    obtain ⟨h1, rfl⟩ := hx
    subst h1
    subst hob
    cases hv with
    | bl hb hrep hl hw hc =>
      obtain ⟨A, cap, rfl, _, _⟩ := hrep.sl_inv
      exact frozen_src hst.frz hrep
  · rename_i b e' off len
    split at hx
    · rename_i e'' xs hb
      split at hx
      · rename_i ds hds
        simp only [Option.some.injEq, Prod.mk.injEq] at hx
        obtain ⟨h1, rfl⟩ := hx
        subst h1
        obtain ⟨rfl, rfl, hlen⟩ := hob
        obtain ⟨B, N, c, e0, h1, h2, h3, h4, h5, h6⟩ := hst.blk b _ hb
        cases hv with
        | @ref _ _ _ _ cap A hbn hA0 hl hc =>
          have hA : len ≠ 0 → A = some ⟨B, off * sz e'', none⟩ := fun hne => (hl B N h1).1 (by omega)
          have hel : ∀ (i : Nat) (x : D), ds[i]? = some x → x.cells.length = sz e'' ∧ ∀ (k : Nat) (y : D), x.cells[k]? = some y → ∃ v, c[(off + i) * sz e'' + k]? = some v ∧ FRep sz F y v ∧ v.oneCell' = true := by
            intro i x hi
            have hlt := (List.getElem?_eq_some_iff.mp hi).1
            have := allD_get hds i
            rw [hi, List.getElem?_take_of_lt (by omega), List.getElem?_drop] at this
            obtain ⟨h7, h8⟩ := h6 _ _ this
            simp only [AV.cells, List.length_map] at h7
            refine ⟨h7, fun k y hk => ?_⟩
            obtain ⟨v, h9, h10, h11⟩ := h8 k (.d y) (by simp [AV.cells, hk])
            exact ⟨v, h9, h10.d_inv, h11⟩
          have hl' : ∀ y ∈ ds, y.cells.length = sz e'' := fun y hy => by obtain ⟨i, hi⟩ := List.getElem?_of_mem hy; exact (hel i y hi).1
          have hfl := flatD_length hl'
          have hget : ∀ (j : Nat) (y : D), (flatD ds)[j]? = some y → ∃ v, c[off * sz e'' + j]? = some v ∧ FRep sz F y v ∧ v.oneCell' = true := by
            intro j y hj
            obtain ⟨i, k, x, h7, h8, rfl⟩ := flatD_back hl' j y hj
            obtain ⟨v, h9, h10⟩ := (hel i x h7).2 k y h8
            exact ⟨v, by rw [← h9]; congr 1; rw [Nat.add_mul]; omega, h10⟩
          refine ⟨by rw [hlen]; rfl, hl', (List.range (flatD ds).length).map (fun j => (c[off * sz e'' + j]?).getD .nilIface), ⟨by simp, fun j y hj => ?_⟩, fun w2 hw2 => ?_⟩
          · have hlt := (List.getElem?_eq_some_iff.mp hj).1
            obtain ⟨v, h7, h8⟩ := hget j y hj
            exact ⟨v, by simp [hlt, h7], h8⟩
          · by_cases h0 : len = 0
            · subst h0
              have : ds = [] := List.eq_nil_of_length_eq_zero hlen
              subst this
              cases A with
              | none => rfl
              | some ad => simp [Builtin.firstCells, loadCells, loadCellsFrom, flatD]
            · rw [hA h0]
              have hn : ds.length * sz e'' = ((List.range (flatD ds).length).map (fun j => (c[off * sz e'' + j]?).getD Value.nilIface)).length := by simp [hfl]
              simp only [Builtin.firstCells]
              rw [hn]
              refine loadCells_vs rfl (fun j v hj => ?_)
              have hlt := (List.getElem?_eq_some_iff.mp hj).1
              simp only [List.length_map, List.length_range] at hlt
              obtain ⟨v', h7, _⟩ := hget j _ (List.getElem?_eq_getElem hlt)
              have : v = v' := by simpa [hlt, h7] using hj.symm
              rw [hw2, this]
              simp only [World.cell?, h3]
              simpa using h7
      · simp at hx
    · simp at hx
  · rename_i s
    simp only [Option.some.injEq, Prod.mk.injEq] at hx
    obtain ⟨h0, rfl⟩ := hx
    have h1 : sz e = 1 := by rw [← h0] at hob; exact hob
    have := hv.str_inv
    subst this
    refine ⟨?_, fun y hy => ?_, _, src_str, fun w2 _ => ?_⟩
    · simp only [Builtin.lenOf, Sem.run_pure, List.length_map]
      congr 1
    · simp only [List.mem_map] at hy
      obtain ⟨c, _, rfl⟩ := hy
      rw [h1]; rfl
    · simp only [Builtin.firstCells, Sem.run_pure, List.length_map]
      congr 1
      rw [ByteArray.data_extract]
      apply Array.toList_inj.mp
      simp
  · simp at hx

theorem zeroCells_size (z : Array Value) (k : Nat) : (Builtin.zeroCells z k).size = k * z.size := by simp [Builtin.zeroCells]

/-- append that needs a new array. -/
theorem append_new {t t2 ty e : TypeId} {te : TI} (hg : te.Good P e) (ht : P.underlying t = some (.slice e)) {d2 : TypeDesc} (ht2 : P.underlying t2 = some d2) (hd2 : ∀ k, d2 ≠ .int k)
    {base' : Option Addr} {sLen sCap k : Nat} {cv : Value} {olds news : List Value} (hlen : (Builtin.lenOf cv).run P w = .ok k w) (hgt : sCap < sLen + k)
    (hold : ∀ w2 : World, (∀ y, w2.cell? y = w.cell? y) → (Builtin.firstCells te.size sLen (.slice base' sLen sCap)).run P w2 = .ok olds.toArray w2)
    (hnew : ∀ w2 : World, (∀ y, w2.cell? y = w.cell? y) → (Builtin.firstCells te.size k cv).run P w2 = .ok news.toArray w2) (hlo : olds.length = sLen * te.size) (hln : news.length = k * te.size)
    (hfit : (sLen + k) * te.bytes ≤ 140737488355328) (h63 : ((sLen + k : Nat) : Int) ≤ 9223372036854775807) :
    ∃ cap cs, sLen + k ≤ cap ∧ cap * te.size = cs.size ∧ (∀ (j : Nat) (v : Value), (olds ++ news)[j]? = some v → cs[j]? = some v) ∧
      (Builtin.append_ #[t, t2] ty #[.slice base' sLen sCap, cv]).run P w = .ok (.slice (some ⟨w.heap.size, 0, none⟩) (sLen + k) cap) (w.drew.alloc (.cells cs e)) := by
  obtain ⟨info, hi1, hi2, hi3, z, hz, hzc, _, _⟩ := hg.info
  have hzs : z.cells.size = te.size := by rw [← Array.length_toList, hzc]; simp [hg.zlen]
  have hcap : sLen + k ≤ grownCap w (sLen + k) sCap e := by simp only [grownCap, Question.cut]; omega
  refine ⟨grownCap w (sLen + k) sCap e, olds.toArray ++ news.toArray ++ Builtin.zeroCells z.cells (grownCap w (sLen + k) sCap e - (sLen + k)), hcap, ?_, fun j v hj => ?_, ?_⟩
  · simp only [Array.size_append, zeroCells_size, hzs, List.size_toArray, hlo, hln]
    rw [← Nat.add_mul, ← Nat.add_mul]
    congr 1
    omega
  · have hlt := (List.getElem?_eq_some_iff.mp hj).1
    rw [Array.getElem?_append_left (by simpa using hlt)]
    simpa using hj
  · have hn : ¬ (sLen + k ≤ sCap) := by omega
    have h63' : ¬ (9223372036854775807 < ((sLen : Int) + (k : Int))) := by omega
    have h48' : ¬ (Builtin.nextslicecap (sLen + k) sCap * info.bytes > 2 ^ 48) := by
      have := growslice_fits (bytes := te.bytes) hgt hfit
      rw [hi3]; omega
    have hz2 : (match d2 with | .int _ => true | _ => false) = false := by cases d2 <;> first | rfl | exact absurd rfl (hd2 _)
    have ho := hold w.drew (fun y => rfl)
    have hn' := hnew w.drew (fun y => rfl)
    have hl1 : ((Builtin.lenOf cv).run P w) = .ok k w := hlen
    simp only [Builtin.append_, List.getElem?_toArray, List.getElem?_cons_zero, List.getElem?_cons_succ, Sem.run_bind, run_underlying' ht, Result.andThen_ok, hg.run_sizeOf, run_underlying' ht2, Sem.run_pure]
    have hcut : ∀ q : Question, q = .appendCap (sLen + k) sCap e → (choose q).run P w = .ok (grownCap w (sLen + k) sCap e) w.drew := by
      rintro q rfl
      simp only [run_choose, Question.forced, Bool.false_eq_true, if_false, grownCap]
      rfl
    have h63'' : ¬ (((sLen + k : Nat) : Int) > IntKind.i64.max ∧ (false = true ∨ info.bytes = 0)) := by
      intro h
      have : ((sLen + k : Nat) : Int) > 9223372036854775807 := h.1
      omega
    simp only [Bool.false_eq_true, if_false, Sem.run_bind, hl1, Result.andThen_ok, if_neg hn, typeInfo, run_program, hi1, Sem.run_pure, false_or, Sem.run_ite]
    rw [if_neg (by simpa using h63''), if_neg h48']
    simp only [Sem.run_bind, hcut _ rfl, Result.andThen_ok, run_askRoom, ho, hn', Bool.not_false, if_true, zeroValue, typeInfo, run_program, hi1, hz, Sem.run_pure, newRow, run_newObj, World.alloc_eq, World.size_drew]

theorem wrap64 {n : Int} (h1 : 0 ≤ n) (h2 : n ≤ 140737488355328) : IntKind.i64.wrap n = n := by
  simp only [IntKind.wrap, IntKind.bits, IntKind.signed, Bool.true_and, decide_eq_true_eq, show (2 : Int) ^ 64 = 18446744073709551616 from rfl, show (2 : Int) ^ (64 - 1) = 9223372036854775808 from rfl]
  split <;> omega

/-- append of zeros to nil. -/
theorem append_zeros {t t2 ty e : TypeId} {te : TI} (hg : te.Good P e) (ht : P.underlying t = some (.slice e)) {kd kx : IntKind} (ht2 : P.underlying t2 = some (.int kd)) {k : Nat} (hk : 1 ≤ k) (hb1 : 1 ≤ te.bytes) (hs1 : 1 ≤ te.size)
    (hfit : k * te.bytes ≤ 140737488355328) :
    ∃ cap cs, k ≤ cap ∧ cap * te.size = cs.size ∧ (Builtin.append_ #[t, t2] ty #[.slice none 0 0, .int kx (k : Int)]).run P w = .ok (.slice (some ⟨w.heap.size, 0, none⟩) k cap) (w.drew.alloc (.cells cs e)) := by
  obtain ⟨info, hi1, hi2, hi3, z, hz, hzc, _, _⟩ := hg.info
  have hzs : z.cells.size = te.size := by rw [← Array.length_toList, hzc]; simp [hg.zlen]
  have hcap : k ≤ grownCap w k 0 e := by simp only [grownCap, Question.cut]; omega
  have hkb : k ≤ k * te.bytes := Nat.le_mul_of_pos_right _ hb1
  have hw := wrap64 (n := (k : Int)) (by omega) (by omega)
  have hn : ¬ (0 + k ≤ 0) := by omega
  have h48' : ¬ (Builtin.nextslicecap (0 + k) 0 * info.bytes > 2 ^ 48) := by
    have := growslice_fits (need := 0 + k) (old := 0) (bytes := te.bytes) (by omega) (by simpa using hfit)
    rw [hi3]; omega
  have hcut : ∀ q : Question, q = .appendCap (0 + k) 0 e → (choose q).run P w = .ok (grownCap w (0 + k) 0 e) w.drew := by
    rintro q rfl
    simp only [run_choose, Question.forced, Bool.false_eq_true, if_false, grownCap]
    rfl
  have hcap' : 0 + k ≤ grownCap w (0 + k) 0 e := by rw [Nat.zero_add]; exact hcap
  have hks : ¬ (k * te.size = 0) := by
    have : 1 ≤ k * te.size := Nat.le_trans (by omega : 1 ≤ 1 * 1) (Nat.mul_le_mul hk hs1)
    omega
  have hl0 : ¬ ((k : Int) < 0) := by omega
  have h48 : ¬ ((k : Int) * (info.bytes : Int) > 2 ^ 48) := by
    rw [hi3]
    have : (k : Int) * (te.bytes : Int) = ((k * te.bytes : Nat) : Int) := by simp
    rw [this]; omega
  have h63 : ¬ (((0 + k : Nat) : Int) > IntKind.i64.max ∧ (true = true ∨ info.bytes = 0)) := by
    rintro ⟨h, _⟩
    have : ((0 + k : Nat) : Int) > 9223372036854775807 := h
    omega
  refine ⟨grownCap w (0 + k) 0 e, (#[] : Array Value) ++ Builtin.zeroCells z.cells k ++ Builtin.zeroCells z.cells (grownCap w (0 + k) 0 e - (0 + k)), by omega, ?_, ?_⟩
  · simp only [Array.size_append, zeroCells_size, hzs, Nat.zero_add, List.size_toArray, List.length_nil]
    rw [← Nat.add_mul]
    congr 1; omega
  · have hai : (asInt (.int kx (k : Int))).run P w = .ok (k : Int) w := rfl
    simp only [Builtin.append_, List.getElem?_toArray, List.getElem?_cons_zero, List.getElem?_cons_succ, Sem.run_bind, run_underlying' ht, Result.andThen_ok, hg.run_sizeOf, run_underlying' ht2, Sem.run_pure, if_true, hai, hw,
      Sem.run_ite, typeInfo, run_program, hi1, Int.toNat_natCast]
    rw [if_neg hl0, if_neg (by simpa using h48), if_neg hn, if_neg (by simpa using h63), if_neg h48']
    have hfc : ∀ w2 : World, (Builtin.firstCells te.size 0 (Value.slice none 0 0)).run P w2 = .ok #[] w2 := fun _ => rfl
    simp only [hcut _ rfl, Result.andThen_ok, run_askRoom, hfc, Bool.not_true, Bool.false_eq_true, if_false, if_neg hks, zeroValue, typeInfo, Sem.run_bind, run_program, hi1, hz, Sem.run_pure, newRow, run_newObj, World.alloc_eq, Nat.zero_add]
    have hcut' := hcut (.appendCap k 0 e) (by rw [Nat.zero_add])
    rw [Nat.zero_add] at hcut'
    simp only [hcut', Result.andThen_ok, World.size_drew]

/-- append that fits. -/
theorem append_in {t t2 ty e : TypeId} {te : TI} (hg : te.Good P e) (ht : P.underlying t = some (.slice e)) {d2 : TypeDesc} (ht2 : P.underlying t2 = some d2) (hd2 : ∀ k, d2 ≠ .int k)
    {base' : Option Addr} {sLen sCap k : Nat} {cv : Value} {news : List Value} (hlen : (Builtin.lenOf cv).run P w = .ok k w) (hle : sLen + k ≤ sCap)
    (hnew : (Builtin.firstCells te.size k cv).run P w = .ok news.toArray w) {w' : World} (hst : ∀ ad, base' = some ad → (storeCells (ad.add (sLen * te.size)) news).run P w = .ok () w') (hno : base' = none → w' = w) :
    (Builtin.append_ #[t, t2] ty #[.slice base' sLen sCap, cv]).run P w = .ok (.slice base' (sLen + k) sCap) w' := by
  have hz2 : (match d2 with | .int _ => true | _ => false) = false := by cases d2 <;> first | rfl | exact absurd rfl (hd2 _)
  simp only [Builtin.append_, List.getElem?_toArray, List.getElem?_cons_zero, List.getElem?_cons_succ, Sem.run_bind, run_underlying' ht, Result.andThen_ok, hg.run_sizeOf, run_underlying' ht2, Sem.run_pure]
  simp only [Bool.false_eq_true, if_false, Sem.run_bind, hlen, Result.andThen_ok, if_pos hle, Bool.not_false, if_true, hnew]
  cases base' with
  | none => simp only [Sem.run_pure]; rw [hno rfl]
  | some ad =>
    simp only [Sem.run_bind, hst ad rfl, Result.andThen_ok, Sem.run_pure]

/-- A variable's value with some cells written. -/
def putAV (whole : Bool) (x : AV) (off : Nat) (v : AV) : AV := if whole then v else AV.pack (setCells x.cells off v.cells)

/-- The elements of a new row of elements, some of which are given. -/
def fillAV (xs : List AV) : List (Nat × AV) → List AV
  | [] => xs
  | (i, v) :: r => fillAV (xs.set i v) r

def partsAV (env : Env) : List (Nat × Operand) → Option (List (Nat × AV))
  | [] => some []
  | (i, x) :: r => match ev env x, partsAV env r with
    | some v, some vs => some ((i, v) :: vs)
    | _, _ => none

/-- The type of append's second operand. -/
def isSrc (tab : Tab) (t : TypeId) : Bool := isStr tab t || (slOf tab t).isSome

def freshRow (mu : Bool) (h : List Blk) (e : TypeId) (n : Nat) (xs : List AV) (ob : Prop) : Option (Prop × List Blk × AV) :=
  if mu then some (ob, h ++ [.cells e xs], .ref h.length e 0 n)
  else match AV.allD xs with
    | some ds => some (ob, h ++ [.tail e n], .bl h.length e ds)
    | none => none

/-- append, by what is appended to. -/
def appAV (mu : Bool) (h : List Blk) (e : TypeId) (bytes : Nat) (sv : AV) (ob : Prop) (ys : List D) : Option (Prop × List Blk × AV) :=
  match sv with
  | .bl b e' xs => some (h[b]? = some (.tail e xs.length) ∧ e' = e ∧ ob ∧ (xs.length + ys.length) * bytes ≤ 140737488355328 ∧ 1 ≤ bytes,
      h.set b (.tail e (xs.length + ys.length)), .bl b e (xs ++ ys))
  | .d .nilsl => if mu then (match ys with
      | [] => some (ob, h, .d .nilsl)
      | y :: ys => some (ob ∧ (ys.length + 1) * bytes ≤ 140737488355328 ∧ 1 ≤ bytes, h ++ [.cells e ((y :: ys).map AV.d)], .ref h.length e 0 (ys.length + 1)))
      else some (ob ∧ ys.length * bytes ≤ 140737488355328 ∧ 1 ≤ bytes, h ++ [.tail e ys.length], .bl h.length e ys)
  | .z0 e' => if mu then (match ys with
      | [] => some (ob, h, .z0 e')
      | y :: ys => some (ob ∧ e' = e ∧ (ys.length + 1) * bytes ≤ 140737488355328 ∧ 1 ≤ bytes, h ++ [.cells e ((y :: ys).map AV.d)], .ref h.length e 0 (ys.length + 1)))
      else some (ob ∧ e' = e ∧ ys.length * bytes ≤ 140737488355328 ∧ 1 ≤ bytes, h ++ [.tail e ys.length], .bl h.length e ys)
  | .ref b e' off len => match h[b]? with
    | some (.cells e'' xs) => some (e' = e ∧ e'' = e ∧ off = 0 ∧ len ≤ xs.length ∧ ob ∧ (len + ys.length) * bytes ≤ 140737488355328 ∧ 1 ≤ bytes,
        h.set b .gone ++ [.cells e (xs.take len ++ ys.map AV.d)], .ref h.length e 0 (len + ys.length))
    | _ => none
  | _ => none

/-- A row that was built, seen as data. -/
def AV.asData : AV → AV
  | .bl _ e xs => .d (.sl e xs)
  | v => v

/-- The entry that an iterator over a map handed out last. -/
def entryAV (es : List (D × AV)) (cnt : Nat) (seen : List Nat) (h : List Blk) : Option (Prop × List Blk × AV) :=
  seen.getLast?.bind fun i => es[i]?.map fun e => (es.length = cnt, h, .tup [.d e.1, e.2])

/-- What an operation that writes memory (and calls nothing) does: what must hold, the blocks behind it, its value. -/
def evH (tab : Tab) (mu : Bool) (env : Env) : Op → Option (Prop × List Blk × AV)
  | .alloc t => (tab.get t).map fun ti => (True, env.h ++ [.cells t [zeroAV ti]], .ptr env.h.length t 0 0)
  | .box t x => match tab.get t, ev env x with
    | some ti, some v => some (okCells v ti.size, env.h ++ [.cells t [v]], .ptr env.h.length t 0 0)
    | _, _ => none
  | .store t p x => match ev env p, ev env x, tab.get t with
    | some (.ptr b e i off), some v, some ti => match env.h[b]?, tab.get e with
      | some (.cells e' xs), some te => some (e' = e ∧ i < xs.length ∧ off + ti.size ≤ te.size ∧ okCells v ti.size,
          env.h.set b (.cells e (xs.set i (putAV (ti.size == te.size) (xs.getD i .unk) off v))), .tup [])
      | _, _ => none
    | _, _, _ => none
  | .call { callee := .builtin .append, args := args, argTypes := ts } => match args.toList, ts.toList with
    | [s, x], [t, t2] => match slOf tab t, isSrc tab t2, ev env s, ev env x with
      | some e, true, some sv, some xv => match tab.get e with
        | some te => match srcOf e te.size env.h xv with
         | some (ob, ys) => appAV mu env.h e te.bytes sv ob ys
         | none => none
        | none => none
      | some e, false, some (.d .nilsl), some (.d (.int _ k)) => match tab.get e, tab.get t2 with
        | some te, some ⟨.int _, _, _, _⟩ => some (1 ≤ k ∧ k.toNat * te.bytes ≤ 140737488355328 ∧ 1 ≤ te.bytes ∧ 1 ≤ te.size, env.h ++ [.tail e 0], .gr env.h.length e k.toNat)
        | _, _ => none
      | _, _, _, _ => none
    | _, _ => none
  | .buildSlice t len parts => match slOf tab t with
    | some e => match tab.get e, partsAV env parts.toList with
      | some te, some ps => freshRow mu env.h e len (fillAV (List.replicate len (zeroAV te)) ps) (len * te.size ≤ 16777216 ∧ okParts len te.size ps)
      | _, _ => none
    | none => none
  | .makeMap _ none => some (True, env.h ++ [.map []], .map env.h.length)
  | .range t x => match mapOf tab t, ev env x with
    | some _, some (.map b) => match env.h[b]? with
      | some (.map es) => some (True, env.h ++ [.iter b es.length []], .iter env.h.length)
      | _ => none
    | _, _ => none
  | .entry x => match ev env x with
    | some (.iter b) => match env.h[b]? with
      | some (.iter mb cnt seen) => match env.h[mb]? with
        | some (.map es) => entryAV es cnt seen env.h
        | _ => none
      | _ => none
    | _ => none
  | .mapUpdate t m k x | .insert t m k x => match mapOf tab t, ev env m, ev env k, ev env x with
    | some (kt, _), some (.map b), some (.d kd), some v => match env.h[b]? with
      | some (.map es) => if keyOk tab kt kd then (mapPut kd v es).map fun es' => (True, env.h.set b (.map es'), .tup []) else none
      | _ => none
    | _, _, _, _ => none
  | .makeSlice t l c => match slOf tab t, (ev env l).bind asI, (ev env c).bind asI with
    | some e, some n, some k => match tab.get e with
      | some te => freshRow mu env.h e n.toNat (List.replicate n.toNat (zeroAV te)) (0 ≤ n ∧ n ≤ k ∧ te.bytes * k ≤ 281474976710656 ∧ k ≤ 9223372036854775807)
      | none => none
    | _, _, _ => none
  | .move x => (ev env x).map fun v => (True, env.h, v.asData)
  | .convert s d x => match tab.get s, ev env x with
    | some ⟨.sl e, _, _, _⟩, some (.ref b e' off len) => match tab.get e, env.h[b]? with
      | some ⟨.int .u8, _, _, _⟩, some (.cells e'' xs) => match AV.allD xs with
        | some ds => some (s = d ∧ e' = e ∧ e'' = e ∧ off = 0 ∧ len = ds.length ∧ 0 < len, env.h.set b .gone, .d (.sl e ds))
        | none => none
      | _, _ => none
    | _, _ => none
  | _ => none

/-! ### Soundness -/

/-- The values of the cells of a row of elements. -/
def ARow (sz : TypeId → Nat) (F : Frz) (ρ : Env0) (n : Nat) (e : TypeId) (xs : List AV) (vs : List Value) : Prop :=
  vs.length = xs.length * sz e ∧ ∀ (i : Nat) (x : AV), xs[i]? = some x → x.cells.length = sz e ∧ ∀ (k : Nat) (y : AV), x.cells[k]? = some y → ∃ v, vs[i * sz e + k]? = some v ∧ VRel sz F ρ n y v ∧ v.oneCell' = true

theorem ARow.rows {e : TypeId} {ds : List D} {vs : List Value} (h : ARow sz F ρ n e (ds.map AV.d) vs) : (∀ x ∈ ds, x.cells.length = sz e) ∧ RowRep sz F (flatD ds) vs := by
  have hl : ∀ x ∈ ds, x.cells.length = sz e := fun x hx => by
    obtain ⟨i, hi⟩ := List.getElem?_of_mem hx
    have := (h.2 i (.d x) (by simp [hi])).1
    simpa [AV.cells] using this
  refine ⟨hl, by rw [h.1, flatD_length hl]; simp, fun j c hj => ?_⟩
  obtain ⟨i, k, x, h1, h2, rfl⟩ := flatD_back hl j c hj
  obtain ⟨v, h3, h4, h5⟩ := (h.2 i (.d x) (by simp [h1])).2 k (.d c) (by simp [AV.cells, h2])
  exact ⟨v, h3, h4.d_inv, h5⟩

theorem ARow.of_rows {e : TypeId} {ds : List D} {vs : List Value} (hl : ∀ x ∈ ds, x.cells.length = sz e) (h : RowRep sz F (flatD ds) vs) : ARow sz F ρ n e (ds.map AV.d) vs := by
  refine ⟨by rw [h.1, flatD_length hl]; simp, fun i x hi => ?_⟩
  simp only [List.getElem?_map, Option.map_eq_some_iff] at hi
  obtain ⟨d, hd, rfl⟩ := hi
  refine ⟨by simpa [AV.cells] using hl d (List.mem_of_getElem? hd), fun k y hk => ?_⟩
  simp only [AV.cells, List.getElem?_map, Option.map_eq_some_iff] at hk
  obtain ⟨c, hc, rfl⟩ := hk
  obtain ⟨v, h1, h2, h3⟩ := h.2 _ c (flatD_get hl i k d c hd hc)
  exact ⟨v, h1, .d h2, h3⟩

theorem St.drew (hst : St sz base w0 F ρ h w) : St sz base w0 F ρ h w.drew :=
  ⟨hst.frz, fun b x hx => (hst.blk b x hx).mono (Ext.refl _ _ _) rfl (Nat.le_refl _) (fun _ _ _ h => h) (fun _ _ _ _ => rfl), hst.dist, hst.old, hst.hb, hst.lt⟩

/-- A new block of elements that may be written. -/
theorem St.new_mut (hst : St sz base w0 F ρ h w) {e e0 : TypeId} {xs : List AV} {vs : List Value} {cs : Array Value} (hr : ARow sz F ρ h.length e xs vs) (hcs : ∀ (j : Nat) (v : Value), vs[j]? = some v → cs[j]? = some v) {N : Nat} (hN : xs.length ≤ N) (hsz : N * sz e = cs.size) (he : e0 = e) :
    St sz base w0 F (upd ρ h.length (.mt w.heap.size N)) (h ++ [.cells e xs]) (w.alloc (.cells cs e0)) := by
  refine hst.push (.inl rfl) (Frz.le_refl _) (fun _ _ => rfl) (fun y v hy hyb => ?_) (fun y v hy => by have := frz_lt hst hy; omega) ?_
  · have := frz_lt hst hy; omega
  · refine ⟨w.heap.size, N, cs, e0, upd_same _ _ _, hst.hb, heap_new _ _, fun y hy => ?_, ⟨hN, hsz, he⟩, fun i x hi => ?_⟩
    · cases hF : F y with
      | none => rfl
      | some v => have := frz_lt hst hF; omega
    · obtain ⟨h1, h2⟩ := hr.2 i x hi
      refine ⟨h1, fun k y hk => ?_⟩
      obtain ⟨v, h3, h4, h5⟩ := h2 k y hk
      exact ⟨v, hcs _ _ h3, h4.mono (Ext.upd _ _ _ _) (by omega), h5⟩

/-- A new row, as its maker wants it. -/
theorem fresh_sound (hst : St sz base w0 F ρ h w) {mu : Bool} {e e0 : TypeId} {k : Nat} {xs : List AV} {ob ob' : Prop} {h' : List Blk} {v : AV} (hf : freshRow mu h e k xs ob = some (ob', h', v)) {vs : List Value} {cs : Array Value} {cap : Nat}
    (hk : xs.length = k) (hr : ARow sz F ρ h.length e xs vs) (hcs : ∀ (j : Nat) (v : Value), vs[j]? = some v → cs[j]? = some v) (hcap : k ≤ cap) (hsz : cap * sz e = cs.size) (he : e0 = e) :
    ob' = ob ∧ ∃ F' ρ', Ext h.length F ρ F' ρ' ∧ St sz base w0 F' ρ' h' (w.alloc (.cells cs e0)) ∧ VRel sz F' ρ' h'.length v (.slice (some ⟨w.heap.size, 0, none⟩) k cap) ∧ h.length ≤ h'.length := by
  subst hk
  unfold freshRow at hf
  have hmul : xs.length * sz e ≤ cap * sz e := Nat.mul_le_mul_right _ hcap
  split at hf
  · simp only [Option.some.injEq, Prod.mk.injEq] at hf
    obtain ⟨rfl, rfl, rfl⟩ := hf
    refine ⟨rfl, F, _, Ext.upd _ _ _ _, hst.new_mut hr hcs hcap hsz he, ?_, by simp⟩
    refine .ref (by simp) (fun _ => ⟨_, rfl⟩) (fun B N hl => ?_) hcap
    rw [upd_same] at hl
    cases hl
    exact ⟨fun _ => by rw [Nat.zero_mul], by omega⟩
  · split at hf
    · rename_i ds hds
      simp only [Option.some.injEq, Prod.mk.injEq] at hf
      obtain ⟨rfl, rfl, rfl⟩ := hf
      have := AV.allD_some hds
      subst this
      obtain ⟨hl, hrr⟩ := hr.rows
      have hnb := hst.new_bld (e := e) (e0 := e0) hl hrr hcs (by simpa using hcap) hsz he
      simp only [List.length_map] at hnb ⊢
      exact ⟨trivial, _, _, hnb.1, hnb.2.1, by simpa using hnb.2.2, by simp⟩
    · simp at hf

theorem writeAll_fold (vs : List Value) : ∀ (c : Array Value) (o j : Nat), (vs.zipIdx j).foldl (fun cs (p : Value × Nat) => cs.setIfInBounds (o + p.2) p.1) c = writeAll c (o + j) vs := by
  induction vs with
  | nil => intro c o j; rfl
  | cons v vs ih => intro c o j; simp only [List.zipIdx_cons, List.foldl_cons, writeAll]; rw [ih]; rfl

theorem ARow.set {e : TypeId} {xs : List AV} {c : Array Value} {i : Nat} {v : AV} {cv : Value} (hr : ARow sz F ρ n e xs c.toList) (hi : i < xs.length) (hok : okCells v (sz e)) (hv : VRel sz F ρ n v cv) :
    ARow sz F ρ n e (xs.set i v) (writeAll c (i * sz e) cv.cells.toList).toList := by
  obtain ⟨hs, hc⟩ := cells_rel hv hok
  have hlc : cv.cells.toList.length = sz e := by simpa using hs
  have hcs : c.size = xs.length * sz e := by have := hr.1; simpa using this
  have hb : ∀ j, j < xs.length → j * sz e + sz e ≤ c.size := by
    intro j hj
    have : (j + 1) * sz e ≤ xs.length * sz e := Nat.mul_le_mul_right _ hj
    rw [Nat.add_mul] at this
    omega
  refine ⟨by simp only [Array.length_toList, writeAll_size, List.length_set]; exact hcs, fun j x hj => ?_⟩
  by_cases e1 : j = i
  · subst e1
    rw [List.getElem?_set_self hi] at hj
    cases hj
    refine ⟨hok.1, fun k y hk => ?_⟩
    obtain ⟨u, h1, h2, h3⟩ := hc k y hk
    have hkl : k < sz e := by have := (List.getElem?_eq_some_iff.mp hk).1; rw [hok.1] at this; exact this
    refine ⟨u, ?_, h2, h3⟩
    rw [Array.getElem?_toList, writeAll_get _ _ _ (by rw [hlc]; exact hb j hi), if_pos (by omega)]
    rw [show j * sz e + k - j * sz e = k from by omega]
    simpa using h1
  · rw [List.getElem?_set_ne (Ne.symm e1)] at hj
    obtain ⟨h1, h2⟩ := hr.2 j x hj
    refine ⟨h1, fun k y hk => ?_⟩
    obtain ⟨u, h3, h4, h5⟩ := h2 k y hk
    have hkl : k < sz e := by have := (List.getElem?_eq_some_iff.mp hk).1; rw [h1] at this; exact this
    refine ⟨u, ?_, h4, h5⟩
    rw [Array.getElem?_toList, writeAll_get _ _ _ (by rw [hlc]; exact hb i hi), if_neg, ← Array.getElem?_toList]
    · exact h3
    · intro hin
      rw [hlc] at hin
      rcases Nat.lt_or_gt_of_ne e1 with hlt | hgt
      · have : (j + 1) * sz e ≤ i * sz e := Nat.mul_le_mul_right _ hlt
        rw [Nat.add_mul] at this
        omega
      · have : (i + 1) * sz e ≤ j * sz e := Nat.mul_le_mul_right _ hgt
        rw [Nat.add_mul] at this
        omega

theorem fillAV_length {xs : List AV} {ps : List (Nat × AV)} : (fillAV xs ps).length = xs.length := by
  induction ps generalizing xs with
  | nil => rfl
  | cons p ps ih => obtain ⟨i, v⟩ := p; simp [fillAV, ih]

theorem fill_sound {e : TypeId} : ∀ {ps : List (Nat × AV)} {pvs : List (Nat × Value)} {xs : List AV} {c : Array Value}, ARow sz F ρ n e xs c.toList →
    pvs.length = ps.length → (∀ (j i : Nat) (v : AV), ps[j]? = some (i, v) → ∃ cv, pvs[j]? = some (i, cv) ∧ VRel sz F ρ n v cv) → (∀ p ∈ ps, p.1 < xs.length ∧ okCells p.2 (sz e)) →
    ∃ c', Instr.fill (fun i => some (i * sz e, sz e)) c pvs = some c' ∧ ARow sz F ρ n e (fillAV xs ps) c'.toList
  | [], [], xs, c, hr, _, _, _ => ⟨c, rfl, hr⟩
  | [], _ :: _, xs, c, hr, hl, _, _ => by simp at hl
  | _ :: _, [], xs, c, hr, hl, _, _ => by simp at hl
  | (i, v) :: ps, (i', cv) :: pvs, xs, c, hr, hl, hv, hok => by
    obtain ⟨cv', h1, h2⟩ := hv 0 i v rfl
    simp only [List.getElem?_cons_zero, Option.some.injEq, Prod.mk.injEq] at h1
    obtain ⟨rfl, rfl⟩ := h1
    obtain ⟨hi, hk⟩ := hok (i', v) (by simp)
    obtain ⟨hs, _⟩ := cells_rel h2 hk
    have hcs : c.size = xs.length * sz e := by have := hr.1; simpa using this
    have hb : i' * sz e + sz e ≤ c.size := by
      have : (i' + 1) * sz e ≤ xs.length * sz e := Nat.mul_le_mul_right _ hi
      rw [Nat.add_mul] at this
      omega
    obtain ⟨c', h3, h4⟩ := fill_sound (ps := ps) (pvs := pvs) (hr.set hi hk h2) (by simpa using hl) (fun j i v hj => by simpa using hv (j + 1) i v (by simpa using hj)) (fun p hp => by
      obtain ⟨h5, h6⟩ := hok p (by simp [hp])
      exact ⟨by simpa using h5, h6⟩)
    refine ⟨c', ?_, h4⟩
    simp only [Instr.fill]
    rw [if_neg (by simp only [hs, ne_eq, not_true_eq_false, decide_false, Bool.false_or, decide_eq_true_eq]; omega)]
    rw [← Array.foldl_toList, Array.toList_zipIdx]
    have := writeAll_fold cv.cells.toList c (i' * sz e) 0
    simp only [Nat.add_zero] at this
    rw [this]
    exact h3

theorem parts_sound {sz : TypeId → Nat} (hr : Rel sz base w0 m nt F ρ env a w) : ∀ {ps : List (Nat × Operand)} {vs : List (Nat × AV)}, partsAV env ps = some vs → vs.length = ps.length ∧
    ∀ (j i : Nat) (v : AV), vs[j]? = some (i, v) → ∃ cv, (ps.map fun p => (p.1, a.eval p.2))[j]? = some (i, cv) ∧ VRel sz F ρ env.h.length v cv
  | [], vs, h => by cases h; simp
  | (i, x) :: ps, vs, h => by
    simp only [partsAV] at h
    split at h
    · rename_i v vs' h1 h2
      cases h
      obtain ⟨h3, h4⟩ := parts_sound hr h2
      refine ⟨by simp [h3], fun j i' v' hj => ?_⟩
      cases j with
      | zero =>
        simp only [List.getElem?_cons_zero, Option.some.injEq, Prod.mk.injEq] at hj
        obtain ⟨rfl, rfl⟩ := hj
        exact ⟨a.eval x, by simp, ev_sound hr h1⟩
      | succ j => simpa using h4 j i' v' (by simpa using hj)
    · simp at h

/-- A row of zeros. -/
theorem zeros_row {t : TypeId} {ti : TI} (hg : ti.Good P t) {z : Value} (hz : z.cells.toList = ti.zero.map D.val) (hp : ∀ x ∈ ti.zero, x.plain = true) (k : Nat) :
    ARow (psz P) F ρ n t (List.replicate k (zeroAV ti)) ((Array.range (k * ti.size)).map (z.cells[· % z.cells.size]!)).toList := by
  have hzs : z.cells.size = ti.size := by rw [← Array.length_toList, hz]; simp [hg.zlen]
  have hzc : (zeroAV ti).cells = ti.zero.map AV.d := by
    unfold zeroAV
    cases hagg : ti.agg with
    | true => rfl
    | false =>
      have h1 := hg.one hagg
      rw [← hg.zlen] at h1
      match hzz : ti.zero with
      | [] => rw [hzz] at h1; simp at h1
      | [x] =>
        have hxp := hp x (by rw [hzz]; simp)
        simp only [Bool.false_eq_true, if_false, List.headD_cons, AV.cells]
        cases x <;> first | rfl | (simp [D.plain] at hxp)
      | _ :: _ :: _ => rw [hzz] at h1; simp at h1
  refine ⟨by simp [hg.psz], fun i x hi => ?_⟩
  rw [List.getElem?_replicate] at hi
  split at hi
  · rename_i hik
    cases hi
    rw [hzc]
    refine ⟨by simp [hg.psz, hg.zlen], fun j y hj => ?_⟩
    simp only [List.getElem?_map, Option.map_eq_some_iff] at hj
    obtain ⟨d, hd, rfl⟩ := hj
    have hjl : j < ti.size := by rw [← hg.zlen]; exact (List.getElem?_eq_some_iff.mp hd).1
    have hpl := hp d (List.mem_of_getElem? hd)
    refine ⟨d.val, ?_, .d (D.val_rep hpl), by cases d <;> first | rfl | (simp [D.plain] at hpl)⟩
    rw [hg.psz, Array.getElem?_toList]
    have hlt : i * ti.size + j < k * ti.size := by
      have : (i + 1) * ti.size ≤ k * ti.size := Nat.mul_le_mul_right _ hik
      rw [Nat.add_mul] at this
      omega
    have hm : (i * ti.size + j) % z.cells.size = j := by rw [hzs, Nat.mul_comm, Nat.mul_add_mod, Nat.mod_eq_of_lt hjl]
    rw [Array.getElem?_map]
    simp only [Array.getElem?_range, hlt, if_true, Option.map_some, hm]
    have : z.cells[j]? = some d.val := by
      have : z.cells.toList[j]? = some d.val := by rw [hz]; simp [hd]
      simpa using this
    rw [getElem!_def, this]
  · cases hi

end Go.Vm

/- Blocks become data, and are forgotten. -/
set_option linter.unusedSimpArgs false
namespace Go.Vm
variable {P : Program} {base : Nat} {w0 : World} {m nt : Nat} {F : Frz} {ρ : Env0} {env env' : Env} {a : Act} {w w' : World} {n : Nat} {tab : Tab} {sz : TypeId → Nat} {h : List Blk}

/-- All cells of a block are known. -/
def frzAll (F : Frz) (B : Nat) (c : Array Value) : Frz := fun a => if a.block = B ∧ a.spot = none then c[a.off]? else F a

theorem St.freeze (hst : St sz base w0 F ρ h w) {b : Nat} {e : TypeId} {ds : List D} (hb : h[b]? = some (.cells e (ds.map AV.d))) :
    ∃ F', F.le F' ∧ St sz base w0 F' ρ (h.set b .gone) w ∧ ∀ {n off len : Nat} {v : Value}, VRel sz F ρ n (.ref b e off len) v → off + len ≤ ds.length → FRep sz F' (.sl e ((ds.drop off).take len)) v := by
  obtain ⟨B, N, c, e0, h1, h2, h3, h4, h5, h6⟩ := hst.blk b _ hb
  have hlt := (List.getElem?_eq_some_iff.mp hb).1
  have hle : F.le (frzAll F B c) := by
    intro y v hy
    unfold frzAll
    split
    · rename_i hc; rw [h4 y hc.1] at hy; cases hy
    · exact hy
  have hx : Ext h.length F ρ (frzAll F B c) ρ := ⟨hle, fun _ _ => Loc.ext_refl _⟩
  have hbc : (ρ b).conc = some B := by rw [h1]; rfl
  refine ⟨frzAll F B c, hle, ⟨fun y v hy => ?_, fun b' x hb' => ?_, fun b1 b2 B' l1 l2 => hst.dist b1 b2 B' (by simpa using l1) (by simpa using l2), hst.old, hst.hb, fun b1 B' l1 => hst.lt b1 B' (by simpa using l1)⟩, ?_⟩
  · unfold frzAll at hy
    split at hy
    · rename_i hc
      simp only [World.cell?, hc.1, h3, hc.2, if_true]
      exact hy
    · exact hst.frz y v hy
  · rw [List.length_set]
    by_cases e1 : b' = b
    · subst e1
      rw [List.getElem?_set_self hlt] at hb'
      cases hb'
      trivial
    · rw [List.getElem?_set_ne (Ne.symm e1)] at hb'
      have hlt' := (List.getElem?_eq_some_iff.mp hb').1
      refine (hst.blk b' x hb').mono hx rfl (Nat.le_refl _) (fun _ _ _ h => h) (fun r hr y hy => ?_)
      unfold frzAll
      split
      · rename_i hc
        exact absurd (hst.dist b' b B hlt' hlt (by rw [hr, ← hy, hc.1]) hbc) e1
      · rfl
  · intro n off len v hv hol
    cases hv with
    | @ref _ _ _ _ cap A hbn hA0 hl hc =>
      have hA : len ≠ 0 → A = some ⟨B, off * sz e, none⟩ := fun hne => (hl B N h1).1 (by omega)
      have hlen : ((ds.drop off).take len).length = len := by simp; omega
      have key : ∀ (i : Nat) (x : D) (k : Nat) (y : D), ((ds.drop off).take len)[i]? = some x → x.cells[k]? = some y → ∃ u, c[(off + i) * sz e + k]? = some u ∧ FRep sz F y u ∧ u.oneCell' = true ∧ i < len := by
        intro i x k y hi hk
        have hil : i < len := by have := (List.getElem?_eq_some_iff.mp hi).1; rw [hlen] at this; exact this
        rw [List.getElem?_take_of_lt hil, List.getElem?_drop] at hi
        obtain ⟨u, h7, h8, h9⟩ := (h6 (off + i) (.d x) (by simp [hi])).2 k (.d y) (by simp only [AV.cells, List.getElem?_map, hk, Option.map_some])
        exact ⟨u, h7, h8.d_inv, h9, hil⟩
      conv => arg 4; rw [← hlen]
      refine .sl e _ A ⟨B, off * sz e, none⟩ cap (fun i k => (c[(off + i) * sz e + k]?).getD .nilIface) (fun hne => ⟨hA (by intro e0; subst e0; simp at hne), rfl⟩) (by rw [hlen]; exact hc) (fun i x hi => ?_) (fun i x k y hi hk => ?_) (fun i x k y hi hk => ?_) (fun i x k y hi hk => ?_)
      · have hil : i < len := by have := (List.getElem?_eq_some_iff.mp hi).1; rw [hlen] at this; exact this
        rw [List.getElem?_take_of_lt hil, List.getElem?_drop] at hi
        have := (h6 (off + i) (.d x) (by simp [hi])).1
        simpa only [AV.cells, List.length_map] using this
      · obtain ⟨u, h7, _⟩ := key i x k y hi hk
        unfold frzAll
        rw [if_pos ⟨rfl, rfl⟩]
        show c[off * sz e + (i * sz e + k)]? = _
        rw [show off * sz e + (i * sz e + k) = (off + i) * sz e + k from by rw [Nat.add_mul]; omega, h7]
        rfl
      · obtain ⟨u, h7, h8, _⟩ := key i x k y hi hk
        rw [h7]; exact h8.mono hle
      · obtain ⟨u, h7, _, h9, _⟩ := key i x k y hi hk
        rw [h7]; exact h9

theorem St.forget (hst : St sz base w0 F ρ h w) (k : Nat) : St sz base w0 F ρ (h.set k .gone) w := by
  refine ⟨hst.frz, fun b x hx => ?_, fun b b' B h1 h2 => hst.dist b b' B (by simpa using h1) (by simpa using h2), hst.old, hst.hb, fun b B h1 => hst.lt b B (by simpa using h1)⟩
  rw [List.length_set]
  by_cases e : k = b
  · subst e
    by_cases hk : k < h.length
    · rw [List.getElem?_set_self hk] at hx; cases hx; trivial
    · rw [List.getElem?_eq_none (by simp; omega)] at hx; cases hx
  · rw [List.getElem?_set_ne e] at hx
    exact hst.blk b x hx

/-- Some bytes of a builder's row are frozen: the row is forgotten. -/
theorem St.freezeAt (hst : St sz base w0 F ρ h w) {k g : Nat} (hk : k < h.length) (hc : (ρ k).conc = some g) (hg : base ≤ g) (o len : Nat) : St sz base w0 F ρ (h.set k .gone) (w.freeze ⟨g, o, none⟩ len) := by
  unfold World.freeze
  split
  · exact hst.forget k
  have hcell : ∀ y, World.cell? { w with heap := w.heap.modify g fun
      | .cells c elem (lo, hi) => .cells c elem (if lo == hi then (o, o + len) else (min lo o, max hi (o + len)))
      | x => x } y = w.cell? y := by
    intro y
    simp only [World.cell?, Array.getElem?_modify]
    by_cases e : g = y.block
    · subst e
      rw [if_pos rfl]
      cases hh : w.heap[y.block]? with
      | none => rfl
      | some o => cases o <;> rfl
    · rw [if_neg e]
  have hoth : ∀ r, r ≠ g → (w.heap.modify g fun
      | .cells c elem (lo, hi) => .cells c elem (if lo == hi then (o, o + len) else (min lo o, max hi (o + len)))
      | x => x)[r]? = w.heap[r]? := by
    intro r hr
    rw [Array.getElem?_modify, if_neg (Ne.symm hr)]
  refine ⟨fun y v hy => (hcell y).trans (hst.frz y v hy), fun b x hx => ?_, fun b b' B h1 h2 => hst.dist b b' B (by simpa using h1) (by simpa using h2), ⟨hst.old.1, fun r hr => ?_⟩, by simpa using hst.hb, fun b B h1 c1 => ?_⟩
  · rw [List.length_set]
    by_cases e : k = b
    · subst e
      rw [List.getElem?_set_self hk] at hx; cases hx; trivial
    · rw [List.getElem?_set_ne e] at hx
      have hlt := (List.getElem?_eq_some_iff.mp hx).1
      refine (hst.blk b x hx).mono (Ext.refl _ _ _) rfl (Nat.le_refl _) (fun r ob hr ho => ?_) (fun _ _ _ _ => rfl)
      exact (hoth r (fun e' => e (hst.dist k b g hk hlt hc (by rw [hr, e'])))).trans ho
  · exact (hoth r (by omega)).trans (hst.old.2 r hr)
  · have := hst.lt b B (by simpa using h1) c1
    simpa using this

theorem St.freezeRow (hst : St sz base w0 F ρ h w) {k g : Nat} (hk : k < h.length) (hc : (ρ k).conc = some g) (hg : base ≤ g) (len : Nat) : St sz base w0 F ρ (h.set k .gone) (w.freeze ⟨g, 0, none⟩ len) :=
  hst.freezeAt hk hc hg 0 len

end Go.Vm

/- evH is sound. -/
set_option linter.unusedSimpArgs false
namespace Go.Vm
variable {P : Program} {base : Nat} {w0 : World} {m nt : Nat} {F : Frz} {ρ : Env0} {env : Env} {a : Act} {w : World} {n : Nat} {tab : Tab} {h : List Blk}

/-- What comes of an operation that writes memory. -/
def Does (P : Program) (base : Nat) (w0 : World) (F : Frz) (ρ : Env0) (h : List Blk) (w : World) (s : Sem Next) (h' : List Blk) (v : AV) : Prop :=
  ∃ nx cv w' F' ρ', s.run P w = .ok nx w' ∧ (nx = .value cv ∨ (nx = .skip ∧ cv = undef)) ∧ Ext h.length F ρ F' ρ' ∧ St (psz P) base w0 F' ρ' h' w' ∧ VRel (psz P) F' ρ' h'.length v cv ∧ h.length ≤ h'.length

theorem does_value {s : Sem Value} {h' : List Blk} {v : AV} {cv : Value} {w' : World} {F' : Frz} {ρ' : Env0} (hrun : s.run P w = .ok cv w') (hx : Ext h.length F ρ F' ρ') (hst : St (psz P) base w0 F' ρ' h' w') (hv : VRel (psz P) F' ρ' h'.length v cv) (hl : h.length ≤ h'.length) :
    Does P base w0 F ρ h w (do Pure.pure (Next.value (← s))) h' v :=
  ⟨_, cv, w', F', ρ', by simp only [Sem.run_bind, hrun, Result.andThen_ok, Sem.run_pure], .inl rfl, hx, hst, hv, hl⟩

theorem undef_rel {sz : TypeId → Nat} : VRel sz F ρ n (.tup []) undef := .tup [] #[] rfl (fun _ => .nilIface) (by simp) (by simp)

theorem sl_empty' {sz : TypeId → Nat} (e : TypeId) (A : Option Addr) (c : Nat) : FRep sz F (.sl e []) (.slice A 0 c) :=
  .sl e [] A ⟨0, 0, none⟩ c (fun _ _ => .nilIface) (by simp) (by simp) (by simp) (by simp) (by simp) (by simp)

theorem ptr_new {sz : TypeId → Nat} {t : TypeId} {x : AV} : VRel sz F (upd ρ h.length (.mt w.heap.size 1)) (h ++ [Blk.cells t [x]]).length (.ptr h.length t 0 0) (.pointer (some ⟨w.heap.size, 0, none⟩)) := by
  refine .ptr (by simp) (fun B N hl => ?_)
  rw [upd_same] at hl
  cases hl
  simp

theorem isSrc_sound (hT : tab.checks P = true) {t : TypeId} (h : isSrc tab t = true) : ∃ d, P.underlying t = some d ∧ (∀ k, d ≠ .int k) ∧ (d = .string ∨ ∃ e, d = .slice e) := by
  simp only [isSrc, Bool.or_eq_true] at h
  rcases h with h | h
  · exact ⟨_, isStr_sound hT h, by simp, .inl rfl⟩
  · obtain ⟨e, he⟩ := Option.isSome_iff_exists.mp h
    exact ⟨_, (slOf_sound hT he).1, by simp, .inr ⟨e, rfl⟩⟩

theorem alloc_sound (hT : tab.checks P = true) (hst : St (psz P) base w0 F ρ h w) {t : TypeId} {ti : TI} (hti : tab.get t = some ti) :
    Does P base w0 F ρ h w (do Pure.pure (Next.value (← Instr.alloc t true (.tuple #[])))) (h ++ [.cells t [zeroAV ti]]) (.ptr h.length t 0 0) := by
  have hg := Tab.good hT hti
  obtain ⟨info, hi1, hi2, _, z, hz, hzc, hzp, hza⟩ := hg.info
  have hzl : z.cells.size = ti.size := by rw [← Array.length_toList, hzc]; simp [hg.zlen]
  have hrun : (Instr.alloc t true (.tuple #[])).run P w = .ok (.pointer (some ⟨w.heap.size, 0, none⟩)) (w.alloc (.cells z.cells t)) := by
    simp only [Instr.alloc, zeroValue, typeInfo, newVar, newRow, Sem.run_bind, run_program, hi1, hz, run_newObj, Result.andThen_ok, Sem.run_pure, World.alloc_eq]
  have hrow := zeros_row (F := F) (ρ := ρ) (n := h.length) hg hzc hzp 1
  have hcells : ((Array.range (1 * ti.size)).map (z.cells[· % z.cells.size]!)).toList = z.cells.toList := by
    apply List.ext_getElem?
    intro j
    by_cases hj : j < ti.size
    · have : j % z.cells.size = j := by rw [hzl, Nat.mod_eq_of_lt hj]
      have hj' : j < z.cells.size := by omega
      simp [hj, this, hj', getElem!_def]
    · rw [List.getElem?_eq_none (by simp; omega), List.getElem?_eq_none (by simp; omega)]
  rw [hcells] at hrow
  exact does_value hrun (Ext.upd _ _ _ _) (hst.new_mut (e0 := t) hrow (fun j v hj => by simpa using hj) (N := 1) (by simp) (by simp [hg.psz, hzl]) rfl) ptr_new (by simp)

theorem box_sound (hT : tab.checks P = true) (hst : St (psz P) base w0 F ρ h w) {t : TypeId} {ti : TI} (hti : tab.get t = some ti) {v : AV} {cv : Value} (hv : VRel (psz P) F ρ h.length v cv) (hok : okCells v ti.size) :
    Does P base w0 F ρ h w (do Pure.pure (Next.value (← Instr.box t cv))) (h ++ [.cells t [v]]) (.ptr h.length t 0 0) := by
  have hg := Tab.good hT hti
  obtain ⟨hsz, hcr⟩ := cells_rel hv hok
  have hrun : (Instr.box t cv).run P w = .ok (.pointer (some ⟨w.heap.size, 0, none⟩)) (w.alloc (.cells cv.cells t)) := by
    simp only [Instr.box, newVar, newRow, Sem.run_bind, run_newObj, Result.andThen_ok, Sem.run_pure, World.alloc_eq]
  exact does_value hrun (Ext.upd _ _ _ _) (hst.new_var (e := t) (e0 := t) (x := v) (cs := cv.cells) (by rw [hg.psz]; exact hok.1) (by rw [hg.psz, hsz]) rfl hcr) ptr_new (by simp)

theorem makeMap_sound (hst : St (psz P) base w0 F ρ h w) (t : TypeId) :
    Does P base w0 F ρ h w (do Pure.pure (Next.value (← Instr.makeMap t none))) (h ++ [.map []]) (.map h.length) := by
  have hrun : (Instr.makeMap t none).run P w = .ok (.map (some w.heap.size)) (w.alloc (.map #[] 0)) := by
    simp only [Instr.makeMap, Sem.run_bind, run_newObj, Result.andThen_ok, Sem.run_pure, World.alloc_eq]
  refine does_value hrun (Ext.upd _ _ _ (.obj w.heap.size)) (hst.push (.inl rfl) (Frz.le_refl _) (fun _ _ => rfl) (fun y v hy hyb => ?_) (fun y v hy => by have := frz_lt hst hy; omega) ?_) (.map (by simp) (upd_same _ _ _)) (by simp)
  · have := frz_lt hst hy; omega
  · exact ⟨w.heap.size, #[], upd_same _ _ _, hst.hb, heap_new _ _, rfl, fun i k x hi => by simp at hi⟩

theorem tup_of {sz : TypeId → Nat} {cs : List AV} {vs : Array Value} (hs : vs.size = cs.length) (h : ∀ (k : Nat) (c : AV), cs[k]? = some c → ∃ v, vs[k]? = some v ∧ VRel sz F ρ n c v) : VRel sz F ρ n (.tup cs) (.tuple vs) :=
  .tup cs vs hs (fun k => vs[k]?.getD .nilIface) (fun k c hc => by obtain ⟨v, h1, _⟩ := h k c hc; simp [h1]) (fun k c hc => by obtain ⟨v, h1, h2⟩ := h k c hc; simp only [h1, Option.getD_some]; exact h2)

theorem range_sound (hT : tab.checks P = true) (hst : St (psz P) base w0 F ρ h w) {t : TypeId} {q : TypeId × TI} {b : Nat} {es : List (D × AV)} {cm : Value} (hmo : mapOf tab t = some q)
    (hm : VRel (psz P) F ρ h.length (.map b) cm) (hb : h[b]? = some (.map es)) :
    Does P base w0 F ρ h w (do Pure.pure (Next.value (← Instr.range t cm))) (h ++ [.iter b es.length []]) (.iter h.length) := by
  obtain ⟨kt, te⟩ := q
  obtain ⟨e, hu, _⟩ := mapOf_sound hT hmo
  obtain ⟨ro, m', h1, h2, h3, h4, h5⟩ := hst.blk b _ hb
  have hlt := (List.getElem?_eq_some_iff.mp hb).1
  cases hm with
  | @map _ r' hbn hl =>
    rw [h1] at hl
    cases hl
    refine does_value (run_range_map w t kt e ro m' m'.size hu h3) (Ext.upd _ _ _ (.obj w.heap.size)) (hst.push (.inl rfl) (Frz.le_refl _) (fun _ _ => rfl) (fun y v hy hyb => ?_) (fun y v hy => by have := frz_lt hst hy; omega) ?_) (.iter (by simp) (upd_same _ _ _)) (by simp)
    · have := frz_lt hst hy; omega
    · exact ⟨w.heap.size, ro, upd_same _ _ _, hst.hb, by omega, by rw [upd_ne (by omega)]; exact h1, by rw [heap_new, h4]⟩

theorem entry_sound (hst : St (psz P) base w0 F ρ h w) {b mb cnt : Nat} {seen : List Nat} {es : List (D × AV)} {ci : Value} {ob : Prop} {h' : List Blk} {v : AV} (hi : VRel (psz P) F ρ h.length (.iter b) ci)
    (hb : h[b]? = some (.iter mb cnt seen)) (hm : h[mb]? = some (.map es)) (he : entryAV es cnt seen h = some (ob, h', v)) (hob : ob) :
    Does P base w0 F ρ h w (do Pure.pure (Next.value (← Instr.entry ci))) h' v := by
  simp only [entryAV, Option.bind_eq_some_iff, Option.map_eq_some_iff, Prod.mk.injEq] at he
  obtain ⟨i, hi1, e, hi2, rfl, rfl, rfl⟩ := he
  obtain ⟨r, r', h1, h2, h3, h4, h5⟩ := hst.blk b _ hb
  obtain ⟨ro, m', g1, g2, g3, g4, g5⟩ := hst.blk mb _ hm
  rw [h4] at g1
  cases g1
  obtain ⟨en, g6, g7, g8, g9⟩ := g5 i e.1 e.2 hi2
  cases hi with
  | iter hbn hl =>
    rw [h1] at hl
    cases hl
    obtain ⟨s0, rfl⟩ : ∃ s0, seen = s0 ++ [i] := by
      obtain ⟨s0, hs⟩ := List.getLast?_eq_some_iff.mp hi1
      exact ⟨s0, hs⟩
    have hnd : (m'.toList.map (·.born)).Nodup := by
      have : m'.toList.map (·.born) = List.range m'.size := by
        apply List.ext_getElem?
        intro j
        by_cases hj : j < m'.size
        · obtain ⟨en', q1, q2, _⟩ := g5 j _ _ (List.getElem?_eq_getElem (by omega : j < es.length))
          rw [List.getElem?_range hj, List.getElem?_map, Array.getElem?_toList, q1]
          simp [q2]
        · rw [List.getElem?_eq_none (by simp; omega), List.getElem?_eq_none (by simp; omega)]
      rw [this]
      exact List.nodup_range
    have hrun := run_entry_at (P := P) w r r' cnt s0.toArray m' m'.size en (by rw [h5, g7, g4, hob]; simp) g3 (by exact Array.mem_toList_iff.mpr (Array.mem_of_getElem? g6)) hnd
    refine does_value hrun (Ext.refl _ _ _) hst (tup_of rfl fun k c hk => ?_) (Nat.le_refl _)
    match k, hk with
    | 0, hk => simp at hk; subst hk; exact ⟨_, rfl, .d g8⟩
    | 1, hk => simp at hk; subst hk; exact ⟨_, rfl, g9⟩
    | k + 2, hk => simp at hk

/-- A step of an iterator over a map: any entry that it has not handed out yet, or the end. -/
theorem next_sound (hst : St (psz P) base w0 F ρ h w) {b mb cnt : Nat} {seen : List Nat} {es : List (D × AV)} {ci : Value} (ty : TypeId) (hi : VRel (psz P) F ρ h.length (.iter b) ci)
    (hb : h[b]? = some (.iter mb cnt seen)) (hm : h[mb]? = some (.map es)) (hlen : es.length = cnt) :
    ∃ v h' cv w', (Instr.next ci false ty).run P w = .ok cv w' ∧ St (psz P) base w0 F ρ h' w' ∧ VRel (psz P) F ρ h.length v cv ∧ h'.length = h.length ∧
      ((∃ i k x, es[i]? = some (k, x) ∧ i ∉ seen ∧ v = .tup [.d (.bool true), .d k, x] ∧ h' = h.set b (.iter mb cnt (seen ++ [i]))) ∨ ((∀ i, i < es.length → i ∈ seen) ∧ v = .tup [.d (.bool false)] ∧ h' = h)) := by
  obtain ⟨r, r', h1, h2, h3, h4, h5⟩ := hst.blk b _ hb
  obtain ⟨ro, m', g1, g2, g3, g4, g5⟩ := hst.blk mb _ hm
  rw [h4] at g1
  cases g1
  have hlt := (List.getElem?_eq_some_iff.mp hb).1
  have hat : ∀ (i : Nat) (en : MapEntry), m'[i]? = some en → ∃ k x, es[i]? = some (k, x) ∧ en.born = i ∧ FRep (psz P) F k en.key ∧ VRel (psz P) F ρ h.length x en.val := by
    intro i en hi
    have hil : i < es.length := by have := (Array.getElem?_eq_some_iff.mp hi).1; omega
    obtain ⟨en', q1, q2, q3, q4⟩ := g5 i _ _ (List.getElem?_eq_getElem hil)
    rw [hi] at q1
    cases q1
    exact ⟨_, _, List.getElem?_eq_getElem hil, q2, q3, q4⟩
  have hold : ∀ x ∈ m'.toList, x.born < cnt := by
    intro x hx
    obtain ⟨i, hi⟩ := List.getElem?_of_mem hx
    rw [Array.getElem?_toList] at hi
    obtain ⟨_, _, _, q2, _⟩ := hat i x hi
    have := (Array.getElem?_eq_some_iff.mp hi).1
    omega
  cases hi with
  | iter hbn hl =>
    rw [h1] at hl
    cases hl
    rcases run_next_at (P := P) w ty r r' cnt cnt seen.toArray m' m'.size h5 g3 hold (Nat.le_refl _) with ⟨e0, hrun⟩ | ⟨e, he, w1, hw1, hrun⟩
    · refine ⟨_, _, _, _, hrun, hst, tup_of rfl fun k c hk => ?_, rfl, .inr ⟨fun i hi => ?_, rfl, rfl⟩⟩
      · match k, hk with
        | 0, hk => simp at hk; subst hk; exact ⟨_, rfl, .d (.bool _)⟩
        | k + 1, hk => simp at hk
      · apply Classical.byContradiction
        intro hns
        obtain ⟨en, q1, q2, _⟩ := g5 i _ _ (List.getElem?_eq_getElem hi)
        have hmem : en ∈ leftOf m' seen.toArray := by
          unfold leftOf
          rw [Array.mem_filter]
          exact ⟨Array.mem_of_getElem? q1, by rw [q2]; simpa using hns⟩
        rw [Array.eq_empty_of_size_eq_zero e0] at hmem
        simp at hmem
    · have he' : e ∈ m' ∧ e.born ∉ seen := by
        have := Array.mem_toList_iff.mp he
        unfold leftOf at this
        rw [Array.mem_filter] at this
        exact ⟨this.1, by simpa using this.2⟩
      obtain ⟨i, hi⟩ := Array.getElem?_of_mem he'.1
      obtain ⟨k, x, q1, q2, q3, q4⟩ := hat i e hi
      have hst1 : St (psz P) base w0 F ρ h w1 := by
        rcases hw1 with rfl | rfl
        · exact hst
        · exact hst.drew
      have h5' : w1.heap[r]? = some (.mapIter (some r') cnt seen.toArray cnt) := by
        rcases hw1 with rfl | rfl <;> exact h5
      have hFn : ∀ y, y.block = r → F y = none := fun y hy => by
        cases hF : F y with
        | none => rfl
        | some u =>
          have := hst1.frz y u hF
          unfold World.cell? at this
          rw [hy, h5'] at this
          cases this
      have hrl : r < w1.heap.size := (Array.getElem?_eq_some_iff.mp h5').1
      refine ⟨_, _, _, _, hrun, hst1.rewrite (b := b) (blk := .iter mb cnt (seen ++ [i])) hlt (.inr h1) h2 hFn ?_, tup_of rfl fun k c hk => ?_, by simp, .inl ⟨i, k, x, q1, by rw [← q2]; exact he'.2, rfl, rfl⟩⟩
      · refine ⟨r, r', h1, h2, h3, h4, ?_⟩
        rw [setBlk_get, if_pos rfl, if_pos hrl, q2, g4, hlen]
        simp
      · match k, hk with
        | 0, hk => simp at hk; subst hk; exact ⟨_, rfl, .d (.bool _)⟩
        | 1, hk => simp at hk; subst hk; exact ⟨_, rfl, .d q3⟩
        | 2, hk => simp at hk; subst hk; exact ⟨_, rfl, q4⟩
        | k + 3, hk => simp at hk

theorem mapUpdate_sound (hT : tab.checks P = true) (hst : St (psz P) base w0 F ρ h w) {t kt : TypeId} {te : TI} {b : Nat} {kd : D} {v : AV} {es es' : List (D × AV)} {cm ck cv : Value} (hmo : mapOf tab t = some (kt, te))
    (hm : VRel (psz P) F ρ h.length (.map b) cm) (hk : FRep (psz P) F kd ck) (hv : VRel (psz P) F ρ h.length v cv) (hb : h[b]? = some (.map es)) (hko : keyOk tab kt kd = true) (hp : mapPut kd v es = some es') :
    Does P base w0 F ρ h w (do Instr.mapUpdate t cm ck cv; Pure.pure Next.skip) (h.set b (.map es')) (.tup []) := by
  obtain ⟨e, hu, hte⟩ := mapOf_sound hT hmo
  obtain ⟨d, hd, hck, hkey⟩ := keyOk_sound (w := w) hT hko hk
  obtain ⟨ro, m', h1, h2, h3, h4, h5⟩ := hst.blk b _ hb
  have hlt := (List.getElem?_eq_some_iff.mp hb).1
  have he : Ents (psz P) F ρ h.length es m'.toList := ⟨by simpa using h4, fun i k x hi => by
    obtain ⟨en, h6, h7, h8, h9⟩ := h5 i k x hi
    exact ⟨en, by simpa using h6, h8, h9⟩⟩
  have hgo : (getObj ro).run P w = .ok (.map m' m'.size) w := by simp only [getObj, Sem.run, h3]
  have hso : ∀ o, (setObj ro o).run P w = .ok () (setBlk w ro o) := fun o => by simp only [setObj, Sem.run, h3, setBlk]
  have hrl : ro < w.heap.size := (Array.getElem?_eq_some_iff.mp h3).1
  have hFn : ∀ y, y.block = ro → F y = none := fun y hy => by
    cases hF : F y with
    | none => rfl
    | some u =>
      have := hst.frz y u hF
      unfold World.cell? at this
      rw [hy, h3] at this
      cases this
  cases hm with
  | @map _ r' hbn hl =>
    rw [h1] at hl
    cases hl
    suffices ∃ m2, (Instr.mapUpdate t (.map (some ro)) ck cv).run P w = .ok () (setBlk w ro (.map m2 m2.size)) ∧ m2.size = es'.length ∧
        ∀ (i : Nat) (k : D) (x : AV), es'[i]? = some (k, x) → ∃ en : MapEntry, m2[i]? = some en ∧ en.born = i ∧ FRep (psz P) F k en.key ∧ VRel (psz P) F ρ h.length x en.val by
      obtain ⟨m2, hrun, h6, h7⟩ := this
      refine ⟨_, undef, setBlk w ro (.map m2 m2.size), F, ρ, by simp only [Sem.run_bind, hrun, Result.andThen_ok, Sem.run_pure], .inr ⟨rfl, rfl⟩, Ext.refl _ _ _, hst.rewrite hlt (.inr h1) h2 hFn ?_, undef_rel, by simp⟩
      exact ⟨ro, m2, h1, h2, by rw [setBlk_get, if_pos rfl, if_pos hrl], h6, h7⟩
    rcases put_sound hkey he hp with ⟨hf, rfl⟩ | ⟨i, cx, en, k', x', hf, hi, hen, hsb, hes, rfl⟩
    · refine ⟨m'.push { key := ck, val := cv, born := m'.size }, ?_, by simp [h4], fun i k x hi => ?_⟩
      · simp only [Instr.mapUpdate, Sem.run_bind, run_underlying' hu, Result.andThen_ok, hgo, hck, Instr.findKey, run_underlying' hd]
        rw [hf]
        simp only [Sem.run_bind, Sem.run_pure, Result.andThen_ok, hso, Array.size_push]
      · rcases Nat.lt_trichotomy i es.length with hl | hl | hl
        · rw [List.getElem?_append_left hl] at hi
          obtain ⟨en, h6, h7⟩ := h5 i k x hi
          refine ⟨en, ?_, h7⟩
          rw [Array.getElem?_push, if_neg (by omega)]
          exact h6
        · subst hl
          simp only [List.getElem?_append_right (Nat.le_refl _), Nat.sub_self, List.getElem?_cons_zero, Option.some.injEq, Prod.mk.injEq] at hi
          obtain ⟨rfl, rfl⟩ := hi
          exact ⟨_, by rw [← h4]; exact Array.getElem?_push_size, h4, hk, hv⟩
        · rw [List.getElem?_eq_none (by simp; omega)] at hi
          cases hi
    · have hia : m'[i]? = some en := by simpa using hi
      refine ⟨m'.modify i fun e => { e with key := ck, val := cv }, ?_, by simp [h4], fun j k x hj => ?_⟩
      · simp only [Instr.mapUpdate, Sem.run_bind, run_underlying' hu, Result.andThen_ok, hgo, hck, Instr.findKey, run_underlying' hd]
        rw [hf]
        simp only [Sem.run_bind, Sem.run_pure, Result.andThen_ok, hia, Option.map_some, Option.getD_some, Instr.keyThatStays, hsb, if_true, hso, Array.size_modify]
      · by_cases hij : j = i
        · subst hij
          rw [List.getElem?_set_self (List.getElem?_eq_some_iff.mp hes).1] at hj
          simp only [Option.some.injEq, Prod.mk.injEq] at hj
          obtain ⟨rfl, rfl⟩ := hj
          obtain ⟨en2, h6, h7, h8, h9⟩ := h5 j _ _ hes
          rw [hia] at h6
          cases h6
          exact ⟨{ en with key := ck, val := cv }, by rw [Array.getElem?_modify, if_pos rfl, hia]; rfl, h7, by rw [← hen]; exact h8, hv⟩
        · rw [List.getElem?_set_ne (Ne.symm hij)] at hj
          obtain ⟨en2, h6, h7⟩ := h5 j k x hj
          exact ⟨en2, by rw [Array.getElem?_modify, if_neg (Ne.symm hij)]; exact h6, h7⟩

theorem storeop_sound (hT : tab.checks P = true) (hst : St (psz P) base w0 F ρ h w) {t e e' : TypeId} {ti te : TI} {b i off : Nat} {v : AV} {cp cv : Value} {xs : List AV} (hti : tab.get t = some ti) (hte : tab.get e = some te)
    (hp : VRel (psz P) F ρ h.length (.ptr b e i off) cp) (hv : VRel (psz P) F ρ h.length v cv) (hb : h[b]? = some (.cells e' xs)) (hob : e' = e ∧ i < xs.length ∧ off + ti.size ≤ te.size ∧ okCells v ti.size) :
    Does P base w0 F ρ h w (do Instr.storeAt t cp cv; Pure.pure Next.skip) (h.set b (.cells e (xs.set i (putAV (ti.size == te.size) (xs.getD i .unk) off v)))) (.tup []) := by
  obtain ⟨rfl, hi, hk, hok⟩ := hob
  have hg := Tab.good hT hti
  have hte' := good_size hT hte
  have hx' : (putAV (ti.size == te.size) (xs.getD i .unk) off v).cells = setCells (xs.getD i .unk).cells off v.cells := by
    have hlen : (xs.getD i .unk).cells.length = te.size := by
      obtain ⟨B', N, c, e0, _, _, _, _, _, h6⟩ := hst.blk b _ hb
      have hxi : xs[i]? = some (xs.getD i .unk) := by simp [List.getD, List.getElem?_eq_getElem hi]
      rw [← hte']
      exact (h6 i _ hxi).1
    unfold putAV
    by_cases hw : ti.size = te.size
    · have h0 : off = 0 := by omega
      subst h0
      simp only [hw, beq_self_eq_true, if_true, setCells, List.take_zero, List.nil_append, Nat.zero_add]
      rw [List.drop_eq_nil_of_le (by rw [hlen, hok.1]; omega)]
      simp
    · have hne : (ti.size == te.size) = false := by simpa using hw
      rw [hne]
      simp only [Bool.false_eq_true, if_false]
      unfold AV.pack
      cases hds : AV.allD (setCells (xs.getD i .unk).cells off v.cells) with
      | none => rfl
      | some ds => rw [AV.allD_some hds]; rfl
  obtain ⟨w', hrun, hst'⟩ := store_sound (P := P) hst hg hb hp hi (by rw [hte']; exact hk) hv hok hx'
  exact ⟨.skip, undef, w', F, ρ, by simp only [Sem.run_bind, hrun, Result.andThen_ok, Sem.run_pure], .inr ⟨rfl, rfl⟩, Ext.refl _ _ _, hst', undef_rel, by simp⟩

theorem buildSlice_sound (hT : tab.checks P = true) (hr : Rel (psz P) base w0 m nt F ρ env a w) {mu : Bool} {t e : TypeId} {te : TI} {len : Nat} {parts : Array (Nat × Operand)} {ps : List (Nat × AV)} {ob : Prop} {h' : List Blk} {v : AV}
    (he : slOf tab t = some e) (hte : tab.get e = some te) (hps : partsAV env parts.toList = some ps)
    (hf : freshRow mu env.h e len (fillAV (List.replicate len (zeroAV te)) ps) (len * te.size ≤ 16777216 ∧ okParts len te.size ps) = some (ob, h', v)) (hob : ob) :
    Does P base w0 F ρ env.h w (do Pure.pure (Next.value (← Instr.buildSlice t len (parts.map fun (i, x) => (i, a.eval x))))) h' v := by
  have hg := Tab.good hT hte
  obtain ⟨info, hi1, hi2, _, z, hz, hzc, hzp, hza⟩ := hg.info
  have hob' : len * te.size ≤ 16777216 ∧ okParts len te.size ps := by
    unfold freshRow at hf
    split at hf
    · simp only [Option.some.injEq, Prod.mk.injEq] at hf; rw [hf.1]; exact hob
    · split at hf
      · simp only [Option.some.injEq, Prod.mk.injEq] at hf; rw [hf.1]; exact hob
      · simp at hf
  obtain ⟨hlen, hparts⟩ := hob'
  rw [okParts_iff] at hparts
  obtain ⟨h1, h2⟩ := parts_sound hr hps
  have hrow := zeros_row (F := F) (ρ := ρ) (n := env.h.length) hg hzc hzp len
  obtain ⟨c', h3, h4⟩ := fill_sound (pvs := parts.toList.map fun p => (p.1, a.eval p.2)) hrow (by simp [h1]) h2 (fun p hp => ⟨by simpa using (hparts p hp).1, by rw [hg.psz]; exact (hparts p hp).2⟩)
  have hu := (slOf_sound hT he).1
  have hfl : (fillAV (List.replicate len (zeroAV te)) ps).length = len := by rw [fillAV_length]; simp
  have hcsz : c'.size = len * psz P e := by have := h4.1; rw [hfl] at this; simpa using this
  have hrun : (Instr.buildSlice t len (parts.map fun (i, x) => (i, a.eval x))).run P w = .ok (.slice (some ⟨w.heap.size, 0, none⟩) len len) (w.alloc (.cells c' e)) := by
    have hlist : (parts.map fun (i, x) => (i, a.eval x)).toList = parts.toList.map fun p => (p.1, a.eval p.2) := by simp
    have hle : ¬ (len * te.size > 2 ^ 24) := by omega
    simp only [Instr.buildSlice, Sem.run_bind, run_underlying' hu, Result.andThen_ok, hg.run_sizeOf, if_neg hle, hlist]
    rw [hg.psz] at h3
    by_cases h0 : len * te.size = 0
    · rw [if_pos h0]
      have e0 : ((Array.range (len * te.size)).map fun x => (#[] : Array Value)[x % (#[] : Array Value).size]!) = (Array.range (len * te.size)).map (z.cells[· % z.cells.size]!) := by rw [h0]; simp
      rw [pure_bind, e0, h3]
      simp only [newRow, Sem.run_bind, run_newObj, Result.andThen_ok, Sem.run_pure, World.alloc_eq]
    · rw [if_neg h0]
      simp only [zeroValue, typeInfo, Sem.run_bind, run_program, hi1, hz, Result.andThen_ok, Sem.run_pure]
      rw [h3]
      simp only [newRow, Sem.run_bind, run_newObj, Result.andThen_ok, Sem.run_pure, World.alloc_eq]
  obtain ⟨_, F', ρ', hx, hst', hv', hl⟩ := fresh_sound (e0 := e) (cap := len) hr.st hf hfl h4 (fun j v hj => by simpa using hj) (Nat.le_refl _) (by rw [hcsz]) rfl
  exact does_value hrun hx hst' hv' hl

theorem makeSlice_sound (hT : tab.checks P = true) (hr : Rel (psz P) base w0 m nt F ρ env a w) {mu : Bool} {t e : TypeId} {te : TI} {i k : Int} {ki kk : IntKind} {ob : Prop} {h' : List Blk} {v : AV}
    (he : slOf tab t = some e) (hte : tab.get e = some te) 
    (hf : freshRow mu env.h e i.toNat (List.replicate i.toNat (zeroAV te)) (0 ≤ i ∧ i ≤ k ∧ te.bytes * k ≤ 281474976710656 ∧ k ≤ 9223372036854775807) = some (ob, h', v)) (hob : ob) :
    Does P base w0 F ρ env.h w (do Pure.pure (Next.value (← Instr.makeSlice t (.int ki i) (.int kk k)))) h' v := by
  have hg := Tab.good hT hte
  obtain ⟨info, hi1, hi2, hi3, z, hz, hzc, hzp, hza⟩ := hg.info
  have hob' : 0 ≤ i ∧ i ≤ k ∧ te.bytes * k ≤ 281474976710656 ∧ k ≤ 9223372036854775807 := by
    unfold freshRow at hf
    split at hf
    · simp only [Option.some.injEq, Prod.mk.injEq] at hf; rw [hf.1]; exact hob
    · split at hf
      · simp only [Option.some.injEq, Prod.mk.injEq] at hf; rw [hf.1]; exact hob
      · simp at hf
  obtain ⟨h0, h1, h2, h3⟩ := hob'
  have wr : ∀ x : Int, 0 ≤ x → x ≤ 9223372036854775807 → IntKind.i64.wrap x = x := fun x hx0 hx1 => IntWalk.i64_in _ (by omega)
  have hu := (slOf_sound hT he).1
  have hsz : ((Array.range (k.toNat * te.size)).map (z.cells[· % z.cells.size]!)).size = k.toNat * te.size := by simp
  have hrow := zeros_row (F := F) (ρ := ρ) (n := env.h.length) hg hzc hzp i.toNat
  have hrun : (Instr.makeSlice t (.int ki i) (.int kk k)).run P w = .ok (.slice (some ⟨w.heap.size, 0, none⟩) i.toNat k.toNat) (w.alloc (.cells ((Array.range (k.toNat * te.size)).map (z.cells[· % z.cells.size]!)) e)) := by
    have c1 : ¬ (((decide (k < 0) || decide ((info.bytes : Int) * k > 2 ^ 48)) || decide (i < 0) || decide (i > k)) = true) := by
      rw [hi3]
      simp only [Bool.or_eq_true, decide_eq_true_eq, not_or]
      omega
    simp only [Instr.makeSlice, asInt, asIntOf, typeInfo, Sem.run_bind, run_underlying' hu, run_program, hi1, Sem.run_pure, Result.andThen_ok, wr i h0 (by omega), wr k (by omega) h3, if_neg c1, run_askRoom, hg.run_sizeOf]
    by_cases hz0 : k.toNat * te.size = 0
    · rw [if_pos hz0]
      have e0 : ((Array.range (k.toNat * te.size)).map fun x => (#[] : Array Value)[x % (#[] : Array Value).size]!) = (Array.range (k.toNat * te.size)).map (z.cells[· % z.cells.size]!) := by rw [hz0]; simp
      rw [pure_bind, e0]
      simp only [newRow, Sem.run_bind, run_newObj, Result.andThen_ok, Sem.run_pure, World.alloc_eq]
    · rw [if_neg hz0]
      simp only [zeroValue, typeInfo, Sem.run_bind, run_program, hi1, hz, Result.andThen_ok, Sem.run_pure, newRow, run_newObj, World.alloc_eq]
  obtain ⟨_, F', ρ', hx, hst', hv', hl⟩ := fresh_sound (e0 := e) (cap := k.toNat) hr.st hf (by simp) hrow (cs := (Array.range (k.toNat * te.size)).map (z.cells[· % z.cells.size]!)) (fun j v hj => by
    rw [Array.getElem?_toList] at hj
    have hlt := (Array.getElem?_eq_some_iff.mp hj).1
    simp only [Array.size_map, Array.size_range] at hlt
    have hle : i.toNat * te.size ≤ k.toNat * te.size := Nat.mul_le_mul_right _ (by omega)
    rw [Array.getElem?_map] at hj ⊢
    rw [Array.getElem?_range] at hj ⊢
    rw [if_pos hlt] at hj
    rw [if_pos (by omega)]
    exact hj) (by omega) (by rw [hsz, hg.psz]) rfl
  exact does_value hrun hx hst' hv' hl

theorem ARow.mono {sz : TypeId → Nat} {F' : Frz} {ρ' : Env0} {n' : Nat} {e : TypeId} {xs : List AV} {vs : List Value} (h : ARow sz F ρ n e xs vs) (hx : Ext n F ρ F' ρ') (hn : n ≤ n') : ARow sz F' ρ' n' e xs vs :=
  ⟨h.1, fun i x hi => ⟨(h.2 i x hi).1, fun k y hk => by obtain ⟨v, h1, h2, h3⟩ := (h.2 i x hi).2 k y hk; exact ⟨v, h1, h2.mono hx hn, h3⟩⟩⟩

theorem ARow.append {sz : TypeId → Nat} {e : TypeId} {xs ys : List AV} {vs us : List Value} (h : ARow sz F ρ n e xs vs) (h' : ARow sz F ρ n e ys us) : ARow sz F ρ n e (xs ++ ys) (vs ++ us) := by
  refine ⟨by rw [List.length_append, List.length_append, h.1, h'.1, Nat.add_mul], fun i x hi => ?_⟩
  by_cases hlt : i < xs.length
  · rw [List.getElem?_append_left hlt] at hi
    obtain ⟨h1, h2⟩ := h.2 i x hi
    refine ⟨h1, fun k y hk => ?_⟩
    obtain ⟨v, h3, h4⟩ := h2 k y hk
    exact ⟨v, by rw [List.getElem?_append_left (List.getElem?_eq_some_iff.mp h3).1]; exact h3, h4⟩
  · rw [List.getElem?_append_right (by omega)] at hi
    obtain ⟨h1, h2⟩ := h'.2 _ x hi
    refine ⟨h1, fun k y hk => ?_⟩
    obtain ⟨v, h3, h4⟩ := h2 k y hk
    have hm : xs.length * sz e + (i - xs.length) * sz e = i * sz e := by rw [← Nat.add_mul]; congr 1; omega
    refine ⟨v, ?_, h4⟩
    rw [List.getElem?_append_right (by rw [h.1]; omega), h.1, ← h3]
    congr 1; omega

/-- A block whose row is known. -/
theorem blk_of_row {sz : TypeId → Nat} {b B N : Nat} {e e0 : TypeId} {xs : List AV} {c : Array Value} {vs : List Value} (hl : ρ b = .mt B N) (hB : base ≤ B) (hh : w.heap[B]? = some (.cells c e0 (0, 0))) (hF : ∀ a, a.block = B → F a = none)
    (hN : xs.length ≤ N) (hsz : N * sz e = c.size ∧ e0 = e) (hr : ARow sz F ρ n e xs vs) (hc : ∀ (j : Nat) (v : Value), vs[j]? = some v → c[j]? = some v) : BlkRel sz base F ρ n w b (.cells e xs) :=
  ⟨B, N, c, e0, hl, hB, hh, hF, ⟨hN, hsz⟩, fun i x hi => ⟨(hr.2 i x hi).1, fun k y hk => by obtain ⟨v, h1, h2, h3⟩ := (hr.2 i x hi).2 k y hk; exact ⟨v, hc _ _ h1, h2, h3⟩⟩⟩

/-- append to a row that may be written: the row gets a new name. -/
theorem append_ref (hst : St (psz P) base w0 F ρ h w) {t t2 ty e : TypeId} {te : TI} (hg : te.Good P e) (hu : P.underlying t = some (.slice e)) {d2 : TypeDesc} (hu2 : P.underlying t2 = some d2) (hd2 : ∀ k, d2 ≠ .int k)
    {b len : Nat} {xs : List AV} {ys : List D} {cs cx : Value} (hb : h[b]? = some (.cells e xs)) (hlx : len ≤ xs.length) (hs : VRel (psz P) F ρ h.length (.ref b e 0 len) cs)
    (hsrc : (Builtin.lenOf cx).run P w = .ok ys.length w ∧ (∀ y ∈ ys, y.cells.length = psz P e) ∧ ∃ vs, RowRep (psz P) F (flatD ys) vs ∧
      ∀ w2 : World, (∀ y, w2.cell? y = w.cell? y) → (Builtin.firstCells te.size ys.length cx).run P w2 = .ok vs.toArray w2)
    (hfit : (len + ys.length) * te.bytes ≤ 140737488355328) (hb1 : 1 ≤ te.bytes) :
    Does P base w0 F ρ h w (do Pure.pure (Next.value (← Builtin.append_ #[t, t2] ty #[cs, cx]))) (h.set b .gone ++ [.cells e (xs.take len ++ ys.map AV.d)]) (.ref h.length e 0 (len + ys.length)) := by
  obtain ⟨h3, h4, vs, h5, h6⟩ := hsrc
  have hlt := (List.getElem?_eq_some_iff.mp hb).1
  obtain ⟨B, N, c, e0, hl, hB, hh, hF, ⟨hN, hsz⟩, hcells⟩ := hst.blk b _ hb
  have hvl : vs.length = ys.length * psz P e := by rw [h5.1, flatD_length h4]
  have hle0 : len + ys.length ≤ (len + ys.length) * te.bytes := Nat.le_mul_of_pos_right _ hb1
  cases hs with
  | @ref _ _ _ _ cap A hbn hA0 hlA hcap =>
  obtain ⟨hA, hoN⟩ := hlA B N hl
  rw [Nat.zero_add] at hoN
  rw [Nat.zero_mul] at hA
  have hNs : cap * psz P e ≤ N * psz P e := Nat.mul_le_mul_right _ hoN
  have hls : len * psz P e ≤ cap * psz P e := Nat.mul_le_mul_right _ hcap
  -- the old elements' cells
  have hold : ARow (psz P) F ρ h.length e (xs.take len) ((List.range (len * psz P e)).map fun j => (c[j]?).getD .nilIface) := by
    refine ⟨by simp [Nat.min_eq_left hlx], fun i x hi => ?_⟩
    have hil : i < len := by have := (List.getElem?_eq_some_iff.mp hi).1; simp at this; omega
    rw [List.getElem?_take_of_lt hil] at hi
    obtain ⟨h7, h8⟩ := hcells i x hi
    refine ⟨h7, fun k y hk => ?_⟩
    obtain ⟨v, h9, h10⟩ := h8 k y hk
    have hk' := (List.getElem?_eq_some_iff.mp hk).1
    have : (i + 1) * psz P e ≤ len * psz P e := Nat.mul_le_mul_right _ hil
    rw [Nat.add_mul] at this
    have hj : i * psz P e + k < len * psz P e := by omega
    exact ⟨v, by simp [hj, h9], h10⟩
  have holdc : ∀ (j : Nat) (v : Value), ((List.range (len * psz P e)).map fun j => (c[j]?).getD .nilIface)[j]? = some v → c[j]? = some v := by
    intro j v hj
    have hjl := (List.getElem?_eq_some_iff.mp hj).1
    simp at hjl
    have hjc : j < c.size := by omega
    simp [hjl] at hj
    simp only [hjc, getElem?_pos, Option.getD_some] at hj
    simp [hjc, hj]
  have hnew : ARow (psz P) F ρ h.length e (ys.map AV.d) vs := ARow.of_rows h4 h5
  have hrow := hold.append hnew
  by_cases hin : len + ys.length ≤ cap
  · -- in place
    have hmul : (len + ys.length) * psz P e ≤ cap * psz P e := Nat.mul_le_mul_right _ hin
    rw [Nat.add_mul] at hmul
    by_cases hc0 : cap = 0
    · have hy0 : ys = [] := List.eq_nil_of_length_eq_zero (by omega)
      have hl0 : len = 0 := by omega
      subst hy0 hl0 hc0
      have hv0 : vs = [] := List.eq_nil_of_length_eq_zero (by rw [hvl]; simp)
      subst hv0
      have hrun := append_in (ty := ty) (t2 := t2) (base' := A) (sLen := 0) (sCap := 0) (w := w) (w' := w) hg hu hu2 hd2 h3 (by simp) (h6 w (fun _ => rfl)) (fun ad _ => by simp [storeCells]) (fun _ => rfl)
      obtain ⟨h7, h8⟩ := hst.rename (xs := []) hl hlt ⟨B, N, c, e0, hl, hB, hh, hF, ⟨by simp, hsz⟩, by simp⟩
      refine does_value hrun h8 (by simpa using h7) (.ref (by simp) (fun h => absurd rfl h) (fun B' N' hl' => ?_) (by simp)) (by simp)
      exact ⟨fun h => absurd rfl h, by simp⟩
    · obtain rfl := hA hc0
      have hlB : B < w.heap.size := (Array.getElem?_eq_some_iff.mp hh).1
      have hsto : (storeCells ((⟨B, 0, none⟩ : Addr).add (len * te.size)) vs).run P w = .ok () (setBlk w B (.cells (writeAll c (len * psz P e) vs) e0 (0, 0))) := by
        rw [add_none, ← hg.psz]
        have := storeCells_run (P := P) (B := B) (o := len * psz P e) (e0 := e0) vs 0 c w hh (by rw [hvl]; omega) h5.one
        simpa using this
      have hrun := append_in (ty := ty) (t2 := t2) (base' := some ⟨B, 0, none⟩) (sLen := len) (sCap := cap) (w := w) hg hu hu2 hd2 h3 hin (h6 w (fun _ => rfl)) (fun ad' e => by cases e; exact hsto) (fun e => by cases e)
      have hblk : BlkRel (psz P) base F ρ h.length (setBlk w B (.cells (writeAll c (len * psz P e) vs) e0 (0, 0))) b (.cells e (xs.take len ++ ys.map AV.d)) := by
        refine blk_of_row (c := writeAll c (len * psz P e) vs) (e0 := e0) hl hB (by rw [setBlk_get]; simp [hlB]) hF (by simp; omega) (by rw [writeAll_size]; exact hsz) hrow (fun j v hj => ?_)
        rw [writeAll_get c _ _ (by rw [hvl]; omega)]
        have hlo : ((List.range (len * psz P e)).map fun j => (c[j]?).getD .nilIface).length = len * psz P e := by simp
        by_cases hjl : j < len * psz P e
        · rw [if_neg (by omega)]
          rw [List.getElem?_append_left (by rw [hlo]; exact hjl)] at hj
          exact holdc j v hj
        · rw [List.getElem?_append_right (by rw [hlo]; omega), hlo] at hj
          have := (List.getElem?_eq_some_iff.mp hj).1
          rw [if_pos (by omega)]
          exact hj
      have hst1 := hst.rewrite hlt (.inl ⟨N, hl⟩) hB hF hblk
      obtain ⟨h7, h8⟩ := hst1.rename (xs := xs.take len ++ ys.map AV.d) hl (by simpa using hlt) (by simpa using hblk)
      simp only [List.length_set, List.set_set] at h7 h8
      refine does_value hrun h8 h7 (.ref (by simp) (fun _ => ⟨_, rfl⟩) (fun B' N' hl' => ?_) hin) (by simp)
      rw [upd_same] at hl'
      cases hl'
      exact ⟨fun _ => by rw [Nat.zero_mul], by omega⟩
  · have hA1 : len ≠ 0 → A = some ⟨B, 0, none⟩ := fun hne => hA (by omega)
    obtain ⟨cap', ca, h7, h8, h9, h10⟩ := append_new (ty := ty) (t2 := t2) (base' := A) (sLen := len) (sCap := cap) (olds := (List.range (len * psz P e)).map fun j => (c[j]?).getD .nilIface) (news := vs) (w := w) hg hu hu2 hd2 h3 (by omega) (fun w2 hw2 => by
      by_cases hl0 : len = 0
      · subst hl0
        cases A with
        | none => simp [Builtin.firstCells]
        | some ad => simp [Builtin.firstCells, loadCells, loadCellsFrom]
      · obtain rfl := hA1 hl0
        simp only [Builtin.firstCells]
        have hlo : ((List.range (len * psz P e)).map fun j => (c[j]?).getD .nilIface).length = len * te.size := by simp [hg.psz]
        rw [← hlo]
        exact loadCells_vs rfl (fun j v hj => by rw [hw2]; simp only [World.cell?, hh, Nat.zero_add]; exact holdc j v hj)) h6 (by simp [hg.psz]) (by rw [hvl, hg.psz]) hfit (by omega)
    obtain ⟨hk1, hk2⟩ := hst.kill hl hlt
    have := hk1.drew.new_mut (e := e) (e0 := e) (xs := xs.take len ++ ys.map AV.d) (by simpa using hrow.mono hk2 (Nat.le_refl _)) h9 (N := cap') (by simp; omega) (by rw [hg.psz]; exact h8) rfl
    simp only [List.length_set] at this
    refine does_value h10 (hk2.trans (Ext.upd _ _ _ _)) this (.ref (by simp) (fun _ => ⟨_, rfl⟩) (fun B' N' hl' => ?_) h7) (by simp)
    rw [upd_same] at hl'
    cases hl'
    exact ⟨fun _ => by rw [Nat.zero_mul]; rfl, by omega⟩

theorem append_sound (hT : tab.checks P = true) (hr : Rel (psz P) base w0 m nt F ρ env a w) {mu : Bool} {t t2 ty e : TypeId} {te : TI} {sv xv v : AV} {cs cx : Value} {ob ob' : Prop} {ys : List D} {h' : List Blk}
    (he : slOf tab t = some e) (h2 : isSrc tab t2 = true) (hte : tab.get e = some te) (hs : VRel (psz P) F ρ env.h.length sv cs) (hx : VRel (psz P) F ρ env.h.length xv cx) (hsrc : srcOf e te.size env.h xv = some (ob, ys))
    (hf : appAV mu env.h e te.bytes sv ob ys = some (ob', h', v)) (hob : ob') :
    Does P base w0 F ρ env.h w (do Pure.pure (Next.value (← Builtin.append_ #[t, t2] ty #[cs, cx]))) h' v := by
  have hg := Tab.good hT hte
  have hu := (slOf_sound hT he).1
  obtain ⟨d2, hu2, hd2, hd2'⟩ := isSrc_sound hT h2
  have hsrc' : srcOf e (psz P e) env.h xv = some (ob, ys) := by rw [hg.psz]; exact hsrc
  have src : ob → (Builtin.lenOf cx).run P w = .ok ys.length w ∧ (∀ y ∈ ys, y.cells.length = psz P e) ∧ ∃ vs, RowRep (psz P) F (flatD ys) vs ∧
      ∀ w2 : World, (∀ y, w2.cell? y = w.cell? y) → (Builtin.firstCells te.size ys.length cx).run P w2 = .ok vs.toArray w2 := by
    intro ho
    have := src_sound (P := P) hr.st hsrc' ho hx
    rw [hg.psz] at this ⊢
    exact this
  -- a first row: there is nothing yet
  have first : ∀ (A : Option Addr), cs = .slice A 0 0 → ob → ys.length * te.bytes ≤ 140737488355328 → 1 ≤ te.bytes → ys ≠ [] →
      ∃ cap ca, ys.length ≤ cap ∧ cap * psz P e = ca.size ∧ (∀ y ∈ ys, y.cells.length = psz P e) ∧ (∃ vs, RowRep (psz P) F (flatD ys) vs ∧ ∀ (j : Nat) (v : Value), vs[j]? = some v → ca[j]? = some v) ∧
        (Builtin.append_ #[t, t2] ty #[cs, cx]).run P w = .ok (.slice (some ⟨w.heap.size, 0, none⟩) ys.length cap) (w.drew.alloc (.cells ca e)) := by
    intro A hcs ho hfit hb1 hne
    subst hcs
    obtain ⟨h3, h4, vs, h5, h6⟩ := src ho
    have hvl : vs.length = ys.length * te.size := by rw [h5.1, flatD_length h4, hg.psz]
    have hpos : 0 < ys.length := List.length_pos_iff.mpr hne
    have hle : ys.length ≤ ys.length * te.bytes := Nat.le_mul_of_pos_right _ hb1
    obtain ⟨cap, ca, h7, h8, h9, h10⟩ := append_new (ty := ty) (t2 := t2) (base' := A) (sLen := 0) (sCap := 0) (olds := []) (w := w) hg hu hu2 hd2 h3 (by omega) (fun w2 _ => by
      cases A with
      | none => rfl
      | some ad => simp [Builtin.firstCells, loadCells, loadCellsFrom]) h6 (by simp) hvl (by simpa using hfit) (by simp; omega)
    simp only [Nat.zero_add, List.nil_append] at h7 h9 h10
    exact ⟨cap, ca, h7, by rw [hg.psz]; exact h8, h4, ⟨vs, h5, h9⟩, h10⟩
  have first0 : ∀ (A : Option Addr), cs = .slice A 0 0 → ob → ys = [] → (Builtin.append_ #[t, t2] ty #[cs, cx]).run P w = .ok (.slice A 0 0) w := by
    intro A hcs ho hne
    subst hcs
    obtain ⟨h3, h4, vs, h5, h6⟩ := src ho
    subst hne
    have hvl : vs = [] := List.eq_nil_of_length_eq_zero (by rw [h5.1]; rfl)
    subst hvl
    have := append_in (ty := ty) (t2 := t2) (base' := A) (sLen := 0) (sCap := 0) (w := w) (w' := w) hg hu hu2 hd2 h3 (by simp) (h6 w (fun _ => rfl)) (fun ad _ => by simp [storeCells]) (fun _ => rfl)
    simpa using this
  have newbl : ∀ (A : Option Addr), cs = .slice A 0 0 → ob → ys.length * te.bytes ≤ 140737488355328 → 1 ≤ te.bytes →
      Does P base w0 F ρ env.h w (do Pure.pure (Next.value (← Builtin.append_ #[t, t2] ty #[cs, cx]))) (env.h ++ [.tail e ys.length]) (.bl env.h.length e ys) := by
    intro A hcs ho hfit hb1
    by_cases hne : ys = []
    · have hrun := first0 A hcs ho hne
      subst hne
      have hst := hr.st
      have hx : Ext env.h.length F ρ F (upd ρ env.h.length (.bld (.slice A 0 0) 0)) := Ext.upd _ _ _ _
      refine does_value hrun hx ?_ (.bl (by simp) (sl_empty' e A 0) (upd_same _ _ _) (by simp) (fun _ => rfl)) (by simp)
      refine ⟨hst.frz, fun b x hb => ?_, fun b b' B h1 h2 c1 c2 => ?_, hst.old, hst.hb, fun b B h1 c1 => ?_⟩
      · rw [List.length_append, List.length_singleton]
        rcases Nat.lt_trichotomy b env.h.length with h1 | h1 | h1
        · rw [List.getElem?_append_left h1] at hb
          exact (hst.blk b x hb).mono hx (upd_ne (by omega)) (Nat.le_succ _) (fun r o _ hr => hr) (fun _ _ _ _ => rfl)
        · subst h1
          simp only [List.getElem?_append_right (Nat.le_refl _), Nat.sub_self, List.getElem?_cons_zero, Option.some.injEq] at hb
          subst hb
          exact ⟨A, 0, upd_same _ _ _, Nat.le_refl _, fun h => absurd rfl h⟩
        · rw [List.getElem?_eq_none (by simp; omega)] at hb
          cases hb
      · simp only [List.length_append, List.length_singleton] at h1 h2
        by_cases e1 : b = env.h.length
        · subst e1; rw [upd_same] at c1; cases A <;> simp [Loc.conc] at c1
        · by_cases e2 : b' = env.h.length
          · subst e2; rw [upd_same] at c2; cases A <;> simp [Loc.conc] at c2
          · rw [upd_ne e1] at c1; rw [upd_ne e2] at c2
            exact hst.dist b b' B (by omega) (by omega) c1 c2
      · simp only [List.length_append, List.length_singleton] at h1
        by_cases e1 : b = env.h.length
        · subst e1; rw [upd_same] at c1; cases A <;> simp [Loc.conc] at c1
        · rw [upd_ne e1] at c1
          exact hst.lt b B (by omega) c1
    · obtain ⟨cap, ca, h7, h8, h4, ⟨vs, h5, h9⟩, h10⟩ := first A hcs ho hfit hb1 hne
      have := hr.st.drew.new_bld (e := e) (e0 := e) h4 h5 h9 h7 h8 rfl
      exact does_value h10 this.1 this.2.1 (by simpa using this.2.2) (by simp)
  have newmu : ∀ (A : Option Addr), cs = .slice A 0 0 → ob → ys.length * te.bytes ≤ 140737488355328 → 1 ≤ te.bytes → ys ≠ [] →
      Does P base w0 F ρ env.h w (do Pure.pure (Next.value (← Builtin.append_ #[t, t2] ty #[cs, cx]))) (env.h ++ [.cells e (ys.map AV.d)]) (.ref env.h.length e 0 ys.length) := by
    intro A hcs ho hfit hb1 hne
    obtain ⟨cap, ca, h7, h8, h4, ⟨vs, h5, h9⟩, h10⟩ := first A hcs ho hfit hb1 hne
    have hmul : ys.length * psz P e ≤ cap * psz P e := Nat.mul_le_mul_right _ h7
    have := hr.st.drew.new_mut (e := e) (e0 := e) (xs := ys.map AV.d) (ARow.of_rows h4 h5) h9 (N := cap) (by simpa using h7) h8 rfl
    refine does_value h10 (Ext.upd _ _ _ _) this (.ref (by simp) (fun _ => ⟨_, rfl⟩) (fun B N hl => ?_) h7) (by simp)
    rw [upd_same] at hl
    cases hl
    exact ⟨fun _ => by rw [Nat.zero_mul]; rfl, by omega⟩
  unfold appAV at hf
  split at hf
  · rename_i b e' xs
    simp only [Option.some.injEq, Prod.mk.injEq] at hf
    obtain ⟨h1, rfl, rfl⟩ := hf
    rw [← h1] at hob
    obtain ⟨hb, rfl, ho, hfit, hb1⟩ := hob
    obtain ⟨h3, h4, vs, h5, h6⟩ := src ho
    obtain ⟨A, cap, rfl, hcap, hρ, hrep, hblk⟩ := bld_inv hr.st hb hs
    have hvl : vs.length = ys.length * te.size := by rw [h5.1, flatD_length h4, hg.psz]
    have hle0 : xs.length + ys.length ≤ (xs.length + ys.length) * te.bytes := Nat.le_mul_of_pos_right _ hb1
    by_cases hne : ys = []
    · subst hne
      have hv0 : vs = [] := List.eq_nil_of_length_eq_zero (by rw [hvl]; simp)
      subst hv0
      have hrun := append_in (ty := ty) (t2 := t2) (base' := A) (sLen := xs.length) (sCap := cap) (w := w) (w' := w) hg hu hu2 hd2 h3 (by simpa using hcap) (h6 w (fun _ => rfl)) (fun ad _ => by simp [storeCells]) (fun _ => rfl)
      have hh : env.h.set b (.tail e' (xs.length + ([] : List D).length)) = env.h := by
        obtain ⟨hlt, he⟩ := List.getElem?_eq_some_iff.mp hb
        simp only [List.length_nil, Nat.add_zero]
        rw [← he]
        exact List.set_getElem_self hlt
      rw [hh]
      simp only [List.append_nil]
      exact does_value hrun (Ext.refl _ _ _) hr.st (by simpa using hs) (Nat.le_refl _)
    · by_cases hin : xs.length + ys.length ≤ cap
      · have hpos : 0 < ys.length := List.length_pos_iff.mpr hne
        obtain ⟨ad, c, e0, rfl, hsp, hba, hheap, hsz, hFB⟩ := hblk (by omega)
        have hmul : (xs.length + ys.length) * psz P e' ≤ cap * psz P e' := Nat.mul_le_mul_right _ hin
        rw [Nat.add_mul] at hmul
        have hsto : (storeCells (ad.add (xs.length * te.size)) vs).run P w = .ok () (setBlk w ad.block (.cells (writeAll c (ad.off + xs.length * psz P e') vs) e0 (0, 0))) := by
          rw [add_spot hsp, ← hg.psz]
          have := storeCells_run (P := P) (B := ad.block) (o := ad.off + xs.length * psz P e') (e0 := e0) vs 0 c w hheap (by rw [hvl, ← hg.psz]; omega) h5.one
          simpa using this
        have hrun := append_in (ty := ty) (t2 := t2) (base' := some ad) (sLen := xs.length) (sCap := cap) (w := w) hg hu hu2 hd2 h3 hin (h6 w (fun _ => rfl)) (fun ad' e => by cases e; exact hsto) (fun e => by cases e)
        have := hr.st.grow hb hρ hrep hsp hba hheap hsz hFB h4 h5 hin hne
        exact does_value hrun this.1 this.2.1 (by simpa using this.2.2) (by simp)
      · obtain ⟨hlx, vx, hrx, hFx⟩ := hrep.row
        have hvxl : vx.length = xs.length * te.size := by rw [hrx.1, flatD_length hlx, hg.psz]
        obtain ⟨cap', ca, h7, h8, h9, h10⟩ := append_new (ty := ty) (t2 := t2) (base' := A) (sLen := xs.length) (sCap := cap) (olds := vx) (w := w) hg hu hu2 hd2 h3 (by omega) (fun w2 hw2 => by
          by_cases hxe : xs = []
          · subst hxe
            have : vx = [] := List.eq_nil_of_length_eq_zero (by rw [hvxl]; simp)
            subst this
            cases A with
            | none => rfl
            | some ad => simp [Builtin.firstCells, loadCells, loadCellsFrom]
          · obtain ⟨ad, rfl, hsp, hc⟩ := hFx hxe
            simp only [Builtin.firstCells, ← hvxl]
            exact loadCells_vs hsp (fun j v hj => by rw [hw2]; exact hr.st.frz _ _ (hc j v hj))) h6 hvxl hvl hfit (by omega)
        have hpos : 0 < ys.length := List.length_pos_iff.mpr hne
        have hflat : flatD (xs ++ ys) = flatD xs ++ flatD ys := by simp [flatD]
        have := hr.st.drew.regrow (e := e') (e0 := e') (zs := xs ++ ys) (vs := vx ++ vs) (cs := ca) (cap := cap') hb hρ (fun x hx' => by rcases List.mem_append.mp hx' with h | h; exact hlx x h; exact h4 x h)
          (by rw [hflat]; exact hrx.append h5) h9 (by simpa using h7) (by rw [hg.psz]; exact h8) rfl (by simp; omega)
        simp only [List.length_append] at this
        exact does_value h10 this.1 this.2.1 (by simpa using this.2.2) (by simp)
  · cases hs with | d hs => cases hs with
    | nilsl =>
      split at hf
      · split at hf
        · simp only [Option.some.injEq, Prod.mk.injEq] at hf
          obtain ⟨h1, rfl, rfl⟩ := hf
          rw [← h1] at hob
          exact does_value (first0 none rfl hob rfl) (Ext.refl _ _ _) hr.st (.d .nilsl) (Nat.le_refl _)
        · simp only [Option.some.injEq, Prod.mk.injEq] at hf
          obtain ⟨h1, rfl, rfl⟩ := hf
          rw [← h1] at hob
          exact newmu none rfl hob.1 hob.2.1 hob.2.2 (by simp)
      · simp only [Option.some.injEq, Prod.mk.injEq] at hf
        obtain ⟨h1, rfl, rfl⟩ := hf
        rw [← h1] at hob
        exact newbl none rfl hob.1 hob.2.1 hob.2.2
  · cases hs with
    | @z0 _ A =>
      split at hf
      · split at hf
        · simp only [Option.some.injEq, Prod.mk.injEq] at hf
          obtain ⟨h1, rfl, rfl⟩ := hf
          rw [← h1] at hob
          exact does_value (first0 A rfl hob rfl) (Ext.refl _ _ _) hr.st .z0 (Nat.le_refl _)
        · simp only [Option.some.injEq, Prod.mk.injEq] at hf
          obtain ⟨h1, rfl, rfl⟩ := hf
          rw [← h1] at hob
          obtain ⟨ho, rfl, hfit, hb1⟩ := hob
          exact newmu A rfl ho hfit hb1 (by simp)
      · simp only [Option.some.injEq, Prod.mk.injEq] at hf
        obtain ⟨h1, rfl, rfl⟩ := hf
        rw [← h1] at hob
        exact newbl A rfl hob.1 hob.2.2.1 hob.2.2.2
  · rename_i b e' off len
    split at hf
    · rename_i e'' xs hb
      simp only [Option.some.injEq, Prod.mk.injEq] at hf
      obtain ⟨h1, rfl, rfl⟩ := hf
      rw [← h1] at hob
      obtain ⟨rfl, rfl, rfl, hlx, ho, hfit, hb1⟩ := hob
      exact append_ref hr.st hg hu hu2 hd2 hb hlx hs (src ho) hfit hb1
    · simp at hf
  · simp at hf

theorem asData_rel {sz : TypeId → Nat} {x : AV} {v : Value} (hv : VRel sz F ρ n x v) : VRel sz F ρ n x.asData v := by
  cases x with
  | bl b e xs => cases hv with | bl hb h hl hw hc => exact .d h
  | _ => exact hv

theorem evH_sound (hT : tab.checks P = true) (hr : Rel (psz P) base w0 m nt F ρ env a w) {mu : Bool} {o : Oper} {ob : Prop} {h' : List Blk} {v : AV} (h : evH tab mu env o.op = some (ob, h', v)) (hob : ob) :
    Does P base w0 F ρ env.h w (execOp a.eval o) h' v := by
  obtain ⟨dst, op, type, pos, after, guard⟩ := o
  simp only at h
  cases op with
  | alloc t =>
    simp only [evH, Option.map_eq_some_iff, Prod.mk.injEq] at h
    obtain ⟨ti, hti, _, rfl, rfl⟩ := h
    exact alloc_sound hT hr.st hti
  | move x =>
    simp only [evH, Option.map_eq_some_iff, Prod.mk.injEq] at h
    obtain ⟨v0, hv0, _, rfl, rfl⟩ := h
    exact ⟨_, a.eval x, w, F, ρ, rfl, .inl rfl, Ext.refl _ _ _, hr.st, asData_rel (ev_sound hr hv0), Nat.le_refl _⟩
  | convert s d x =>
    simp only [evH] at h
    split at h
    · rename_i e sz1 by1 z1 b e' off len hs hx
      split at h
      · rename_i _ _ _ e'' xs he hb
        split at h
        · rename_i ds hds
          simp only [Option.some.injEq, Prod.mk.injEq] at h
          obtain ⟨h1, rfl, rfl⟩ := h
          rw [← h1] at hob
          obtain ⟨rfl, rfl, rfl, rfl, rfl, hpos⟩ := hob
          obtain ⟨ds', hus, hfs⟩ := (Tab.good hT hs).desc
          obtain ⟨de, hue, hfe⟩ := (Tab.good hT he).desc
          rw [tk_sl hfs] at hus
          rw [tk_int hfe] at hue
          rw [AV.allD_some hds] at hb
          have hlt := (List.getElem?_eq_some_iff.mp hb).1
          obtain ⟨B, N, c, e0, g1, g2, g3, g4, g5, g6⟩ := hr.st.blk b _ hb
          have hv := ev_sound hr hx
          generalize hcv : a.eval x = cv at hv
          have hv' := hv
          cases hv with
          | @ref _ _ _ _ cap A0 hbn hA0 hl hc =>
            have hA : A0 = some ⟨B, 0, none⟩ := by
              have := (hl B N g1).1 (by omega)
              rwa [Nat.zero_mul] at this
            subst hA
            obtain ⟨F', f1, f2, f3⟩ := hr.st.freeze hb
            have hfr := f3 hv' (by omega)
            simp only [List.drop_zero, List.take_length] at hfr
            have hst := f2.freezeAt (k := b) (g := B) (by simpa using hlt) (by rw [g1]; rfl) g2 c.size 1
            rw [List.set_set] at hst
            have hsh : w.shape? B = some (e0, c.size) := by unfold World.shape?; rw [g3]
            have hrun : (convert s s (.slice (some ⟨B, 0, none⟩) ds.length cap)).run P w = .ok (.slice (some ⟨B, 0, none⟩) ds.length cap) (w.freeze ⟨B, c.size, none⟩ 1) := by
              simp [convert, run_underlying' hus, run_underlying' hue, markStringish, hsh]
            have he' : execOp a.eval ⟨dst, .convert s s x, type, pos, after, guard⟩ = (do Pure.pure (Next.value (← convert s s (a.eval x)))) := by simp only [execOp]
            rw [he', hcv]
            exact does_value hrun ⟨f1, fun _ _ => Loc.ext_refl _⟩ hst (.d hfr) (by simp)
        · simp at h
      · simp at h
    · simp at h
  | box t x =>
    simp only [evH] at h
    split at h
    · rename_i ti v' hti hv
      simp only [Option.some.injEq, Prod.mk.injEq] at h
      obtain ⟨h1, rfl, rfl⟩ := h
      rw [← h1] at hob
      exact box_sound hT hr.st hti (ev_sound hr hv) hob
    · simp at h
  | store t p x =>
    simp only [evH] at h
    split at h
    · rename_i b e i off v' ti hp hx hti
      split at h
      · rename_i e' xs te hb hte
        simp only [Option.some.injEq, Prod.mk.injEq] at h
        obtain ⟨h1, rfl, rfl⟩ := h
        rw [← h1] at hob
        exact storeop_sound hT hr.st hti hte (ev_sound hr hp) (ev_sound hr hx) hb hob
      · simp at h
    · simp at h
  | buildSlice t len parts =>
    simp only [evH] at h
    split at h
    · rename_i e he
      split at h
      · rename_i te ps hte hps
        exact buildSlice_sound hT hr he hte hps h hob
      · simp at h
    · simp at h
  | makeSlice t l c =>
    simp only [evH] at h
    split at h
    · rename_i e i k he hi hk
      split at h
      · rename_i te hte
        simp only [Option.bind_eq_some_iff] at hi hk
        obtain ⟨vi, hi1, hi2⟩ := hi
        obtain ⟨vk, hk1, hk2⟩ := hk
        obtain ⟨ki, hki⟩ := asI_sound hi2 (ev_sound hr hi1)
        obtain ⟨kk, hkk⟩ := asI_sound hk2 (ev_sound hr hk1)
        have := makeSlice_sound (ki := ki) (kk := kk) hT hr he hte h hob
        rw [← hki, ← hkk] at this
        exact this
      · simp at h
    · simp at h
  | makeMap t r =>
    cases r with
    | none =>
      simp only [evH, Option.some.injEq, Prod.mk.injEq] at h
      obtain ⟨_, rfl, rfl⟩ := h
      exact makeMap_sound hr.st t
    | some x => simp [evH] at h
  | range t x =>
    simp only [evH] at h
    split at h
    · rename_i q b hmo hx
      split at h
      · rename_i es hb
        simp only [Option.some.injEq, Prod.mk.injEq] at h
        obtain ⟨_, rfl, rfl⟩ := h
        exact range_sound hT hr.st hmo (ev_sound hr hx) hb
      · simp at h
    · simp at h
  | entry x =>
    simp only [evH] at h
    split at h
    · rename_i b hx
      split at h
      · rename_i mb cnt seen hb
        split at h
        · rename_i es hm
          exact entry_sound hr.st (ev_sound hr hx) hb hm h hob
        · simp at h
      · simp at h
    · simp at h
  | mapUpdate t m k x =>
    simp only [evH] at h
    split at h
    · rename_i kt te b kd v hmo hm hk hx
      split at h
      · rename_i es hb
        split at h
        · rename_i hko
          simp only [Option.map_eq_some_iff, Prod.mk.injEq] at h
          obtain ⟨es', hp, _, rfl, rfl⟩ := h
          exact mapUpdate_sound hT hr.st hmo (ev_sound hr hm) (ev_sound hr hk).d_inv (ev_sound hr hx) hb hko hp
        · simp at h
      · simp at h
    · simp at h
  | insert t m k x =>
    simp only [evH] at h
    split at h
    · rename_i kt te b kd v hmo hm hk hx
      split at h
      · rename_i es hb
        split at h
        · rename_i hko
          simp only [Option.map_eq_some_iff, Prod.mk.injEq] at h
          obtain ⟨es', hp, _, rfl, rfl⟩ := h
          exact mapUpdate_sound hT hr.st hmo (ev_sound hr hm) (ev_sound hr hk).d_inv (ev_sound hr hx) hb hko hp
        · simp at h
      · simp at h
    · simp at h
  | call c =>
    obtain ⟨callee, args, ts⟩ := c
    cases callee with
    | builtin b =>
      cases b with
      | append =>
        simp only [evH] at h
        split at h
        · rename_i s x t t2 hsx htt
          have hargs : args = #[s, x] := by rw [← Array.toArray_toList (xs := args), hsx]
          have hts : ts = #[t, t2] := by rw [← Array.toArray_toList (xs := ts), htt]
          subst hargs; subst hts
          split at h
          · rename_i e sv xv he h2 hsv hxv
            split at h
            · rename_i te hte
              split at h
              · rename_i ob' ys hsrc
                have := append_sound (ty := type) (mu := mu) hT hr he h2 hte (ev_sound hr hsv) (ev_sound hr hxv) hsrc h hob
                have e : execOp a.eval { dst, op := .call { callee := .builtin .append, args := #[s, x], argTypes := #[t, t2] }, type, pos, after, guard } =
                    (do Pure.pure (Next.value (← Builtin.append_ #[t, t2] type #[a.eval s, a.eval x]))) := by
                  simp only [execOp, resolve, pure_bind, invoke, builtin]
                  rw [show #[s, x].map a.eval = #[a.eval s, a.eval x] from by simp]
                rw [e]
                exact this
              · simp at h
            · simp at h
          · rename_i e kx k he _ hsv hxv
            split at h
            · rename_i te kd s1 s2 s3 hte ht2
              simp only [Option.some.injEq, Prod.mk.injEq] at h
              obtain ⟨h1, rfl, rfl⟩ := h
              rw [← h1] at hob
              obtain ⟨hk1, hfit, hb1, hs1⟩ := hob
              have hg := Tab.good hT hte
              have hu := (slOf_sound hT he).1
              obtain ⟨d2, hu2, hf2⟩ := (Tab.good hT ht2).desc
              have := tk_int hf2
              subst this
              have hcs : a.eval s = .slice none 0 0 := by
                have hrv := ev_sound hr hsv
                generalize a.eval s = cv at hrv
                cases hrv with | d hrv => cases hrv with
                | nilsl => rfl
              have hcx : a.eval x = .int kx (k.toNat : Int) := by
                have := (ev_sound hr hxv).int_inv
                rw [this]; congr 1; omega
              obtain ⟨cap, cs, h7, h8, h10⟩ := append_zeros (w := w) (t := t) (t2 := t2) (ty := type) (kx := kx) hg hu hu2 (k := k.toNat) (by omega) hb1 hs1 hfit
              have := hr.st.drew.new_bld (e := e) (e0 := e) (xs := []) (vs := []) (cs := cs) (cap := cap) (by simp) row_nil (by simp) (by simp) (by rw [hg.psz]; exact h8) rfl
              obtain ⟨hx1, hx2, hx3⟩ := this
              have e : execOp a.eval { dst, op := .call { callee := .builtin .append, args := #[s, x], argTypes := #[t, t2] }, type, pos, after, guard } =
                  (do Pure.pure (Next.value (← Builtin.append_ #[t, t2] type #[a.eval s, a.eval x]))) := by
                simp only [execOp, resolve, pure_bind, invoke, builtin]
                rw [show #[s, x].map a.eval = #[a.eval s, a.eval x] from by simp]
              rw [e, hcs, hcx]
              refine does_value h10 hx1 hx2 ?_ (by simp)
              exact .gr (by simp) (upd_same _ _ _) (fun _ => rfl) h7
            · simp at h
          · simp at h
        · simp at h
      | _ => simp [evH] at h
    | _ => simp [evH] at h
  | _ => simp [evH] at h

end Go.Vm

/- Which blocks a value speaks of, and forgetting the last blocks. -/
set_option linter.unusedSimpArgs false
namespace Go.Vm

inductive Bel (n : Nat) : AV → Prop
  | d (x : D) : Bel n (.d x)
  | bl {b : Nat} {e : TypeId} {xs : List D} (h : b < n) : Bel n (.bl b e xs)
  | ref {b : Nat} {e : TypeId} {o l : Nat} (h : b < n) : Bel n (.ref b e o l)
  | z0 {e : TypeId} : Bel n (.z0 e)
  | fp {e : TypeId} {xs : List D} {i o : Nat} : Bel n (.fp e xs i o)
  | ptr {b : Nat} {e : TypeId} {i o : Nat} (h : b < n) : Bel n (.ptr b e i o)
  | agg {cs : List AV} (h : ∀ (k : Nat) (c : AV), cs[k]? = some c → Bel n c) : Bel n (.agg cs)
  | tup {cs : List AV} (h : ∀ (k : Nat) (c : AV), cs[k]? = some c → Bel n c) : Bel n (.tup cs)
  | clo {f : FuncId} {cs : List AV} (h : ∀ (k : Nat) (c : AV), cs[k]? = some c → Bel n c) : Bel n (.clo f cs)
  | bnd {f : FuncId} {cs : List AV} (h : ∀ (k : Nat) (c : AV), cs[k]? = some c → Bel n c) : Bel n (.bnd f cs)
  | map {b : Nat} (h : b < n) : Bel n (.map b)
  | iter {b : Nat} (h : b < n) : Bel n (.iter b)
  | gr {b : Nat} {e : TypeId} {k : Nat} (h : b < n) : Bel n (.gr b e k)
  | pb {p : Bool → Prop} : Bel n (.pb p)
  | unk : Bel n .unk

theorem Bel.mono {n n' : Nat} {x : AV} (h : Bel n x) (hn : n ≤ n') : Bel n' x := by
  induction h with
  | d x => exact .d x
  | bl h => exact .bl (by omega)
  | ref h => exact .ref (by omega)
  | z0 => exact .z0
  | fp => exact .fp
  | ptr h => exact .ptr (by omega)
  | agg h ih => exact .agg ih
  | tup h ih => exact .tup ih
  | clo h ih => exact .clo ih
  | bnd h ih => exact .bnd ih
  | map h => exact .map (by omega)
  | iter h => exact .iter (by omega)
  | gr h => exact .gr (by omega)
  | pb => exact .pb
  | unk => exact .unk

variable {P : Program} {base : Nat} {w0 : World} {m nt : Nat} {F : Frz} {ρ : Env0} {env env' : Env} {a : Act} {w : World} {n : Nat} {tab : Tab} {sz : TypeId → Nat} {h : List Blk}

theorem VRel.bel {x : AV} {v : Value} (hv : VRel sz F ρ n x v) : Bel n x := by
  induction hv with
  | d h => exact .d _
  | bl hb => exact .bl hb
  | ref hb => exact .ref hb
  | z0 => exact .z0
  | fp => exact .fp
  | ptr hb => exact .ptr hb
  | agg cs vs hs val hv hr ih => exact .agg ih
  | tup cs vs hs val hv hr ih => exact .tup ih
  | clo f cs vs hs val hv hr ih => exact .clo ih
  | bnd f cs vs hs val hv hr ih => exact .bnd ih
  | map hb => exact .map hb
  | iter hb => exact .iter hb
  | gr hb => exact .gr hb
  | pb h => exact .pb
  | unk v => exact .unk

theorem VRel.cut {x : AV} {v : Value} {k : Nat} (hv : VRel sz F ρ n x v) (hb : Bel k x) : VRel sz F ρ k x v := by
  induction hv with
  | d h => exact .d h
  | bl _ h hl hw hc => cases hb with | bl hb => exact .bl hb h hl hw hc
  | ref _ hA hl hc => cases hb with | ref hb => exact .ref hb hA hl hc
  | z0 => exact .z0
  | fp h hi => exact .fp h hi
  | ptr _ hl => cases hb with | ptr hb => exact .ptr hb hl
  | agg cs vs hs val hv hr ih => cases hb with | agg hb => exact .agg cs vs hs val hv (fun k c hc => ih k c hc (hb k c hc))
  | tup cs vs hs val hv hr ih => cases hb with | tup hb => exact .tup cs vs hs val hv (fun k c hc => ih k c hc (hb k c hc))
  | clo f cs vs hs val hv hr ih => cases hb with | clo hb => exact .clo f cs vs hs val hv (fun k c hc => ih k c hc (hb k c hc))
  | bnd f cs vs hs val hv hr ih => cases hb with | bnd hb => exact .bnd f cs vs hs val hv (fun k c hc => ih k c hc (hb k c hc))
  | map _ hl => cases hb with | map hb => exact .map hb hl
  | iter _ hl => cases hb with | iter hb => exact .iter hb hl
  | gr _ hl h0 hk => cases hb with | gr hb => exact .gr hb hl h0 hk
  | pb h => exact .pb h
  | unk v => exact .unk v

@[simp] theorem bel_d (x : D) : Bel n (.d x) ↔ True := ⟨fun _ => trivial, fun _ => .d x⟩
@[simp] theorem bel_bl {b : Nat} {e : TypeId} {xs : List D} : Bel n (.bl b e xs) ↔ b < n := ⟨fun h => by cases h; assumption, .bl⟩
@[simp] theorem bel_ref {b : Nat} {e : TypeId} {o l : Nat} : Bel n (.ref b e o l) ↔ b < n := ⟨fun h => by cases h; assumption, .ref⟩
@[simp] theorem bel_z0 {e : TypeId} : Bel n (.z0 e) ↔ True := ⟨fun _ => trivial, fun _ => .z0⟩
@[simp] theorem bel_fp {e : TypeId} {xs : List D} {i o : Nat} : Bel n (.fp e xs i o) ↔ True := ⟨fun _ => trivial, fun _ => .fp⟩
@[simp] theorem bel_ptr {b : Nat} {e : TypeId} {i o : Nat} : Bel n (.ptr b e i o) ↔ b < n := ⟨fun h => by cases h; assumption, .ptr⟩
@[simp] theorem bel_map {b : Nat} : Bel n (.map b) ↔ b < n := ⟨fun h => by cases h; assumption, .map⟩
@[simp] theorem bel_iter {b : Nat} : Bel n (.iter b) ↔ b < n := ⟨fun h => by cases h; assumption, .iter⟩
@[simp] theorem bel_gr {b : Nat} {e : TypeId} {k : Nat} : Bel n (.gr b e k) ↔ b < n := ⟨fun h => by cases h; assumption, .gr⟩
@[simp] theorem bel_pb {p : Bool → Prop} : Bel n (.pb p) ↔ True := ⟨fun _ => trivial, fun _ => .pb⟩
@[simp] theorem bel_unk : Bel n .unk ↔ True := ⟨fun _ => trivial, fun _ => .unk⟩
theorem all_get {cs : List AV} {p : AV → Prop} : (∀ (k : Nat) (c : AV), cs[k]? = some c → p c) ↔ ∀ c ∈ cs, p c :=
  ⟨fun h c hc => by obtain ⟨k, hk⟩ := List.getElem?_of_mem hc; exact h k c hk, fun h k c hk => h c (List.mem_of_getElem? hk)⟩
@[simp] theorem bel_agg {cs : List AV} : Bel n (.agg cs) ↔ ∀ c ∈ cs, Bel n c := ⟨fun h => by cases h with | agg h => exact all_get.mp h, fun h => .agg (all_get.mpr h)⟩
@[simp] theorem bel_tup {cs : List AV} : Bel n (.tup cs) ↔ ∀ c ∈ cs, Bel n c := ⟨fun h => by cases h with | tup h => exact all_get.mp h, fun h => .tup (all_get.mpr h)⟩
@[simp] theorem bel_clo {f : FuncId} {cs : List AV} : Bel n (.clo f cs) ↔ ∀ c ∈ cs, Bel n c := ⟨fun h => by cases h with | clo h => exact all_get.mp h, fun h => .clo (all_get.mpr h)⟩
@[simp] theorem bel_bnd {f : FuncId} {cs : List AV} : Bel n (.bnd f cs) ↔ ∀ c ∈ cs, Bel n c := ⟨fun h => by cases h with | bnd h => exact all_get.mp h, fun h => .bnd (all_get.mpr h)⟩

def BlkBel (n : Nat) : Blk → Prop
  | .cells _ xs => ∀ x ∈ xs, ∀ y ∈ x.cells, Bel n y
  | .map es => ∀ e ∈ es, Bel n e.2
  | .iter mb _ _ => mb < n
  | _ => True

theorem BlkBel.mono {n n' : Nat} {x : Blk} (h : BlkBel n x) (hn : n ≤ n') : BlkBel n' x := by
  cases x with
  | cells e xs => exact fun x hx y hy => (h x hx y hy).mono hn
  | map es => exact fun e he => (h e he).mono hn
  | iter mb _ _ => exact Nat.lt_of_lt_of_le h hn
  | _ => trivial

/-- The blocks speak of no block behind them. -/
def HOk (h : List Blk) : Prop := ∀ x ∈ h, BlkBel h.length x

theorem HOk.append {h g : List Blk} (h1 : HOk h) (h2 : ∀ x ∈ g, BlkBel (h.length + g.length) x) : HOk (h ++ g) := by
  intro x hx
  rw [List.length_append]
  rcases List.mem_append.mp hx with hx | hx
  · exact (h1 x hx).mono (by omega)
  · exact h2 x hx

theorem HOk.set {h : List Blk} {b : Nat} {x : Blk} (h1 : HOk h) (h2 : BlkBel h.length x) : HOk (h.set b x) := by
  intro y hy
  rw [List.length_set]
  rcases List.mem_or_eq_of_mem_set hy with hy | rfl
  · exact h1 y hy
  · exact h2

theorem St.hok (hst : St sz base w0 F ρ h w) : HOk h := by
  intro x hx
  obtain ⟨b, hb⟩ := List.getElem?_of_mem hx
  have hbr := hst.blk b x hb
  cases x with
  | cells e xs =>
    obtain ⟨B, N, c, e0, _, _, _, _, _, h6⟩ := hbr
    intro x hx y hy
    obtain ⟨i, hi⟩ := List.getElem?_of_mem hx
    obtain ⟨k, hk⟩ := List.getElem?_of_mem hy
    obtain ⟨v, _, hv, _⟩ := (h6 i x hi).2 k y hk
    exact hv.bel
  | map es =>
    obtain ⟨r, mm, _, _, _, _, h5⟩ := hbr
    intro e he
    obtain ⟨i, hi⟩ := List.getElem?_of_mem he
    obtain ⟨en, _, _, _, hv⟩ := h5 i e.1 e.2 (by simpa using hi)
    exact hv.bel
  | iter mb cnt seen =>
    obtain ⟨_, _, _, _, h3, _⟩ := hbr
    exact h3
  | _ => trivial

theorem BlkRel.cut {b k : Nat} {x : Blk} (hb : BlkRel sz base F ρ n w b x) (hk : BlkBel k x) : BlkRel sz base F ρ k w b x := by
  cases x with
  | cells e xs =>
    obtain ⟨B, N, c, e0, h1, h2, h3, h4, h5, h6⟩ := hb
    refine ⟨B, N, c, e0, h1, h2, h3, h4, h5, fun i x hi => ⟨(h6 i x hi).1, fun j y hj => ?_⟩⟩
    obtain ⟨v, h7, h8, h9⟩ := (h6 i x hi).2 j y hj
    exact ⟨v, h7, h8.cut (hk x (List.mem_of_getElem? hi) y (List.mem_of_getElem? hj)), h9⟩
  | tail e hw => exact hb
  | map es =>
    obtain ⟨r, mm, h1, h2, h3, h4, h5⟩ := hb
    refine ⟨r, mm, h1, h2, h3, h4, fun i k' x hi => ?_⟩
    obtain ⟨en, h6, h7, h8, h9⟩ := h5 i k' x hi
    exact ⟨en, h6, h7, h8, h9.cut (hk (k', x) (List.mem_of_getElem? hi))⟩
  | iter mb cnt seen =>
    obtain ⟨r, r', h1, h2, _, h4, h5⟩ := hb
    exact ⟨r, r', h1, h2, hk, h4, h5⟩
  | gone => trivial

theorem St.cut {g : List Blk} (hst : St sz base w0 F ρ (h ++ g) w) (hok : HOk h) : St sz base w0 F ρ h w := by
  refine ⟨hst.frz, fun b x hb => ?_, fun b b' B h1 h2 => hst.dist b b' B (by simp; omega) (by simp; omega), hst.old, hst.hb, fun b B h1 => hst.lt b B (by simp; omega)⟩
  have hlt := (List.getElem?_eq_some_iff.mp hb).1
  exact (hst.blk b x (by rw [List.getElem?_append_left hlt]; exact hb)).cut (hok x (List.mem_of_getElem? hb))


/-- A row of elements that is built at once: as data. -/
def evB (tab : Tab) (env : Env) (t : TypeId) (len : Nat) (parts : Array (Nat × Operand)) : Option (Prop × AV) :=
  match slOf tab t with
  | some e => match tab.get e, partsAV env parts.toList with
    | some te, some ps => match AV.allD (fillAV (List.replicate len (zeroAV te)) ps) with
      | some ds => some (len * te.size ≤ 16777216 ∧ okParts len te.size ps, if len = 0 then .z0 e else .d (.sl e ds))
      | none => none
    | _, _ => none
  | none => none

/-! Structs and arrays that are built at once. -/

def sizesOf (tab : Tab) : List (Nat × TypeId) → Option (List (Nat × Nat))
  | [] => some []
  | (o, t) :: r => match tab.get t, sizesOf tab r with
    | some ti, some l => some ((o, ti.size) :: l)
    | _, _ => none

def arrPl (s : Nat) : Nat → Nat → List (Nat × Nat)
  | _, 0 => []
  | i, n + 1 => (i * s, s) :: arrPl s (i + 1) n

def plOf (tab : Tab) : TK → Option (List (Nat × Nat))
  | .struct _ fs => sizesOf tab fs
  | .arr _ n e => match tab.get e with
    | some te => some (arrPl te.size 0 n)
    | none => none
  | _ => none

def setParts (pl : List (Nat × Nat)) : List AV → List (Nat × AV) → Option (Prop × List AV)
  | cs, [] => some (True, cs)
  | cs, (i, v) :: r => match pl[i]? with
    | some (off, size) => match setParts pl (setCells cs off v.cells) r with
      | some (o, cs') => some ((okCells v size ∧ off + size ≤ cs.length) ∧ o, cs')
      | none => none
    | none => none

def evS (tab : Tab) (env : Env) (t : TypeId) (parts : Array (Nat × Operand)) : Option (Prop × AV) :=
  match tab.get t with
  | some ti => match plOf tab ti.k, partsAV env parts.toList with
    | some pl, some ps => match setParts pl (ti.zero.map AV.d) ps with
      | some (o, cs) => some (o, AV.pack cs)
      | none => none
    | _, _ => none
  | none => none

def CRel (sz : TypeId → Nat) (F : Frz) (ρ : Env0) (n : Nat) (cs : List AV) (c : Array Value) : Prop :=
  c.size = cs.length ∧ ∀ (k : Nat) (y : AV), cs[k]? = some y → ∃ v, c[k]? = some v ∧ VRel sz F ρ n y v

theorem setParts_sound {pl : List (Nat × Nat)} {place : Nat → Option (Nat × Nat)} (hpl : ∀ (i : Nat) (p : Nat × Nat), pl[i]? = some p → place i = some p) : ∀ {ps : List (Nat × AV)} {pvs : List (Nat × Value)} {cs cs' : List AV} {c : Array Value} {o : Prop},
    CRel sz F ρ n cs c → setParts pl cs ps = some (o, cs') → o → pvs.length = ps.length → (∀ (j i : Nat) (v : AV), ps[j]? = some (i, v) → ∃ cv, pvs[j]? = some (i, cv) ∧ VRel sz F ρ n v cv) →
    ∃ c', Instr.fill place c pvs = some c' ∧ CRel sz F ρ n cs' c'
  | [], [], cs, cs', c, o, hr, hs, _, _, _ => by
    simp only [setParts, Option.some.injEq, Prod.mk.injEq] at hs
    obtain ⟨_, rfl⟩ := hs
    exact ⟨c, rfl, hr⟩
  | [], _ :: _, cs, cs', c, o, hr, _, _, hl, _ => by simp at hl
  | _ :: _, [], cs, cs', c, o, hr, _, _, hl, _ => by simp at hl
  | (i, v) :: ps, (i', cv) :: pvs, cs, cs', c, o, hr, hs, ho, hl, hv => by
    obtain ⟨cv', h1, h2⟩ := hv 0 i v rfl
    simp only [List.getElem?_cons_zero, Option.some.injEq, Prod.mk.injEq] at h1
    obtain ⟨rfl, rfl⟩ := h1
    simp only [setParts] at hs
    split at hs
    · rename_i off size hp
      split at hs
      · rename_i o' cs1 hs1
        simp only [Option.some.injEq, Prod.mk.injEq] at hs
        obtain ⟨rfl, rfl⟩ := hs
        obtain ⟨⟨hk, hb⟩, ho'⟩ := ho
        obtain ⟨hsz, hc⟩ := cells_rel h2 hk
        have hlv : v.cells.length = size := hk.1
        have hbc : off + cv.cells.toList.length ≤ c.size := by rw [hr.1]; simp only [Array.length_toList]; omega
        have hr' : CRel sz F ρ n (setCells cs off v.cells) (writeAll c off cv.cells.toList) := by
          refine ⟨by rw [writeAll_size, hr.1, setCells_length (by omega)], fun k y hk' => ?_⟩
          rw [setCells_get (by omega)] at hk'
          rw [writeAll_get _ _ _ hbc]
          have hll : cv.cells.toList.length = v.cells.length := by rw [hlv]; simpa using hsz
          rw [hll]
          split at hk'
          · rename_i hin
            rw [if_pos hin]
            obtain ⟨u, h3, h4, _⟩ := hc _ y hk'
            exact ⟨u, by simpa using h3, h4⟩
          · rename_i hin
            rw [if_neg hin]
            exact hr.2 k y hk'
        obtain ⟨c', h3, h4⟩ := setParts_sound hpl (ps := ps) (pvs := pvs) hr' hs1 ho' (by simpa using hl) (fun j i v hj => by simpa using hv (j + 1) i v (by simpa using hj))
        refine ⟨c', ?_, h4⟩
        simp only [Instr.fill, hpl _ _ hp]
        rw [if_neg (by simp only [hsz, ne_eq, not_true_eq_false, decide_false, Bool.false_or, decide_eq_true_eq, hr.1]; omega)]
        rw [← Array.foldl_toList, Array.toList_zipIdx]
        have := writeAll_fold cv.cells.toList c off 0
        simp only [Nat.add_zero] at this
        rw [this]
        exact h3
      · simp at hs
    · simp at hs

theorem sizesOf_run (hT : tab.checks P = true) {w : World} : ∀ {fds : List Field} {pl : List (Nat × Nat)}, sizesOf tab (fds.map fun (f : Field) => (f.offset, f.type)) = some pl →
    (fds.mapM fun (f : Field) => (do Pure.pure (f.offset, ← sizeOf f.type) : Sem (Nat × Nat))).run P w = .ok pl w
  | [], pl, h => by cases h; rfl
  | f :: fds, pl, h => by
    simp only [List.map_cons, sizesOf] at h
    split at h
    · rename_i ti l h1 h2
      cases h
      rw [List.mapM_cons]
      simp only [Sem.run_bind, (Tab.good hT h1).run_sizeOf, Result.andThen_ok, Sem.run_pure, sizesOf_run hT h2]
    · simp at h

theorem arrPl_get (s : Nat) : ∀ (n i k : Nat) (p : Nat × Nat), (arrPl s i n)[k]? = some p → p = ((i + k) * s, s)
  | 0, i, k, p, h => by simp [arrPl] at h
  | n + 1, i, k, p, h => by
    simp only [arrPl] at h
    cases k with
    | zero => simp at h; exact h.symm
    | succ k =>
      have := arrPl_get s n (i + 1) k p (by simpa using h)
      rw [this]
      congr 2; omega

theorem evS_sound (hT : tab.checks P = true) (hr : Rel (psz P) base w0 m nt F ρ env a w) {t : TypeId} {parts : Array (Nat × Operand)} {ob : Prop} {v : AV} (h : evS tab env t parts = some (ob, v)) (hob : ob) :
    Gives P (psz P) F ρ env.h.length w (Instr.build t (parts.map fun (i, x) => (i, a.eval x))) v := by
  unfold evS at h
  split at h
  · rename_i ti hti
    have hg := Tab.good hT hti
    obtain ⟨info, hi1, hi2, _, z, hz, hzc, hzp, hza⟩ := hg.info
    split at h
    · rename_i pl ps hpl hps
      split at h
      · rename_i o cs hs
        simp only [Option.some.injEq, Prod.mk.injEq] at h
        obtain ⟨rfl, rfl⟩ := h
        obtain ⟨h1, h2⟩ := parts_sound hr hps
        have hlist : (parts.map fun (i, x) => (i, a.eval x)).toList = parts.toList.map fun p => (p.1, a.eval p.2) := by simp
        have hc0 : CRel (psz P) F ρ env.h.length (ti.zero.map AV.d) z.cells := by
          refine ⟨by rw [← Array.length_toList, hzc]; simp, fun k y hk => ?_⟩
          simp only [List.getElem?_map, Option.map_eq_some_iff] at hk
          obtain ⟨d, hd, rfl⟩ := hk
          refine ⟨d.val, ?_, .d (D.val_rep (hzp d (List.mem_of_getElem? hd)))⟩
          rw [← Array.getElem?_toList, hzc]; simp [hd]
        have fin : ∀ {c' : Array Value}, CRel (psz P) F ρ env.h.length cs c' → VRel (psz P) F ρ env.h.length (AV.pack cs) (.agg c') := by
          intro c' hc'
          refine pack_rel hc'.1 (fun k => (c'[k]?).getD .nilIface) (fun k c hk => ?_) (fun k c hk => ?_)
          · obtain ⟨u, h3, _⟩ := hc'.2 k c hk
            rw [h3]; rfl
          · obtain ⟨u, h3, h4⟩ := hc'.2 k c hk
            rw [h3]; exact h4
        have hzero : (zeroValue t).run P w = .ok z w := by simp only [zeroValue, typeInfo, Sem.run_bind, run_program, hi1, Result.andThen_ok, Sem.run_pure, hz]
        obtain ⟨d, hu, hf⟩ := hg.desc
        unfold plOf at hpl
        split at hpl
        · rename_i b fs hk
          rw [hk] at hf
          cases d <;> simp only [TK.fits, Bool.false_eq_true, beq_iff_eq] at hf
          rename_i fds
          subst hf
          have hrun := sizesOf_run (w := w) hT hpl
          obtain ⟨c', h3, h4⟩ := setParts_sound (place := (pl.toArray[·]?)) (fun i p hp => by simpa using hp) hc0 hs hob (pvs := parts.toList.map fun p => (p.1, a.eval p.2)) (by simp [h1]) h2
          refine ⟨.agg c', ?_, fin h4⟩
          simp only [Instr.build, Sem.run_bind, hzero, Result.andThen_ok, Sem.run_pure, run_underlying' hu, Array.mapM_eq_mapM_toList, Sem.run_map, hrun, hlist]
          rw [h3]
          rfl
        · rename_i b nn e hk
          rw [hk] at hf
          cases d <;> simp only [TK.fits, Bool.false_eq_true, Bool.and_eq_true, beq_iff_eq] at hf
          obtain ⟨rfl, rfl⟩ := hf
          split at hpl
          · rename_i te hte
            cases hpl
            obtain ⟨c', h3, h4⟩ := setParts_sound (place := fun i => some (i * te.size, te.size)) (fun i p hp => by rw [arrPl_get _ _ _ _ _ hp]; simp) hc0 hs hob (pvs := parts.toList.map fun p => (p.1, a.eval p.2)) (by simp [h1]) h2
            refine ⟨.agg c', ?_, fin h4⟩
            simp only [Instr.build, Sem.run_bind, hzero, Result.andThen_ok, Sem.run_pure, run_underlying' hu, (Tab.good hT hte).run_sizeOf, hlist, h3]
          · simp at hpl
        · simp at hpl
      · simp at h
    · simp at h
  · simp at h

/-- The bytes of a text, as a slice of their own. -/
def evC (tab : Tab) (env : Env) (s d : TypeId) (x : Operand) : Option (Prop × AV) :=
  match tab.get s, tab.get d, ev env x with
  | some ⟨.str, _, _, _⟩, some ⟨.sl e, _, _, _⟩, some (.d (.str t)) => match tab.get e with
    | some ⟨.int .u8, _, _, _⟩ => some (True, .d (.sl e (t.map fun c => .int .u8 (c.toNat : Int))))
    | _ => none
  | _, _, _ => none

/-- What leaves the blocks as they are: evL, and rows that are built at once. -/
def evX (tab : Tab) (env : Env) : Op → Option (Prop × AV)
  | .convert s d x => match evC tab env s d x with
    | some r => some r
    | none => evL tab env (.convert s d x)
  | .buildSlice t len parts => evB tab env t len parts
  | .build t parts => evS tab env t parts
  | op => evL tab env op

/-- More of the world is known to stay. -/
theorem St.more (hst : St (psz P) base w0 F ρ h w) {F' : Frz} (hle : F.le F') (hF : ∀ y v, F' y = some v → w.cell? y = some v) (hsame : ∀ b r, b < h.length → (ρ b).conc = some r → ∀ y, y.block = r → F' y = F y) : St (psz P) base w0 F' ρ h w :=
  ⟨hF, fun b x hx => (hst.blk b x hx).mono ⟨hle, fun _ _ => Loc.ext_refl _⟩ rfl (Nat.le_refl _) (fun _ _ _ h => h) (fun r hr y hy => hsame b r (List.getElem?_eq_some_iff.mp hx).1 hr y hy), hst.dist, hst.old, hst.hb, hst.lt⟩

theorem evC_sound (hT : tab.checks P = true) (hr : Rel (psz P) base w0 m nt F ρ env a w) {s d : TypeId} {x : Operand} {ob : Prop} {v : AV} (h : evC tab env s d x = some (ob, v)) :
    Does P base w0 F ρ env.h w (do Pure.pure (Next.value (← convert s d (a.eval x)))) env.h v := by
  unfold evC at h
  split at h
  · rename_i e _ _ _ t hs hd hx
    split at h
    · rename_i s1 b1 z1 he
      simp only [Option.some.injEq, Prod.mk.injEq] at h
      obtain ⟨_, rfl⟩ := h
      obtain ⟨ds, hus, hfs⟩ := (Tab.good hT hs).desc
      obtain ⟨dd, hud, hfd⟩ := (Tab.good hT hd).desc
      obtain ⟨de, hue, hfe⟩ := (Tab.good hT he).desc
      rw [tk_sl hfd] at hud
      rw [tk_int hfe] at hue
      have hsz1 : psz P e = 1 := by rw [(Tab.good hT he).psz]; exact (Tab.good hT he).one rfl
      have hcv := (ev_sound hr hx).str_inv
      have hrun := Lib.run_convert_string_bytes (P := P) w s d e ⟨t.toArray⟩ hus hud hue
      rw [← hcv] at hrun
      have hts : (ByteArray.mk t.toArray).size = t.length := by show t.toArray.size = _; simp
      have hcap : t.length ≤ grownCap w t.length 0 e := by simp only [grownCap, Question.cut]; omega
      rw [hts] at hrun
      have hst1 : St (psz P) base w0 F ρ env.h (Lib.bytesWorld w e ⟨t.toArray⟩) := by
        have hst := hr.st
        refine ⟨fun y v hy => ?_, fun b x hx => ?_, hst.dist, ⟨⟨⟨hst.old.1.1.1, hst.old.1.1.2.1, hst.old.1.1.2.2⟩, hst.old.1.2⟩, fun r hr' => ?_⟩, ?_, fun b B h1 h2 => ?_⟩
        · rw [Lib.bytesWorld_old w e _ y (frz_lt hst hy)]
          exact hst.frz y v hy
        · refine (hst.blk b x hx).mono (Ext.refl _ _ _) rfl (Nat.le_refl _) (fun r o hc ho => ?_) (fun _ _ _ _ => rfl)
          rw [Lib.bytesWorld_at_old w e _ r (Array.getElem?_eq_some_iff.mp ho).1]
          exact ho
        · rw [Lib.bytesWorld_at_old w e _ r (by have := hst.hb; omega)]
          exact hst.old.2 r hr'
        · rw [Lib.bytesWorld_size]
          have := hst.hb; omega
        · rw [Lib.bytesWorld_size]
          have := hst.lt b B h1 h2; omega
      have hcell : ∀ (j : Nat) (u : Value), (t.map fun c => Value.int .u8 (c.toNat : Int))[j]? = some u → (Lib.bytesWorld w e ⟨t.toArray⟩).cell? ⟨w.heap.size, j, none⟩ = some u := by
        intro j u hj
        have hjl := (List.getElem?_eq_some_iff.mp hj).1
        simp only [List.length_map] at hjl
        rw [Lib.bytesWorld_cell w e _ j (by rw [hts]; exact hjl)]
        simp only [List.getElem?_map, List.getElem?_eq_getElem hjl, Option.map_some, Option.some.injEq] at hj
        subst hj
        simp [List.getD, hjl]
      have hnone : ∀ y, y.block = w.heap.size → F y = none := by
        intro y hy
        cases hF : F y with
        | none => rfl
        | some u => have := frz_lt hr.st hF; omega
      have hst2 := hst1.more (F' := addFrz F w.heap.size 0 t.length (t.map fun c => Value.int .u8 (c.toNat : Int)).toArray) (fun y u hy => by
          rw [addFrz_other (by have := frz_lt hr.st hy; omega)]; exact hy) (fun y u hy => by
          unfold addFrz at hy
          split at hy
          · rename_i hc
            obtain ⟨yb, yo, ys⟩ := y
            simp only at hc hy
            obtain ⟨rfl, rfl, _, _⟩ := hc
            exact hcell yo u (by simpa using hy)
          · rw [Lib.bytesWorld_old w e _ y (frz_lt hr.st hy)]
            exact hr.st.frz y u hy) (fun b r hb hc y hy => addFrz_other (by have := hr.st.lt b r hb hc; omega))
      refine does_value hrun ⟨fun y u hy => by rw [addFrz_other (by have := frz_lt hr.st hy; omega)]; exact hy, fun _ _ => Loc.ext_refl _⟩ hst2 (.d ?_) (Nat.le_refl _)
      have hlen : (t.map fun c => D.int .u8 (c.toNat : Int)).length = t.length := by simp
      conv => arg 4; rw [← hlen]
      refine FRep.of_row (vs := t.map fun c => Value.int .u8 (c.toNat : Int)) (ad := ⟨w.heap.size, 0, none⟩) (fun y hy => ?_) ?_ rfl (by simpa using hcap) (fun j u hj => ?_)
      · obtain ⟨c, _, rfl⟩ := List.mem_map.mp hy
        rw [hsz1]; rfl
      · exact src_str
      · have hjl := (List.getElem?_eq_some_iff.mp hj).1
        simp only [List.length_map] at hjl
        simp only [Nat.zero_add]
        rw [addFrz_in (by omega) hjl]
        simpa using hj
    · simp at h
  · simp at h

theorem evB_sound (hT : tab.checks P = true) (hr : Rel (psz P) base w0 m nt F ρ env a w) {t : TypeId} {len : Nat} {parts : Array (Nat × Operand)} {ob : Prop} {v : AV} (h : evB tab env t len parts = some (ob, v)) (hob : ob) :
    Does P base w0 F ρ env.h w (do Pure.pure (Next.value (← Instr.buildSlice t len (parts.map fun (i, x) => (i, a.eval x))))) env.h v := by
  unfold evB at h
  split at h
  · rename_i e he
    split at h
    · rename_i te ps hte hps
      split at h
      · rename_i ds hds
        simp only [Option.some.injEq, Prod.mk.injEq] at h
        obtain ⟨h1, rfl⟩ := h
        have hf : freshRow false env.h e len (fillAV (List.replicate len (zeroAV te)) ps) (len * te.size ≤ 16777216 ∧ okParts len te.size ps) = some (ob, env.h ++ [.tail e len], .bl env.h.length e ds) := by
          simp only [freshRow, Bool.false_eq_true, if_false, hds, h1]
        obtain ⟨nx, cv, w', F', ρ', h2, h3, h4, h5, h6, h7⟩ := buildSlice_sound hT hr he hte hps hf hob
        refine ⟨nx, cv, w', F', ρ', h2, h3, h4, h5.cut hr.st.hok, ?_, Nat.le_refl _⟩
        cases h6 with
        | bl hb hrep hl hw hc =>
          by_cases h0 : len = 0
          · rw [if_pos h0]
            obtain ⟨B, cap, c1, c2, _⟩ := h5.blk env.h.length (.tail e len) (by simp)
            rw [c1] at hl
            cases hl
            have hlen : ds.length = len := by
              have := AV.allD_some hds
              have h8 := congrArg List.length this
              rw [fillAV_length] at h8
              simpa using h8.symm
            have := hc hlen.symm
            subst this
            subst h0
            have hcap : cap = 0 := by
              rcases h3 with rfl | ⟨rfl, hu⟩
              · simp only [Sem.run_bind, Sem.run_pure] at h2
                have hu := (slOf_sound hT he).1
                have hg := Tab.good hT hte
                simp only [Instr.buildSlice, Sem.run_bind, run_underlying' hu, Result.andThen_ok, hg.run_sizeOf, Nat.zero_mul, Sem.run_ite] at h2
                rw [if_neg (by omega)] at h2
                simp only [if_true, Sem.run_pure, Result.andThen_ok] at h2
                split at h2
                · simp only [newRow, Sem.run_bind, run_newObj, Result.andThen_ok, Sem.run_pure, Result.ok.injEq, Next.value.injEq, Value.slice.injEq] at h2
                  omega
                · simp at h2
              · cases hu
            subst hcap
            exact .z0
          · rw [if_neg h0]
            exact .d hrep
      · simp at h
    · simp at h
  · simp at h

end Go.Vm
