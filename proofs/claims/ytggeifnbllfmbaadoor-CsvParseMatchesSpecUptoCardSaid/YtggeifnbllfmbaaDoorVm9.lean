/- New blocks and stores. -/
import Derived.Test.YtggeifnbllfmbaaDoorVm8
set_option linter.unusedSimpArgs false
namespace Go.Vm
variable {P : Program} {base : Nat} {w0 : World} {m nt : Nat} {F : Frz} {ρ : Env0} {env : Env} {a : Act} {w : World} {n : Nat} {tab : Tab} {sz : TypeId → Nat} {h : List Blk}

def upd (ρ : Env0) (b : Nat) (l : Loc) : Env0 := fun i => if i = b then l else ρ i

theorem upd_same (ρ : Env0) (b : Nat) (l : Loc) : upd ρ b l b = l := by simp [upd]
theorem upd_ne {ρ : Env0} {b i : Nat} {l : Loc} (hne : i ≠ b) : upd ρ b l i = ρ i := by simp [upd, hne]

theorem Ext.upd (n : Nat) (F : Frz) (ρ : Env0) (l : Loc) : Ext n F ρ F (upd ρ n l) :=
  ⟨Frz.le_refl _, fun b hb => by rw [upd_ne (by omega)]; exact Loc.ext_refl _⟩

theorem heap_push {w : World} {o x : Obj} {r : Nat} (hr : w.heap[r]? = some x) : (w.alloc o).heap[r]? = some x := by
  have hlt : r < w.heap.size := by
    rcases Nat.lt_or_ge r w.heap.size with h | h
    · exact h
    · simp [Array.getElem?_eq_none h] at hr
  simp only [World.alloc, Array.getElem?_push]
  simp [Nat.ne_of_lt hlt, hr]

theorem heap_new (w : World) (o : Obj) : (w.alloc o).heap[w.heap.size]? = some o := by
  unfold World.alloc
  exact Array.getElem?_push_size

theorem cell_push {w : World} {o : Obj} {x : Addr} {v : Value} (hx : w.cell? x = some v) : (w.alloc o).cell? x = some v := by
  rw [World.cell?_alloc_lt w o x (World.block_lt_of_cell? w x hx)]; exact hx

/-- A block stays as it is told when the world gets further blocks and more is known. -/
theorem BlkRel.mono {w w' : World} {F F' : Frz} {ρ ρ' : Env0} {n n' b : Nat} {x : Blk} (hb : BlkRel sz base F ρ n w b x) (hx : Ext n F ρ F' ρ') (hρ : ρ' b = ρ b) (hn : n ≤ n')
    (hw : ∀ r o, (ρ b).conc = some r → w.heap[r]? = some o → w'.heap[r]? = some o)
    (hF : ∀ r, (ρ b).conc = some r → ∀ y, y.block = r → F' y = F y) : BlkRel sz base F' ρ' n' w' b x := by
  cases x with
  | cells e xs =>
    obtain ⟨B, N, c, e0, h1, h2, h3, h4, h5, h6⟩ := hb
    have hc : (ρ b).conc = some B := by rw [h1]; rfl
    refine ⟨B, N, c, e0, by rw [hρ]; exact h1, h2, hw _ _ hc h3, fun y hy => by rw [hF _ hc y hy]; exact h4 y hy, h5, fun i x hi => ?_⟩
    obtain ⟨h7, h8⟩ := h6 i x hi
    refine ⟨h7, fun k y hk => ?_⟩
    obtain ⟨v, h9, h10, h11⟩ := h8 k y hk
    exact ⟨v, h9, h10.mono hx hn, h11⟩
  | tail e hw' =>
    obtain ⟨A, cap, h1, h2, h3⟩ := hb
    refine ⟨A, cap, by rw [hρ]; exact h1, h2, fun hc => ?_⟩
    obtain ⟨ad, c, e0, h4, h5, h6, h7, h8, h9⟩ := h3 hc
    have hcc : (ρ b).conc = some ad.block := by rw [h1, h4]; simp [Loc.conc, hc]
    exact ⟨ad, c, e0, h4, h5, h6, hw _ _ hcc h7, h8, fun y hy hne => h9 y hy (by rw [← hF _ hcc y hy]; exact hne)⟩
  | map es =>
    obtain ⟨r, mm, h1, h2, h3, h4, h5⟩ := hb
    have hc : (ρ b).conc = some r := by rw [h1]; rfl
    refine ⟨r, mm, by rw [hρ]; exact h1, h2, hw _ _ hc h3, h4, fun i k x hi => ?_⟩
    obtain ⟨en, h6, h7, h8, h9⟩ := h5 i k x hi
    exact ⟨en, h6, h7, h8.mono hx.frz, h9.mono hx hn⟩
  | gone => trivial

theorem BlkRel.conc_lt {w : World} {b : Nat} (hst : St sz base w0 F ρ h w) (hb : b < h.length) {r : Nat} (hc : (ρ b).conc = some r) : r < w.heap.size := hst.lt b r hb hc

/-- A new object in the world is a new block. -/
theorem St.push (hst : St sz base w0 F ρ h w) {o : Obj} {blk : Blk} {l : Loc} {F' : Frz} (hl : l.conc = some w.heap.size ∨ l.conc = none)
    (hF : F.le F') (hFo : ∀ y, y.block < w.heap.size → F' y = F y) (hFn : ∀ y v, F' y = some v → y.block = w.heap.size → (w.alloc o).cell? y = some v)
    (hFl : ∀ y v, F' y = some v → y.block ≤ w.heap.size)
    (hb : BlkRel sz base F' (upd ρ h.length l) (h.length + 1) (w.alloc o) h.length blk) : St sz base w0 F' (upd ρ h.length l) (h ++ [blk]) (w.alloc o) := by
  have hx : Ext h.length F ρ F' (upd ρ h.length l) := ⟨hF, fun b hb => by rw [upd_ne (by omega)]; exact Loc.ext_refl _⟩
  constructor
  · intro y v hy
    rcases Nat.lt_or_eq_of_le (hFl y v hy) with h1 | h1
    · rw [hFo y h1] at hy
      exact cell_push (hst.frz y v hy)
    · exact hFn y v hy h1
  · intro b x hbx
    rw [List.length_append, List.length_singleton]
    rcases Nat.lt_trichotomy b h.length with h1 | h1 | h1
    · rw [List.getElem?_append_left h1] at hbx
      exact (hst.blk b x hbx).mono hx (upd_ne (by omega)) (by omega) (fun r o hc hr => heap_push hr) (fun r hc y hy => hFo y (by rw [hy]; exact hst.lt b r h1 hc))
    · subst h1
      simp only [List.getElem?_append_right (Nat.le_refl _), Nat.sub_self, List.getElem?_cons_zero, Option.some.injEq] at hbx
      subst hbx
      exact hb
    · rw [List.getElem?_eq_none (by simp; omega)] at hbx
      cases hbx
  · intro b b' B hb1 hb2 hc1 hc2
    simp only [List.length_append, List.length_singleton] at hb1 hb2
    by_cases e1 : b = h.length <;> by_cases e2 : b' = h.length
    · omega
    · subst e1
      rw [upd_same] at hc1
      rw [upd_ne e2] at hc2
      have := hst.lt b' B (by omega) hc2
      rcases hl with hl | hl <;> rw [hl] at hc1 <;> cases hc1
      omega
    · subst e2
      rw [upd_same] at hc2
      rw [upd_ne e1] at hc1
      have := hst.lt b B (by omega) hc1
      rcases hl with hl | hl <;> rw [hl] at hc2 <;> cases hc2
      omega
    · rw [upd_ne e1] at hc1
      rw [upd_ne e2] at hc2
      exact hst.dist b b' B (by omega) (by omega) hc1 hc2
  · refine ⟨hst.old.1, fun r hr => ?_⟩
    rw [← hst.old.2 r hr]
    have := hst.hb
    simp only [World.alloc, Array.getElem?_push]
    rw [if_neg (by omega)]
  · have := hst.hb; simp; omega
  · intro b B hb hc
    simp only [List.length_append, List.length_singleton] at hb
    simp only [World.size_alloc]
    by_cases e1 : b = h.length
    · subst e1
      rw [upd_same] at hc
      rcases hl with hl | hl <;> rw [hl] at hc <;> cases hc
      omega
    · rw [upd_ne e1] at hc
      have := hst.lt b B (by omega) hc
      omega

theorem frz_lt (hst : St sz base w0 F ρ h w) {y : Addr} {v : Value} (hy : F y = some v) : y.block < w.heap.size := World.block_lt_of_cell? w y (hst.frz y v hy)

/-- A new block of one variable. -/
theorem St.new_var (hst : St sz base w0 F ρ h w) {e e0 : TypeId} {x : AV} {cs : Array Value} (hl : x.cells.length = sz e) (hs : sz e = cs.size) (he : e0 = e)
    (hv : ∀ (k : Nat) (y : AV), x.cells[k]? = some y → ∃ v, cs[k]? = some v ∧ VRel sz F ρ h.length y v ∧ v.oneCell' = true) :
    St sz base w0 F (upd ρ h.length (.mt w.heap.size 1)) (h ++ [.cells e [x]]) (w.alloc (.cells cs e0)) := by
  refine hst.push (.inl rfl) (Frz.le_refl _) (fun _ _ => rfl) (fun y v hy hyb => ?_) (fun y v hy => by have := frz_lt hst hy; omega) ?_
  · have := frz_lt hst hy; omega
  · refine ⟨w.heap.size, 1, cs, e0, upd_same _ _ _, hst.hb, heap_new _ _, fun y hy => ?_, ⟨by simp, by simpa using hs, he⟩, fun i x' hi => ?_⟩
    · cases hF : F y with
      | none => rfl
      | some v => have := frz_lt hst hF; omega
    · cases i with
      | zero =>
        simp only [List.getElem?_cons_zero, Option.some.injEq] at hi
        subst hi
        refine ⟨hl, fun k y hk => ?_⟩
        obtain ⟨v, h1, h2, h3⟩ := hv k y hk
        exact ⟨v, by simpa using h1, h2.mono (Ext.upd _ _ _ _) (by omega), h3⟩
      | succ i => simp at hi

/-- Is it the value of one cell? -/
def D.leaf : D → Bool
  | .agg _ => false
  | _ => true
def AV.leaf : AV → Bool
  | .d x => x.leaf
  | .agg _ | .tup _ | .unk | .pb _ => false
  | _ => true

theorem leaf_one {y : AV} {v : Value} (hv : VRel sz F ρ n y v) (hl : y.leaf = true) : v.oneCell' = true := by
  cases hv with
  | d hd => cases hd <;> first | rfl | (simp [AV.leaf, D.leaf] at hl)
  | bl hb h hl' hw hc => cases h; rfl
  | _ => first | rfl | (simp [AV.leaf] at hl)

/-- A value of k cells, each of one piece. -/
def okCells (v : AV) (k : Nat) : Prop := v.cells.length = k ∧ ∀ y ∈ v.cells, y.leaf = true

def okParts (len size : Nat) : List (Nat × AV) → Prop
  | [] => True
  | (i, v) :: r => (i < len ∧ okCells v size) ∧ okParts len size r

theorem okParts_iff {len size : Nat} : ∀ {ps : List (Nat × AV)}, okParts len size ps ↔ ∀ p ∈ ps, p.1 < len ∧ okCells p.2 size
  | [] => by simp [okParts]
  | (i, v) :: r => by simp only [okParts, okParts_iff (ps := r), List.forall_mem_cons]

theorem cells_rel {v : AV} {cv : Value} {k : Nat} (hv : VRel sz F ρ n v cv) (hk : okCells v k) :
    cv.cells.size = k ∧ ∀ (j : Nat) (y : AV), v.cells[j]? = some y → ∃ u, cv.cells[j]? = some u ∧ VRel sz F ρ n y u ∧ u.oneCell' = true := by
  obtain ⟨hl, hlf⟩ := hk
  have one : v.cells = [v] → (∀ vs, cv ≠ .agg vs) → cv.cells.size = k ∧ ∀ (j : Nat) (y : AV), v.cells[j]? = some y → ∃ u, cv.cells[j]? = some u ∧ VRel sz F ρ n y u ∧ u.oneCell' = true := by
    intro h1 h2
    have hc : cv.cells = #[cv] := by cases cv <;> first | rfl | exact absurd rfl (h2 _)
    rw [hc]
    rw [h1] at hl hlf ⊢
    refine ⟨by simpa using hl, fun j y hj => ?_⟩
    cases j with
    | zero =>
      simp only [List.getElem?_cons_zero, Option.some.injEq] at hj
      subst hj
      exact ⟨cv, rfl, hv, leaf_one hv (hlf _ (by simp))⟩
    | succ j => simp at hj
  cases v with
  | d x =>
    cases x with
    | agg cs =>
      cases hv with | d hv => cases hv with
      | agg _ vs hs val hvv hr =>
        simp only [AV.cells, D.cells, List.length_map] at hl hlf ⊢
        refine ⟨by simp [Value.cells, hs, hl], fun j y hj => ?_⟩
        simp only [List.getElem?_map, Option.map_eq_some_iff] at hj
        obtain ⟨c, hc, rfl⟩ := hj
        have hr' : VRel sz F ρ n (.d c) (val j) := .d (hr j c hc)
        exact ⟨val j, hvv j c hc, hr', leaf_one hr' (hlf _ (List.mem_map.mpr ⟨c, List.mem_of_getElem? hc, rfl⟩))⟩
    | _ => exact one rfl (by intro vs e; subst e; cases hv with | d hv => cases hv)
  | agg cs =>
    cases hv with
    | agg _ vs hs val hvv hr =>
      simp only [AV.cells] at hl hlf ⊢
      exact ⟨by simp [Value.cells, hs, hl], fun j y hj => ⟨val j, hvv j y hj, hr j y hj, leaf_one (hr j y hj) (hlf _ (List.mem_of_getElem? hj))⟩⟩
  | tup vs => simp [AV.cells, AV.leaf] at hlf
  | unk => simp [AV.cells, AV.leaf] at hlf
  | pb p => simp [AV.cells, AV.leaf] at hlf
  | bl b e xs => exact one rfl (by intro vs e; subst e; cases hv with | bl hb h hl' hw hc => cases h)
  | _ => exact one rfl (by intro vs e; subst e; cases hv)

/-- The world with one block written anew. -/
def setBlk (w : World) (B : Nat) (o : Obj) : World := { w with heap := w.heap.setIfInBounds B o }

def writeAll (c : Array Value) (o : Nat) : List Value → Array Value
  | [] => c
  | v :: vs => writeAll (c.setIfInBounds o v) (o + 1) vs

theorem writeAll_size (c : Array Value) (o : Nat) (vs : List Value) : (writeAll c o vs).size = c.size := by
  induction vs generalizing c o with
  | nil => rfl
  | cons v vs ih => simp [writeAll, ih]

theorem writeAll_get (c : Array Value) (o : Nat) (vs : List Value) (hs : o + vs.length ≤ c.size) (i : Nat) :
    (writeAll c o vs)[i]? = if o ≤ i ∧ i < o + vs.length then vs[i - o]? else c[i]? := by
  induction vs generalizing c o with
  | nil => simp only [writeAll, List.length_nil]; rw [if_neg (by omega)]
  | cons v vs ih =>
    simp only [List.length_cons] at hs
    rw [writeAll, ih _ _ (by simp; omega)]
    by_cases h1 : o + 1 ≤ i ∧ i < o + 1 + vs.length
    · rw [if_pos h1, if_pos (by simp only [List.length_cons]; omega), show i - o = (i - (o + 1)) + 1 from by omega, List.getElem?_cons_succ]
    · rw [if_neg h1]
      by_cases h2 : i = o
      · subst h2
        rw [if_pos (by simp only [List.length_cons]; omega)]
        simp [show i < c.size from by omega]
      · rw [if_neg (by simp only [List.length_cons]; omega)]
        simp [Ne.symm h2]

theorem setBlk_get {w : World} {B r : Nat} {o : Obj} : (setBlk w B o).heap[r]? = if r = B then (if B < w.heap.size then some o else none) else w.heap[r]? := by
  simp only [setBlk, Array.getElem?_setIfInBounds]
  by_cases h : r = B
  · subst h; by_cases h2 : r < w.heap.size <;> simp [h2]
  · simp [h, Ne.symm h]

theorem setCell_setBlk {w : World} {B o : Nat} {c : Array Value} {e0 : TypeId} {v : Value} (hb : w.heap[B]? = some (.cells c e0 (0, 0))) :
    w.setCell ⟨B, o, none⟩ v = setBlk w B (.cells (c.setIfInBounds o v) e0 (0, 0)) := by
  obtain ⟨hlt, he⟩ := Array.getElem?_eq_some_iff.mp hb
  simp only [World.setCell, setBlk]
  congr 1
  apply Array.ext
  · simp
  · intro i h1 h2
    by_cases hi : B = i
    · subst hi; simp [Array.getElem_modify, he]
    · rw [Array.getElem_modify, if_neg hi, Array.getElem_setIfInBounds, if_neg hi]

theorem setBlk_setBlk {w : World} {B : Nat} {x y : Obj} : (setBlk (setBlk w B x) B y) = setBlk w B y := by
  simp only [setBlk]
  congr 1
  apply Array.ext
  · simp
  · intro i h1 h2
    by_cases hi : B = i
    · subst hi; simp
    · simp

theorem storeCells_run {B o : Nat} {e0 : TypeId} : ∀ (vs : List Value) (i : Nat) (c : Array Value) (w : World), w.heap[B]? = some (.cells c e0 (0, 0)) → o + i + vs.length ≤ c.size →
    (∀ v ∈ vs, v.oneCell' = true) → (storeCells ⟨B, o, none⟩ vs i).run P w = .ok () (setBlk w B (.cells (writeAll c (o + i) vs) e0 (0, 0)))
  | [], i, c, w, hb, _, _ => by
    simp only [storeCells, Sem.run_pure, writeAll]
    congr 1
    obtain ⟨hlt, he⟩ := Array.getElem?_eq_some_iff.mp hb
    cases w with | mk heap tape drawn os out =>
    simp only [setBlk]
    congr 1
    apply Array.ext
    · simp
    · intro j h1 h2
      by_cases hj : B = j
      · subst hj; simpa using he
      · rw [Array.getElem_setIfInBounds, if_neg hj]
  | v :: vs, i, c, w, hb, hs, hv => by
    obtain ⟨hlt, he⟩ := Array.getElem?_eq_some_iff.mp hb
    simp only [List.length_cons] at hs
    have hcell : w.cell? ⟨B, o + i, none⟩ = some (c[o + i]'(by omega)) := by
      simp only [World.cell?, hb]
      simp [show o + i < c.size from by omega]
    have hfr : w.frozen? ⟨B, o + i, none⟩ = false := by simp [World.frozen?, hb]
    simp only [storeCells, Sem.run_bind, add_none]
    rw [run_store P w _ v .plain (hv v (by simp))]
    simp only [hcell, hfr, Bool.false_eq_true, if_false, Result.andThen_ok]
    rw [setCell_setBlk hb]
    rw [storeCells_run (e0 := e0) vs (i + 1) (c.setIfInBounds (o + i) v) _ (by rw [setBlk_get]; simp [hlt]) (by simp; omega) (fun u hu => hv u (by simp [hu]))]
    rw [setBlk_setBlk]
    rfl

theorem setCells_length {cs vs : List AV} {off : Nat} (hs : off + vs.length ≤ cs.length) : (setCells cs off vs).length = cs.length := by
  simp only [setCells, List.length_append, List.length_take, List.length_drop]; omega

theorem setCells_get {cs vs : List AV} {off : Nat} (hs : off + vs.length ≤ cs.length) (j : Nat) : (setCells cs off vs)[j]? = if off ≤ j ∧ j < off + vs.length then vs[j - off]? else cs[j]? := by
  have hlt : (cs.take off).length = off := by simp only [List.length_take]; omega
  simp only [setCells]
  by_cases h1 : j < off
  · rw [if_neg (by omega), List.getElem?_append_left (by rw [List.length_append]; omega), List.getElem?_append_left (by omega), List.getElem?_take_of_lt h1]
  · by_cases h2 : j < off + vs.length
    · rw [if_pos (by omega), List.getElem?_append_left (by rw [List.length_append]; omega), List.getElem?_append_right (by omega), hlt]
    · rw [if_neg (by omega), List.getElem?_append_right (by rw [List.length_append]; omega), List.length_append, hlt, List.getElem?_drop]
      congr 1; omega

theorem setBlk_cell {w : World} {B : Nat} {o : Obj} {y : Addr} (hy : y.block ≠ B) : (setBlk w B o).cell? y = w.cell? y := by
  simp only [World.cell?, setBlk_get, hy, if_false]

theorem setBlk_size {w : World} {B : Nat} {o : Obj} : (setBlk w B o).heap.size = w.heap.size := by simp [setBlk]

/-- One block of the world is written anew. -/
theorem St.rewrite (hst : St sz base w0 F ρ h w) {b B : Nat} {o : Obj} {blk : Blk} (hb : b < h.length) (hl : (∃ N, ρ b = .mt B N) ∨ ρ b = .obj B) (hB : base ≤ B)
    (hF : ∀ y, y.block = B → F y = none) (hn : BlkRel sz base F ρ h.length (setBlk w B o) b blk) : St sz base w0 F ρ (h.set b blk) (setBlk w B o) := by
  have hc : (ρ b).conc = some B := by rcases hl with ⟨N, hl⟩ | hl <;> rw [hl] <;> rfl
  constructor
  · intro y v hy
    rw [setBlk_cell (fun e => by rw [hF y e] at hy; cases hy)]
    exact hst.frz y v hy
  · intro b' x hx
    rw [List.length_set]
    by_cases e1 : b' = b
    · subst e1
      rw [List.getElem?_set_self hb] at hx
      cases hx
      exact hn
    · rw [List.getElem?_set_ne (Ne.symm e1)] at hx
      have hlt := (List.getElem?_eq_some_iff.mp hx).1
      refine (hst.blk b' x hx).mono (Ext.refl _ _ _) rfl (Nat.le_refl _) (fun r o' hr ho => ?_) (fun _ _ _ _ => rfl)
      rw [setBlk_get, if_neg (fun e => e1 (hst.dist b' b B hlt hb (by rw [hr, e]) hc))]
      exact ho
  · intro b1 b2 B' h1 h2 c1 c2
    rw [List.length_set] at h1 h2
    exact hst.dist b1 b2 B' h1 h2 c1 c2
  · refine ⟨hst.old.1, fun r hr => ?_⟩
    rw [setBlk_get, if_neg (by omega)]
    exact hst.old.2 r hr
  · rw [setBlk_size]; exact hst.hb
  · intro b1 B' h1 c1
    rw [List.length_set] at h1
    rw [setBlk_size]
    exact hst.lt b1 B' h1 c1

theorem store_sound (hst : St (psz P) base w0 F ρ h w) {t : TypeId} {ti : TI} (hg : ti.Good P t) {b : Nat} {e : TypeId} {xs : List AV} {i off : Nat} {ca cv : Value} {v x' : AV}
    (hb : h[b]? = some (.cells e xs)) (hp : VRel (psz P) F ρ n (.ptr b e i off) ca) (hi : i < xs.length) (hk : off + ti.size ≤ psz P e) (hv : VRel (psz P) F ρ h.length v cv) (hok : okCells v ti.size)
    (hx' : x'.cells = setCells (xs.getD i .unk).cells off v.cells) :
    ∃ w', (Instr.storeAt t ca cv).run P w = .ok () w' ∧ St (psz P) base w0 F ρ (h.set b (.cells e (xs.set i x'))) w' := by
  cases hp with
  | @ptr _ _ _ _ ad hbn hl' =>
    have hlt := (List.getElem?_eq_some_iff.mp hb).1
    obtain ⟨B, N, c, e0, hl, h2, h3, h4, h5, h6⟩ := hst.blk b _ hb
    have := hl' _ _ hl
    subst this
    obtain ⟨hsz, hcr⟩ := cells_rel hv hok
    have hxi : xs[i]? = some (xs.getD i .unk) := by simp [List.getD, List.getElem?_eq_getElem hi]
    obtain ⟨hlen, hcs⟩ := h6 i _ hxi
    have hlc : cv.cells.toList.length = ti.size := by simpa using hsz
    have hpos : i * psz P e + off + ti.size ≤ c.size := by
      have hm1 : xs.length * psz P e ≤ N * psz P e := Nat.mul_le_mul_right _ h5.1
      have hm2 := h5.2.1
      have : (i + 1) * psz P e ≤ xs.length * psz P e := Nat.mul_le_mul_right _ hi
      rw [Nat.add_mul] at this
      omega
    have hone : ∀ u ∈ cv.cells.toList, u.oneCell' = true := by
      intro u hu
      obtain ⟨j, hj⟩ := List.getElem?_of_mem hu
      have hjl := (List.getElem?_eq_some_iff.mp hj).1
      have : v.cells[j]? = some (v.cells[j]'(by rw [hok.1]; omega)) := List.getElem?_eq_getElem _
      obtain ⟨u', hu', _, ho⟩ := hcr j _ this
      have : u' = u := by
        have h9 : cv.cells[j]? = some u := by simpa using hj
        rw [h9] at hu'; cases hu'; rfl
      rw [← this]; exact ho
    refine ⟨setBlk w B (.cells (writeAll c (i * psz P e + off) cv.cells.toList) e0 (0, 0)), ?_, ?_⟩
    · simp only [Instr.storeAt, Instr.sureAddr, pure_bind, storeVar, Sem.run_bind, hg.run_sizeOf, Result.andThen_ok, hsz, ne_eq, not_true_eq_false, if_false]
      have := storeCells_run (P := P) (B := B) (o := i * psz P e + off) (e0 := e0) cv.cells.toList 0 c w h3 (by rw [hlc]; omega) hone
      simpa using this
    · refine hst.rewrite hlt (.inl ⟨N, hl⟩) h2 h4 ⟨B, N, writeAll c (i * psz P e + off) cv.cells.toList, e0, hl, h2, by rw [setBlk_get]; simp [(Array.getElem?_eq_some_iff.mp h3).1], h4, by rw [writeAll_size, List.length_set]; exact h5, fun i' x hx => ?_⟩
      have hvl := hok.1
      have hoff : off + v.cells.length ≤ (xs.getD i .unk).cells.length := by rw [hlen, hvl]; exact hk
      by_cases hii : i' = i
      · subst hii
        rw [List.getElem?_set_self hi] at hx
        cases hx
        rw [hx', setCells_length hoff]
        refine ⟨hlen, fun k y hky => ?_⟩
        rw [setCells_get hoff] at hky
        rw [writeAll_get c _ _ (by rw [hlc]; omega), hlc]
        by_cases hin : off ≤ k ∧ k < off + v.cells.length
        · rw [if_pos hin] at hky
          rw [if_pos (by omega)]
          obtain ⟨u, hu, hr', ho⟩ := hcr _ _ hky
          refine ⟨u, ?_, hr', ho⟩
          rw [show i' * psz P e + k - (i' * psz P e + off) = k - off from by omega]
          simpa using hu
        · rw [if_neg hin] at hky
          rw [if_neg (by omega)]
          exact hcs k y hky
      · rw [List.getElem?_set_ne (Ne.symm hii)] at hx
        obtain ⟨hl2, hc2⟩ := h6 i' x hx
        refine ⟨hl2, fun k y hky => ?_⟩
        obtain ⟨u, hu, hr', ho⟩ := hc2 k y hky
        refine ⟨u, ?_, hr', ho⟩
        have hkl := (List.getElem?_eq_some_iff.mp hky).1
        rw [writeAll_get c _ _ (by rw [hlc]; omega), hlc, if_neg, hu]
        intro hin
        rcases Nat.lt_or_gt_of_ne hii with hlt' | hgt
        · have : (i' + 1) * psz P e ≤ i * psz P e := Nat.mul_le_mul_right _ hlt'
          rw [Nat.add_mul] at this
          omega
        · have : (i + 1) * psz P e ≤ i' * psz P e := Nat.mul_le_mul_right _ hgt
          rw [Nat.add_mul] at this
          omega

/-- A block is forgotten for good. -/
theorem St.kill (hst : St sz base w0 F ρ h w) {b B N : Nat} (hl : ρ b = .mt B N) (hb : b < h.length) : St sz base w0 F (upd ρ b .dead) (h.set b .gone) w ∧ Ext h.length F ρ F (upd ρ b .dead) := by
  have hx : Ext h.length F ρ F (upd ρ b .dead) := ⟨Frz.le_refl _, fun b' _ => by
    by_cases e1 : b' = b
    · subst e1; rw [upd_same, hl]; exact .inr rfl
    · rw [upd_ne e1]; exact Loc.ext_refl _⟩
  refine ⟨⟨hst.frz, fun b' x hx' => ?_, fun b1 b2 B' h1 h2 c1 c2 => ?_, hst.old, hst.hb, fun b1 B' h1 c1 => ?_⟩, hx⟩
  · rw [List.length_set]
    by_cases e1 : b' = b
    · subst e1
      rw [List.getElem?_set_self hb] at hx'
      cases hx'
      trivial
    · rw [List.getElem?_set_ne (Ne.symm e1)] at hx'
      exact (hst.blk b' x hx').mono hx (upd_ne e1) (Nat.le_refl _) (fun _ _ _ h => h) (fun _ _ _ _ => rfl)
  · rw [List.length_set] at h1 h2
    by_cases e1 : b1 = b
    · subst e1; rw [upd_same] at c1; cases c1
    · by_cases e2 : b2 = b
      · subst e2; rw [upd_same] at c2; cases c2
      · rw [upd_ne e1] at c1; rw [upd_ne e2] at c2
        exact hst.dist b1 b2 B' h1 h2 c1 c2
  · rw [List.length_set] at h1
    by_cases e1 : b1 = b
    · subst e1; rw [upd_same] at c1; cases c1
    · rw [upd_ne e1] at c1
      exact hst.lt b1 B' h1 c1

/-- A block of elements gets a new name: the last one. -/
theorem St.rename (hst : St sz base w0 F ρ h w) {b B N : Nat} {e : TypeId} {xs : List AV} (hl : ρ b = .mt B N) (hlt : b < h.length) (hb : BlkRel sz base F ρ h.length w b (.cells e xs)) :
    St sz base w0 F (upd (upd ρ b .dead) h.length (.mt B N)) (h.set b .gone ++ [.cells e xs]) w ∧ Ext h.length F ρ F (upd (upd ρ b .dead) h.length (.mt B N)) := by
  have hx : Ext h.length F ρ F (upd (upd ρ b .dead) h.length (.mt B N)) := ⟨Frz.le_refl _, fun b' hb' => by
    rw [upd_ne (by omega)]
    by_cases e1 : b' = b
    · subst e1; rw [upd_same, hl]; exact .inr rfl
    · rw [upd_ne e1]; exact Loc.ext_refl _⟩
  have hc : (ρ b).conc = some B := by rw [hl]; rfl
  have hold : ∀ b' B', b' ≠ h.length → ((upd (upd ρ b .dead) h.length (.mt B N)) b').conc = some B' → b' ≠ b ∧ (ρ b').conc = some B' := by
    intro b' B' hne hcc
    rw [upd_ne hne] at hcc
    by_cases e1 : b' = b
    · subst e1; rw [upd_same] at hcc; cases hcc
    · rw [upd_ne e1] at hcc; exact ⟨e1, hcc⟩
  refine ⟨⟨hst.frz, fun b' x hx' => ?_, fun b1 b2 B' h1 h2 c1 c2 => ?_, hst.old, hst.hb, fun b1 B' h1 c1 => ?_⟩, hx⟩
  · simp only [List.length_append, List.length_set, List.length_singleton]
    rcases Nat.lt_trichotomy b' h.length with h1 | h1 | h1
    · rw [List.getElem?_append_left (by simpa using h1)] at hx'
      by_cases e1 : b' = b
      · subst e1
        rw [List.getElem?_set_self hlt] at hx'
        cases hx'
        trivial
      · rw [List.getElem?_set_ne (Ne.symm e1)] at hx'
        exact (hst.blk b' x hx').mono hx (by rw [upd_ne (by omega), upd_ne e1]) (by omega) (fun _ _ _ h => h) (fun _ _ _ _ => rfl)
    · subst h1
      rw [List.getElem?_append_right (by simp)] at hx'
      simp only [List.length_set, Nat.sub_self, List.getElem?_cons_zero, Option.some.injEq] at hx'
      subst hx'
      obtain ⟨B0, N0, c, e0, h1, h2, h3, h4, h5, h6⟩ := hb
      rw [hl] at h1
      cases h1
      refine ⟨B, N, c, e0, upd_same _ _ _, h2, h3, h4, h5, fun i x hi => ?_⟩
      obtain ⟨h7, h8⟩ := h6 i x hi
      refine ⟨h7, fun k y hk => ?_⟩
      obtain ⟨v, h9, h10, h11⟩ := h8 k y hk
      exact ⟨v, h9, h10.mono hx (by omega), h11⟩
    · rw [List.getElem?_eq_none (by simp; omega)] at hx'
      cases hx'
  · simp only [List.length_append, List.length_set, List.length_singleton] at h1 h2
    by_cases e1 : b1 = h.length
    · by_cases e2 : b2 = h.length
      · omega
      · obtain ⟨hne, c2⟩ := hold b2 B' e2 c2
        subst e1
        rw [upd_same] at c1
        cases c1
        exact absurd (hst.dist b2 b B (by omega) hlt c2 hc) hne
    · obtain ⟨hne, c1⟩ := hold b1 B' e1 c1
      by_cases e2 : b2 = h.length
      · subst e2
        rw [upd_same] at c2
        cases c2
        exact absurd (hst.dist b1 b B (by omega) hlt c1 hc) hne
      · obtain ⟨_, c2⟩ := hold b2 B' e2 c2
        exact hst.dist b1 b2 B' (by omega) (by omega) c1 c2
  · simp only [List.length_append, List.length_set, List.length_singleton] at h1
    by_cases e1 : b1 = h.length
    · subst e1
      rw [upd_same] at c1
      cases c1
      exact hst.lt b B hlt hc
    · obtain ⟨_, c1⟩ := hold b1 B' e1 c1
      exact hst.lt b1 B' (by omega) c1

end Go.Vm
