/- Slices that grow: new builders, growing in place, growing elsewhere. -/
import Derived.Test.YtggeifnbllfmbaaDoorVm9
set_option linter.unusedSimpArgs false
namespace Go.Vm
variable {P : Program} {sz : TypeId → Nat} {base : Nat} {w0 : World} {m nt : Nat} {F : Frz} {ρ : Env0} {env : Env} {a : Act} {w : World} {n : Nat} {tab : Tab} {h : List Blk}

/-- More cells of one block are frozen: those from lo on, below hi. -/
def addFrz (F : Frz) (B lo hi : Nat) (c : Array Value) : Frz := fun a => if a.block = B ∧ a.spot = none ∧ lo ≤ a.off ∧ a.off < hi then c[a.off]? else F a

theorem addFrz_in {B lo hi : Nat} {c : Array Value} {o : Nat} (h1 : lo ≤ o) (h2 : o < hi) : addFrz F B lo hi c ⟨B, o, none⟩ = c[o]? := by
  simp [addFrz, h1, h2]
theorem addFrz_other {B lo hi : Nat} {c : Array Value} {y : Addr} (h1 : y.block ≠ B) : addFrz F B lo hi c y = F y := by
  simp [addFrz, h1]

/-- The cells of elements, one behind the other. -/
def flatD (xs : List D) : List D := xs.flatMap D.cells

theorem flatD_get {s : Nat} : ∀ {xs : List D}, (∀ x ∈ xs, x.cells.length = s) → ∀ (i k : Nat) (x : D) (c : D), xs[i]? = some x → x.cells[k]? = some c → (flatD xs)[i * s + k]? = some c
  | [], _, i, k, x, c, hi, hk => by simp at hi
  | y :: xs, hl, i, k, x, c, hi, hk => by
    have hy := hl y (by simp)
    simp only [flatD, List.flatMap_cons]
    cases i with
    | zero =>
      simp only [List.getElem?_cons_zero, Option.some.injEq] at hi
      subst hi
      have hlt := (List.getElem?_eq_some_iff.mp hk).1
      rw [Nat.zero_mul, Nat.zero_add, List.getElem?_append_left hlt]
      exact hk
    | succ i =>
      simp only [List.getElem?_cons_succ] at hi
      rw [List.getElem?_append_right (by rw [hy, Nat.add_mul]; omega)]
      have := flatD_get (fun z hz => hl z (by simp [hz])) i k x c hi hk
      rw [show (i + 1) * s + k - y.cells.length = i * s + k from by rw [hy, Nat.add_mul]; omega]
      exact this

theorem flatD_length {s : Nat} : ∀ {xs : List D}, (∀ x ∈ xs, x.cells.length = s) → (flatD xs).length = xs.length * s
  | [], _ => by simp [flatD]
  | y :: xs, hl => by
    have := flatD_length (xs := xs) (fun z hz => hl z (by simp [hz]))
    simp only [flatD, List.flatMap_cons, List.length_append, List.length_cons] at this ⊢
    rw [hl y (by simp), Nat.add_mul]
    omega

/-- Which cell of which element is the j-th cell? -/
theorem flatD_back {s : Nat} : ∀ {xs : List D}, (∀ x ∈ xs, x.cells.length = s) → ∀ (j : Nat) (c : D), (flatD xs)[j]? = some c → ∃ i k x, xs[i]? = some x ∧ x.cells[k]? = some c ∧ j = i * s + k
  | [], _, j, c, h => by simp [flatD] at h
  | y :: xs, hl, j, c, h => by
    have hy := hl y (by simp)
    simp only [flatD, List.flatMap_cons] at h
    by_cases hj : j < y.cells.length
    · rw [List.getElem?_append_left hj] at h
      exact ⟨0, j, y, rfl, h, by omega⟩
    · rw [List.getElem?_append_right (by omega)] at h
      obtain ⟨i, k, x, h1, h2, h3⟩ := flatD_back (xs := xs) (fun z hz => hl z (by simp [hz])) _ _ h
      exact ⟨i + 1, k, x, by simpa using h1, h2, by rw [Nat.add_mul]; omega⟩

/-- The cells are represented, one by one. -/
def RowRep (sz : TypeId → Nat) (F : Frz) (cs : List D) (vs : List Value) : Prop := vs.length = cs.length ∧ ∀ (j : Nat) (c : D), cs[j]? = some c → ∃ v, vs[j]? = some v ∧ FRep sz F c v ∧ v.oneCell' = true

theorem RowRep.mono {F' : Frz} {cs : List D} {vs : List Value} (h : RowRep sz F cs vs) (hF : F.le F') : RowRep sz F' cs vs :=
  ⟨h.1, fun j c hc => by obtain ⟨v, h1, h2, h3⟩ := h.2 j c hc; exact ⟨v, h1, h2.mono hF, h3⟩⟩

theorem RowRep.append {cs ds : List D} {vs us : List Value} (h : RowRep sz F cs vs) (h' : RowRep sz F ds us) : RowRep sz F (cs ++ ds) (vs ++ us) := by
  refine ⟨by simp [h.1, h'.1], fun j c hc => ?_⟩
  by_cases hj : j < cs.length
  · rw [List.getElem?_append_left hj] at hc
    obtain ⟨v, h1, h2⟩ := h.2 j c hc
    exact ⟨v, by rw [List.getElem?_append_left (by rw [h.1]; exact hj)]; exact h1, h2⟩
  · rw [List.getElem?_append_right (by omega)] at hc
    obtain ⟨v, h1, h2⟩ := h'.2 _ c hc
    exact ⟨v, by rw [List.getElem?_append_right (by rw [h.1]; omega), h.1]; exact h1, h2⟩

theorem RowRep.one {cs : List D} {vs : List Value} (h : RowRep sz F cs vs) : ∀ v ∈ vs, v.oneCell' = true := by
  intro v hv
  obtain ⟨j, hj⟩ := List.getElem?_of_mem hv
  have hlt := (List.getElem?_eq_some_iff.mp hj).1
  obtain ⟨u, h1, _, h3⟩ := h.2 j (cs[j]'(by rw [← h.1]; exact hlt)) (List.getElem?_eq_getElem _)
  rw [hj] at h1; cases h1; exact h3

/-- A frozen row out of the cells of one block. -/
theorem FRep.of_row {e : TypeId} {xs : List D} {vs : List Value} {ad : Addr} {cap : Nat} (hl : ∀ x ∈ xs, x.cells.length = sz e) (hr : RowRep sz F (flatD xs) vs) (hs : ad.spot = none) (hc : xs.length ≤ cap)
    (hF : ∀ (j : Nat) (v : Value), vs[j]? = some v → F ⟨ad.block, ad.off + j, none⟩ = some v) : FRep sz F (.sl e xs) (.slice (some ad) xs.length cap) := by
  have key : ∀ (i : Nat) (x : D) (k : Nat) (c : D), xs[i]? = some x → x.cells[k]? = some c → ∃ v, vs[i * sz e + k]? = some v ∧ FRep sz F c v ∧ v.oneCell' = true := by
    intro i x k c hi hk
    exact hr.2 _ c (flatD_get hl i k x c hi hk)
  refine .sl e xs (some ad) ad cap (fun i k => vs.getD (i * sz e + k) .nilIface) (fun _ => ⟨rfl, hs⟩) hc (fun i x hi => hl x (List.mem_of_getElem? hi)) (fun i x k c hi hk => ?_) (fun i x k c hi hk => ?_) (fun i x k c hi hk => ?_)
  · obtain ⟨v, h1, _⟩ := key i x k c hi hk
    rw [hF _ v h1, List.getD, h1]; rfl
  · obtain ⟨v, h1, h2, _⟩ := key i x k c hi hk
    rw [List.getD, h1]; exact h2
  · obtain ⟨v, h1, _, h3⟩ := key i x k c hi hk
    rw [List.getD, h1]; exact h3

/-- A frozen row's cells. -/
theorem FRep.row {e : TypeId} {xs : List D} {A : Option Addr} {cap : Nat} (h : FRep sz F (.sl e xs) (.slice A xs.length cap)) :
    (∀ x ∈ xs, x.cells.length = sz e) ∧ ∃ vs, RowRep sz F (flatD xs) vs ∧ (xs ≠ [] → ∃ ad, A = some ad ∧ ad.spot = none ∧ ∀ (j : Nat) (v : Value), vs[j]? = some v → F ⟨ad.block, ad.off + j, none⟩ = some v) := by
  generalize hv : Value.slice A xs.length cap = v at h
  cases h with
  | sl _ _ A' ad cap' val hA hc hl hF hr ho =>
    simp only [Value.slice.injEq] at hv
    obtain ⟨rfl, _, _⟩ := hv
    have hl' : ∀ x ∈ xs, x.cells.length = sz e := fun x hx => by obtain ⟨i, hi⟩ := List.getElem?_of_mem hx; exact hl i x hi
    have hdm : ∀ (i k : Nat) (x c : D), xs[i]? = some x → x.cells[k]? = some c → (i * sz e + k) / sz e = i ∧ (i * sz e + k) % sz e = k := by
      intro i k x c h1 h2
      have hk : k < sz e := by have := (List.getElem?_eq_some_iff.mp h2).1; rw [hl i x h1] at this; exact this
      exact ⟨by rw [Nat.mul_comm, Nat.mul_add_div (by omega), Nat.div_eq_of_lt hk]; omega, by rw [Nat.mul_comm, Nat.mul_add_mod, Nat.mod_eq_of_lt hk]⟩
    refine ⟨hl', (List.range (flatD xs).length).map (fun j => val (j / sz e) (j % sz e)), ⟨by simp, fun j c hj => ?_⟩, fun hne => ?_⟩
    · obtain ⟨i, k, x, h1, h2, rfl⟩ := flatD_back hl' j c hj
      have hlt := (List.getElem?_eq_some_iff.mp hj).1
      obtain ⟨e1, e2⟩ := hdm i k x c h1 h2
      exact ⟨val i k, by simp [hlt, e1, e2], hr i x k c h1 h2, ho i x k c h1 h2⟩
    · obtain ⟨rfl, hs⟩ := hA hne
      refine ⟨ad, rfl, hs, fun j v hj => ?_⟩
      have hlt := (List.getElem?_eq_some_iff.mp hj).1
      simp only [List.length_map, List.length_range] at hlt
      obtain ⟨i, k, x, h1, h2, rfl⟩ := flatD_back hl' j _ (List.getElem?_eq_getElem hlt)
      obtain ⟨e1, e2⟩ := hdm i k x _ h1 h2
      have : v = val i k := by simpa [hlt, e1, e2] using hj.symm
      rw [this]
      exact hF i x k _ h1 h2

/-- A new builder: a new block, whose first cells are frozen. -/
theorem St.new_bld (hst : St sz base w0 F ρ h w) {e e0 : TypeId} {xs : List D} {vs : List Value} {cs : Array Value} {cap : Nat} (hl : ∀ x ∈ xs, x.cells.length = sz e) (hr : RowRep sz F (flatD xs) vs)
    (hcs : ∀ (j : Nat) (v : Value), vs[j]? = some v → cs[j]? = some v) (hcap : xs.length ≤ cap) (hsz : cap * sz e = cs.size) (he : e0 = e) :
    let v := Value.slice (some ⟨w.heap.size, 0, none⟩) xs.length cap
    let F' := addFrz F w.heap.size 0 (xs.length * sz e) cs
    let ρ' := upd ρ h.length (.bld v xs.length)
    Ext h.length F ρ F' ρ' ∧ St sz base w0 F' ρ' (h ++ [.tail e xs.length]) (w.alloc (.cells cs e0)) ∧ VRel sz F' ρ' (h.length + 1) (.bl h.length e xs) v := by
  intro v F' ρ'
  have hle : F.le F' := by
    intro y u hy
    have := frz_lt hst hy
    show addFrz F w.heap.size 0 (xs.length * sz e) cs y = some u
    rw [addFrz_other (by omega)]; exact hy
  have hx : Ext h.length F ρ F' ρ' := ⟨hle, fun b hb => by rw [show ρ' b = ρ b from upd_ne (by omega)]; exact Loc.ext_refl _⟩
  have hlen : vs.length = xs.length * sz e := by rw [hr.1, flatD_length hl]
  refine ⟨hx, ?_, ?_⟩
  · refine hst.push ?_ hle (fun y hy => addFrz_other (by omega)) (fun y u hy hyb => ?_) (fun y u hy => ?_) ?_
    · simp only [v, Loc.conc]
      by_cases hc : cap = 0
      · right; simp [hc]
      · left; simp [hc]
    · simp only [F', addFrz] at hy
      split at hy
      · rename_i hc
        cases y with | mk yb yo ys =>
        simp only at hc hyb ⊢
        obtain ⟨rfl, rfl, _, _⟩ := hc
        rw [World.cell?_alloc_new]; exact hy
      · have := frz_lt hst hy; omega
    · simp only [F', addFrz] at hy
      split at hy
      · rename_i hc; omega
      · have := frz_lt hst hy; omega
    · refine ⟨some ⟨w.heap.size, 0, none⟩, cap, upd_same _ _ _, hcap, fun hc => ⟨⟨w.heap.size, 0, none⟩, cs, e0, rfl, rfl, hst.hb, heap_new _ _, ⟨by simpa using hsz, rfl, he⟩, fun y hy hne => ?_⟩⟩
      simp only [F', addFrz] at hne
      split at hne
      · rename_i hc2; simp; omega
      · cases hF : F y with
        | none => exact absurd hF hne
        | some u => have := frz_lt hst hF; simp only at hy; omega
  · refine .bl (by omega) ?_ (upd_same _ _ _) (Nat.le_refl _) (fun _ => rfl)
    refine FRep.of_row hl (hr.mono hle) rfl hcap (fun j u hj => ?_)
    have hjl := (List.getElem?_eq_some_iff.mp hj).1
    simp only [Nat.zero_add]
    show addFrz F w.heap.size 0 (xs.length * sz e) cs ⟨w.heap.size, j, none⟩ = some u
    rw [addFrz_in (by omega) (by omega)]
    exact hcs j u hj

theorem bld_inv (hst : St sz base w0 F ρ h w) {b : Nat} {e : TypeId} {xs : List D} {cv : Value} (hb : h[b]? = some (.tail e xs.length)) (hv : VRel sz F ρ n (.bl b e xs) cv) :
    ∃ A cap, cv = .slice A xs.length cap ∧ xs.length ≤ cap ∧ ρ b = .bld (.slice A xs.length cap) xs.length ∧ FRep sz F (.sl e xs) (.slice A xs.length cap) ∧
      (cap ≠ 0 → ∃ ad c e0, A = some ad ∧ ad.spot = none ∧ base ≤ ad.block ∧ w.heap[ad.block]? = some (.cells c e0 (0, 0)) ∧ (ad.off + cap * sz e = c.size ∧ ad.off = 0 ∧ e0 = e) ∧ ∀ y, y.block = ad.block → F y ≠ none → y.off < ad.off + xs.length * sz e) := by
  obtain ⟨A, cap, h1, h2, h3⟩ := hst.blk b _ hb
  cases hv with
  | bl hbn hf hl hw hc =>
    rw [h1] at hl
    cases hl
    have := hc rfl
    subst this
    exact ⟨A, cap, rfl, h2, h1, hf, h3⟩

/-- A builder grows where it lies. -/
theorem St.grow (hst : St sz base w0 F ρ h w) {b : Nat} {e : TypeId} {xs ys : List D} {vs : List Value} {ad : Addr} {cap : Nat} {c : Array Value} {e0 : TypeId} (hb : h[b]? = some (.tail e xs.length))
    (hρ : ρ b = .bld (.slice (some ad) xs.length cap) xs.length) (hrep : FRep sz F (.sl e xs) (.slice (some ad) xs.length cap)) (hs : ad.spot = none) (hba : base ≤ ad.block) (hheap : w.heap[ad.block]? = some (.cells c e0 (0, 0)))
    (hsz' : ad.off + cap * sz e = c.size ∧ ad.off = 0 ∧ e0 = e) (hFB : ∀ y, y.block = ad.block → F y ≠ none → y.off < ad.off + xs.length * sz e)
    (hl : ∀ x ∈ ys, x.cells.length = sz e) (hr : RowRep sz F (flatD ys) vs) (hfit : xs.length + ys.length ≤ cap) (hne : ys ≠ []) :
    let c' := writeAll c (ad.off + xs.length * sz e) vs
    let v := Value.slice (some ad) (xs.length + ys.length) cap
    let F' := addFrz F ad.block (ad.off + xs.length * sz e) (ad.off + (xs.length + ys.length) * sz e) c'
    let ρ' := upd ρ b (.bld v (xs.length + ys.length))
    Ext h.length F ρ F' ρ' ∧ St sz base w0 F' ρ' (h.set b (.tail e (xs.length + ys.length))) (setBlk w ad.block (.cells c' e0 (0, 0))) ∧ VRel sz F' ρ' h.length (.bl b e (xs ++ ys)) v := by
  intro c' v F' ρ'
  have hsz := Nat.le_of_eq hsz'.1
  have hblt := (List.getElem?_eq_some_iff.mp hb).1
  have hlen : vs.length = ys.length * sz e := by rw [hr.1, flatD_length hl]
  have hmul : (xs.length + ys.length) * sz e ≤ cap * sz e := Nat.mul_le_mul_right _ hfit
  rw [Nat.add_mul] at hmul
  have hmul' : (xs.length + ys.length) * sz e = xs.length * sz e + ys.length * sz e := Nat.add_mul _ _ _
  have hsize : c'.size = c.size := writeAll_size _ _ _
  have hget : ∀ i, c'[i]? = if ad.off + xs.length * sz e ≤ i ∧ i < ad.off + xs.length * sz e + vs.length then vs[i - (ad.off + xs.length * sz e)]? else c[i]? := fun i => writeAll_get _ _ _ (by omega) i
  have hle : F.le F' := by
    intro y u hy
    show addFrz F ad.block _ _ c' y = some u
    unfold addFrz
    split
    · rename_i hc2
      have := hFB y hc2.1 (by rw [hy]; simp)
      omega
    · exact hy
  have hcpos : cap ≠ 0 := by
    have : ys.length ≠ 0 := by simpa using hne
    omega
  have hconc : (ρ b).conc = some ad.block := by rw [hρ]; simp [Loc.conc, hcpos]
  have hconc' : (ρ' b).conc = some ad.block := by rw [show ρ' b = _ from upd_same _ _ _]; simp [v, Loc.conc, hcpos]
  have hx : Ext h.length F ρ F' ρ' := by
    refine ⟨hle, fun b' hb' => ?_⟩
    by_cases e1 : b' = b
    · subst e1
      rw [hρ, show ρ' b' = _ from upd_same _ _ _]
      exact ⟨_, _, rfl, by omega, fun e => by have : ys.length ≠ 0 := by simpa using hne
                                              omega⟩
    · rw [show ρ' b' = ρ b' from upd_ne e1]; exact Loc.ext_refl _
  obtain ⟨hltB, heB⟩ := Array.getElem?_eq_some_iff.mp hheap
  have hcw : (setBlk w ad.block (.cells c' e0 (0, 0))).heap[ad.block]? = some (.cells c' e0 (0, 0)) := by rw [setBlk_get]; simp [hltB]
  refine ⟨hx, ⟨fun y u hy => ?_, fun b' x hb' => ?_, fun b1 b2 B h1 h2 c1 c2 => ?_, ⟨hst.old.1, fun r hr' => ?_⟩, by rw [setBlk_size]; exact hst.hb, fun b1 B h1 c1 => ?_⟩, ?_⟩
  · have hold : F y = some u → (setBlk w ad.block (.cells c' e0 (0, 0))).cell? y = some u := by
      intro hF
      by_cases e1 : y.block = ad.block
      · have h1 := hst.frz y u hF
        have h2 := hFB y e1 (by rw [hF]; simp)
        simp only [World.cell?, e1, hheap] at h1
        simp only [World.cell?, e1, hcw]
        split
        · rename_i hsp; rw [if_pos hsp] at h1; exact h1
        · rename_i hsp
          rw [if_neg hsp] at h1
          rw [hget, if_neg (by omega)]
          exact h1
      · rw [setBlk_cell e1]; exact hst.frz y u hF
    simp only [F', addFrz] at hy
    split at hy
    · rename_i hc2
      cases y with | mk yb yo ys' =>
      simp only at hc2 ⊢ hy
      obtain ⟨rfl, rfl, _, _⟩ := hc2
      simp only [World.cell?, hcw]
      simpa using hy
    · exact hold hy
  · rw [List.length_set]
    by_cases e1 : b' = b
    · subst e1
      rw [List.getElem?_set_self hblt] at hb'
      cases hb'
      refine ⟨some ad, cap, upd_same _ _ _, hfit, fun _ => ⟨ad, c', e0, rfl, hs, hba, hcw, by rw [hsize]; exact hsz', fun y hy hne' => ?_⟩⟩
      simp only [F', addFrz] at hne'
      split at hne'
      · rename_i hc2; exact hc2.2.2.2
      · have := hFB y hy hne'; omega
    · rw [List.getElem?_set_ne (Ne.symm e1)] at hb'
      have hlt' := (List.getElem?_eq_some_iff.mp hb').1
      have hneB : ∀ r, (ρ b').conc = some r → r ≠ ad.block := fun r hr' e => e1 (hst.dist b' b ad.block hlt' hblt (by rw [hr', e]) hconc)
      exact (hst.blk b' x hb').mono hx (upd_ne e1) (Nat.le_refl _) (fun r o hr' ho => by rw [setBlk_get, if_neg (hneB r hr')]; exact ho) (fun r hr' y hy => addFrz_other (by rw [hy]; exact hneB r hr'))
  · rw [List.length_set] at h1 h2
    have tr : ∀ b3, (ρ' b3).conc = some B → (ρ b3).conc = some B := by
      intro b3 h3
      by_cases e1 : b3 = b
      · subst e1; rw [hconc'] at h3; rw [hconc]; exact h3
      · rw [show ρ' b3 = ρ b3 from upd_ne e1] at h3; exact h3
    exact hst.dist b1 b2 B h1 h2 (tr _ c1) (tr _ c2)
  · rw [setBlk_get, if_neg (by omega)]; exact hst.old.2 r hr'
  · rw [List.length_set] at h1
    rw [setBlk_size]
    by_cases e1 : b1 = b
    · subst e1; rw [hconc'] at c1; cases c1; exact hltB
    · rw [show ρ' b1 = ρ b1 from upd_ne e1] at c1; exact hst.lt b1 B h1 c1
  · obtain ⟨hlx, vx, hrx, hFx⟩ := hrep.row
    refine .bl hblt ?_ (upd_same _ _ _) (by simp) (fun _ => rfl)
    have hall : ∀ x ∈ xs ++ ys, x.cells.length = sz e := fun x hx' => by rcases List.mem_append.mp hx' with h | h; exact hlx x h; exact hl x h
    have hflat : flatD (xs ++ ys) = flatD xs ++ flatD ys := by simp [flatD]
    have hvx : vx.length = xs.length * sz e := by rw [hrx.1, flatD_length hlx]
    have := FRep.of_row (sz := sz) (F := F') (e := e) (xs := xs ++ ys) (vs := vx ++ vs) (ad := ad) (cap := cap) hall (by rw [hflat]; exact (hrx.mono hle).append (hr.mono hle)) hs (by simpa using hfit) (fun j u hj => ?_)
    · simpa [v] using this
    · by_cases hj1 : j < vx.length
      · rw [List.getElem?_append_left hj1] at hj
        have hxne : xs ≠ [] := by
          intro e1
          subst e1
          have : vx.length = 0 := by rw [hvx]; simp
          omega
        obtain ⟨ad', ha1, _, ha2⟩ := hFx hxne
        cases ha1
        exact hle _ _ (ha2 j u hj)
      · rw [List.getElem?_append_right (by omega)] at hj
        have hjl := (List.getElem?_eq_some_iff.mp hj).1
        show addFrz F ad.block _ _ c' ⟨ad.block, ad.off + j, none⟩ = some u
        rw [addFrz_in (by omega) (by omega), hget, if_pos (by omega), ← hj]
        congr 1; omega

/-- A builder grows elsewhere: a new block takes its place. -/
theorem St.regrow (hst : St sz base w0 F ρ h w) {b : Nat} {e e0 : TypeId} {zs : List D} {vs : List Value} {cs : Array Value} {cap hw : Nat} {v0 : Value} (hb : h[b]? = some (.tail e hw)) (hρ : ρ b = .bld v0 hw)
    (hl : ∀ x ∈ zs, x.cells.length = sz e) (hr : RowRep sz F (flatD zs) vs) (hcs : ∀ (j : Nat) (v : Value), vs[j]? = some v → cs[j]? = some v) (hcap : zs.length ≤ cap) (hsz : cap * sz e = cs.size) (he : e0 = e) (hgt : hw < zs.length) :
    let v := Value.slice (some ⟨w.heap.size, 0, none⟩) zs.length cap
    let F' := addFrz F w.heap.size 0 (zs.length * sz e) cs
    let ρ' := upd ρ b (.bld v zs.length)
    Ext h.length F ρ F' ρ' ∧ St sz base w0 F' ρ' (h.set b (.tail e zs.length)) (w.alloc (.cells cs e0)) ∧ VRel sz F' ρ' h.length (.bl b e zs) v := by
  intro v F' ρ'
  have hblt := (List.getElem?_eq_some_iff.mp hb).1
  have hlen : vs.length = zs.length * sz e := by rw [hr.1, flatD_length hl]
  have hle : F.le F' := by
    intro y u hy
    have := frz_lt hst hy
    show addFrz F w.heap.size 0 (zs.length * sz e) cs y = some u
    rw [addFrz_other (by omega)]; exact hy
  have hcpos : cap ≠ 0 := by omega
  have hconc' : (ρ' b).conc = some w.heap.size := by rw [show ρ' b = _ from upd_same _ _ _]; simp [v, Loc.conc, hcpos]
  have hx : Ext h.length F ρ F' ρ' := by
    refine ⟨hle, fun b' hb' => ?_⟩
    by_cases e1 : b' = b
    · subst e1
      rw [hρ, show ρ' b' = _ from upd_same _ _ _]
      exact ⟨_, _, rfl, by omega, fun e => by omega⟩
    · rw [show ρ' b' = ρ b' from upd_ne e1]; exact Loc.ext_refl _
  refine ⟨hx, ⟨fun y u hy => ?_, fun b' x hb' => ?_, fun b1 b2 B h1 h2 c1 c2 => ?_, ⟨hst.old.1, fun r hr' => ?_⟩, by have := hst.hb; simp; omega, fun b1 B h1 c1 => ?_⟩, ?_⟩
  · simp only [F', addFrz] at hy
    split at hy
    · rename_i hc2
      cases y with | mk yb yo ys' =>
      simp only at hc2 ⊢ hy
      obtain ⟨rfl, rfl, _, _⟩ := hc2
      rw [World.cell?_alloc_new]; exact hy
    · exact cell_push (hst.frz y u hy)
  · rw [List.length_set]
    by_cases e1 : b' = b
    · subst e1
      rw [List.getElem?_set_self hblt] at hb'
      cases hb'
      refine ⟨some ⟨w.heap.size, 0, none⟩, cap, upd_same _ _ _, hcap, fun hc => ⟨⟨w.heap.size, 0, none⟩, cs, e0, rfl, rfl, hst.hb, heap_new _ _, ⟨by simpa using hsz, rfl, he⟩, fun y hy hne => ?_⟩⟩
      simp only [F', addFrz] at hne
      split at hne
      · rename_i hc2; simp; omega
      · cases hF : F y with
        | none => exact absurd hF hne
        | some u => have := frz_lt hst hF; simp only at hy; omega
    · rw [List.getElem?_set_ne (Ne.symm e1)] at hb'
      have hlt' := (List.getElem?_eq_some_iff.mp hb').1
      refine (hst.blk b' x hb').mono hx (upd_ne e1) (Nat.le_refl _) (fun r o hr' ho => heap_push ho) (fun r hr' y hy => addFrz_other ?_)
      have := hst.lt b' r hlt' hr'
      omega
  · rw [List.length_set] at h1 h2
    by_cases e1 : b1 = b <;> by_cases e2 : b2 = b
    · omega
    · subst e1
      rw [hconc'] at c1; cases c1
      rw [show ρ' b2 = ρ b2 from upd_ne e2] at c2
      have := hst.lt b2 _ h2 c2; omega
    · subst e2
      rw [hconc'] at c2; cases c2
      rw [show ρ' b1 = ρ b1 from upd_ne e1] at c1
      have := hst.lt b1 _ h1 c1; omega
    · rw [show ρ' b1 = ρ b1 from upd_ne e1] at c1
      rw [show ρ' b2 = ρ b2 from upd_ne e2] at c2
      exact hst.dist b1 b2 B h1 h2 c1 c2
  · rw [← hst.old.2 r hr']
    have := hst.hb
    simp only [World.alloc, Array.getElem?_push]
    rw [if_neg (by omega)]
  · rw [List.length_set] at h1
    simp only [World.size_alloc]
    by_cases e1 : b1 = b
    · subst e1; rw [hconc'] at c1; cases c1; omega
    · rw [show ρ' b1 = ρ b1 from upd_ne e1] at c1
      have := hst.lt b1 B h1 c1; omega
  · refine .bl hblt ?_ (upd_same _ _ _) (Nat.le_refl _) (fun _ => rfl)
    refine FRep.of_row hl (hr.mono hle) rfl hcap (fun j u hj => ?_)
    have hjl := (List.getElem?_eq_some_iff.mp hj).1
    simp only [Nat.zero_add]
    show addFrz F w.heap.size 0 (zs.length * sz e) cs ⟨w.heap.size, j, none⟩ = some u
    rw [addFrz_in (by omega) (by omega)]
    exact hcs j u hj

end Go.Vm
