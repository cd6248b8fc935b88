/- Soundness of loads, fields, indices and slice expressions. -/
import Derived.Test.YtggeifnbllfmbaaDoorVm3
set_option linter.unusedSimpArgs false
namespace Go.Vm
variable {P : Program} {sz : TypeId → Nat} {base : Nat} {w0 : World} {m nt : Nat} {F : Frz} {ρ : Env0} {env : Env} {a : Act} {w : World} {n : Nat}

theorem add_none (B o k : Nat) : (Addr.add ⟨B, o, none⟩ k) = ⟨B, o + k, none⟩ := by
  unfold Addr.add
  by_cases h : k = 0 <;> simp [h]

theorem add_spot {ad : Addr} (h : ad.spot = none) (k : Nat) : ad.add k = ⟨ad.block, ad.off + k, none⟩ := by
  cases ad with | mk b o s => cases h; exact add_none b o k

/-- Reading consecutive cells. -/
theorem loadCellsFrom_run {ad : Addr} (hs : ad.spot = none) (val : Nat → Value) : ∀ (k i : Nat) (acc : Array Value),
    (∀ j, j < k → w.cell? ⟨ad.block, ad.off + (i + j), none⟩ = some (val (i + j))) →
    (loadCellsFrom ad i k acc).run P w = .ok (acc ++ ((List.range k).map fun j => val (i + j)).toArray) w
  | 0, i, acc, _ => by simp [loadCellsFrom]
  | k + 1, i, acc, h => by
    have h0 := h 0 (by omega)
    simp only [Nat.add_zero] at h0
    simp only [loadCellsFrom, Sem.run_bind, run_load, add_spot hs, h0, Result.andThen_ok]
    rw [loadCellsFrom_run hs val k (i + 1) _ (fun j hj => by have := h (j + 1) (by omega); rw [show i + 1 + j = i + (j + 1) from by omega]; exact this)]
    congr 1
    rw [List.range_succ_eq_map]
    simp [Function.comp_def, Nat.add_assoc, Nat.add_comm 1]

theorem loadCells_run {ad : Addr} (hs : ad.spot = none) (val : Nat → Value) (k : Nat)
    (h : ∀ j, j < k → w.cell? ⟨ad.block, ad.off + j, none⟩ = some (val j)) :
    (loadCells ad k).run P w = .ok ((List.range k).map val).toArray w := by
  unfold loadCells
  rw [loadCellsFrom_run hs val k 0 #[] (fun j hj => by simpa using h j hj)]
  simp

theorem loadVar_agg {t : TypeId} {ti : TI} (hg : ti.Good P t) (hagg : ti.agg = true) {ad : Addr} (hs : ad.spot = none) (val : Nat → Value)
    (h : ∀ j, j < ti.size → w.cell? ⟨ad.block, ad.off + j, none⟩ = some (val j)) :
    (loadVar t ad).run P w = .ok (.agg ((List.range ti.size).map val).toArray) w := by
  simp only [loadVar, Sem.run_bind, hg.run_isAgg, Result.andThen_ok, hagg, if_true, hg.run_sizeOf, loadCells_run hs val _ h, Sem.run_pure]

theorem loadVar_one {t : TypeId} {ti : TI} (hg : ti.Good P t) (hagg : ti.agg = false) {ad : Addr} {v : Value}
    (h : w.cell? ad = some v) : (loadVar t ad).run P w = .ok v w := by
  simp only [loadVar, Sem.run_bind, hg.run_isAgg, Result.andThen_ok, hagg, run_load, h, Bool.false_eq_true, if_false]

theorem cells_agg (cs : List D) : (D.agg cs).cells = cs := rfl

theorem D.cells_pos (x : D) (h : ∀ cs, x ≠ .agg cs) : x.cells = [x] := by
  cases x <;> first | rfl | exact absurd rfl (h _)

/-- Some cells of a frozen row: as data. -/
theorem sub_rep {e : TypeId} {xs : List D} {cap : Nat} {ad : Addr} (h : FRep sz F (.sl e xs) (.slice (some ad) xs.length cap)) {i off k : Nat} (hi : i < xs.length)
    (hk : off + k ≤ sz e) : ad.spot = none ∧ ∃ val : Nat → Value, (∀ j, j < k → F ⟨ad.block, ad.off + (i * sz e + off) + j, none⟩ = some (val j)) ∧
      ∀ j, j < k → ∃ c, (xs.getD i .nilptr).cells[off + j]? = some c ∧ FRep sz F c (val j) := by
  generalize hv : Value.slice (some ad) xs.length cap = v at h
  cases h with
  | sl _ _ A ad' cap' val hA hc hl hF hr ho =>
    simp only [Value.slice.injEq] at hv
    obtain ⟨hA', _, _⟩ := hv
    have hne : xs ≠ [] := by intro h0; simp [h0] at hi
    obtain ⟨h1, h2⟩ := hA hne
    rw [← hA'] at h1
    cases h1
    have hx : xs[i]? = some (xs.getD i .nilptr) := by simp [List.getD, List.getElem?_eq_getElem hi]
    have hlen := hl i _ hx
    refine ⟨h2, fun j => val i (off + j), fun j hj => ?_, fun j hj => ?_⟩
    · have hc' : (xs.getD i .nilptr).cells[off + j]? = some ((xs.getD i .nilptr).cells[off + j]'(by omega)) := List.getElem?_eq_getElem _
      have := hF i _ (off + j) _ hx hc'
      rw [show ad.off + (i * sz e + off) + j = ad.off + (i * sz e + (off + j)) from by omega]
      exact this
    · have hc' : (xs.getD i .nilptr).cells[off + j]? = some ((xs.getD i .nilptr).cells[off + j]'(by omega)) := List.getElem?_eq_getElem _
      exact ⟨_, hc', hr i _ (off + j) _ hx hc'⟩

theorem headD_drop {α : Type} (l : List α) (k : Nat) (d : α) : (l.drop k).headD d = l.getD k d := by
  induction l generalizing k with
  | nil => simp
  | cons x l ih => cases k with
    | zero => rfl
    | succ k => simp

theorem ptr_eq (e : TypeId) (ad : Addr) (i off : Nat) : ad.off + (i * sz e + off) = ad.off + (i * sz e + off) := rfl

theorem load_fp (hT : ∀ (a : Addr) (v : Value), F a = some v → w.cell? a = some v) {t : TypeId} {ti : TI} (hg : ti.Good P t)
    {e : TypeId} {xs : List D} {i off : Nat} {cv : Value} (hv : VRel sz F ρ n (.fp e xs i off) cv) (hk : off + ti.size ≤ sz e) :
    Gives P sz F ρ n w (Instr.loadAt t cv) (.d (subD ti.agg ti.size off (xs.getD i .nilptr))) := by
  cases hv with
  | @fp _ _ _ _ cap ad h hi =>
    obtain ⟨hs, val, hF, hr⟩ := sub_rep h hi hk
    cases hagg : ti.agg with
    | true =>
      refine ⟨.agg ((List.range ti.size).map val).toArray, ?_, .d ?_⟩
      · simp only [Instr.loadAt, Instr.sureAddr, pure_bind]
        exact loadVar_agg hg hagg rfl val (fun j hj => hT _ _ (hF j hj))
      · simp only [subD, if_true]
        have hlen : (((xs.getD i .nilptr).cells.drop off).take ti.size).length = ti.size := by
          simp only [List.length_take, List.length_drop]
          rcases Nat.eq_zero_or_pos ti.size with h0 | h0
          · omega
          · obtain ⟨c, hc, _⟩ := hr (ti.size - 1) (by omega)
            have := (List.getElem?_eq_some_iff.mp hc).1
            omega
        refine .agg _ _ (by rw [hlen]; simp) val (fun k c hk' => ?_) (fun k c hk' => ?_)
        · have hkl := (List.getElem?_eq_some_iff.mp hk').1
          rw [hlen] at hkl
          simp [hkl]
        · have hkl := (List.getElem?_eq_some_iff.mp hk').1
          rw [hlen] at hkl
          obtain ⟨c', hc', hr'⟩ := hr k hkl
          rw [List.getElem?_take_of_lt hkl, List.getElem?_drop, hc'] at hk'
          cases hk'
          exact hr'
    | false =>
      have h1' := hg.one hagg
      obtain ⟨c, hc, hr'⟩ := hr 0 (by omega)
      refine ⟨val 0, ?_, .d ?_⟩
      · simp only [Instr.loadAt, Instr.sureAddr, pure_bind]
        exact loadVar_one hg hagg (hT _ _ (by simpa using hF 0 (by omega)))
      · simp only [subD, Bool.false_eq_true, if_false, headD_drop]
        rw [List.getD, show (xs.getD i .nilptr).cells[off]? = some c from by simpa using hc]
        exact hr'

theorem AV.allD_some : ∀ {cs : List AV} {ds : List D}, AV.allD cs = some ds → cs = ds.map AV.d
  | [], ds, h => by simp [AV.allD] at h; simp [h]
  | .d x :: r, ds, h => by
    simp only [AV.allD, Option.map_eq_some_iff] at h
    obtain ⟨ds', h', rfl⟩ := h
    simp [AV.allD_some h']
  | .bl _ _ _ :: _, _, h | .ref _ _ _ _ :: _, _, h | .z0 _ :: _, _, h | .fp _ _ _ _ :: _, _, h | .ptr _ _ _ _ :: _, _, h | .agg _ :: _, _, h
  | .tup _ :: _, _, h | .clo _ _ :: _, _, h | .map _ :: _, _, h | .iter _ :: _, _, h | .gr _ _ _ :: _, _, h | .pb _ :: _, _, h | .unk :: _, _, h => by simp [AV.allD] at h

theorem VRel.d_inv {x : D} {v : Value} (h : VRel sz F ρ n (.d x) v) : FRep sz F x v := by cases h with | d h => exact h

/-- A struct's value, out of its cells. -/
theorem pack_rel {cs : List AV} {vs : Array Value} (hs : vs.size = cs.length) (val : Nat → Value) (hv : ∀ k c, cs[k]? = some c → vs[k]? = some (val k))
    (hr : ∀ k c, cs[k]? = some c → VRel sz F ρ n c (val k)) : VRel sz F ρ n (AV.pack cs) (.agg vs) := by
  unfold AV.pack
  cases h : AV.allD cs with
  | none => exact .agg cs vs hs val hv hr
  | some ds =>
    have := AV.allD_some h
    subst this
    refine .d (.agg ds vs (by simpa using hs) val (fun k c hc => hv k (.d c) (by simp [hc])) (fun k c hc => (hr k (.d c) (by simp [hc])).d_inv))

/-- Some cells of an element of a mutable block. -/
theorem sub_mut (hst : St sz base w0 F ρ env.h w) {b : Nat} {e : TypeId} {xs : List AV} {B : Nat} (hb : env.h[b]? = some (.cells e xs))
    (hl : ∃ N, ρ b = .mt B N)
    {i off k : Nat} (hi : i < xs.length) (hk : off + k ≤ sz e) : ∃ val : Nat → Value, (∀ j, j < k → w.cell? ⟨B, (i * sz e + off) + j, none⟩ = some (val j)) ∧
      (xs.getD i .unk).cells.length = sz e ∧ ∀ j, j < k → ∃ c, (xs.getD i .unk).cells[off + j]? = some c ∧ VRel sz F ρ env.h.length c (val j) := by
  obtain ⟨B', N, c, e0, h1, h2, h3, h4, h5, h6⟩ := hst.blk b _ hb
  obtain ⟨N', hl⟩ := hl
  rw [hl] at h1
  cases h1
  have hx : xs[i]? = some (xs.getD i .unk) := by simp [List.getD, List.getElem?_eq_getElem hi]
  obtain ⟨hlen, hcs⟩ := h6 i _ hx
  have hall : ∀ j, ∃ v, j < k → c[i * sz e + (off + j)]? = some v ∧ ∃ y, (xs.getD i .unk).cells[off + j]? = some y ∧ VRel sz F ρ env.h.length y v := by
    intro j
    by_cases hj : j < k
    · have hc' : (xs.getD i .unk).cells[off + j]? = some ((xs.getD i .unk).cells[off + j]'(by omega)) := List.getElem?_eq_getElem _
      obtain ⟨v, hv, hr, _⟩ := hcs (off + j) _ hc'
      exact ⟨v, fun _ => ⟨hv, _, hc', hr⟩⟩
    · exact ⟨.nilIface, fun h => absurd h hj⟩
  refine ⟨fun j => (hall j).choose, fun j hj => ?_, hlen, fun j hj => ?_⟩
  · have := ((hall j).choose_spec hj).1
    simp only [World.cell?, h3]
    rw [Nat.add_assoc]
    simpa using this
  · obtain ⟨y, hy, hr⟩ := ((hall j).choose_spec hj).2
    exact ⟨y, hy, hr⟩

theorem subD_rel {x : D} {agg : Bool} {size off : Nat} {val : Nat → Value} (h1 : agg = false → size = 1) (hsz : off + size ≤ x.cells.length)
    (hr : ∀ j, j < size → ∃ c, x.cells[off + j]? = some c ∧ FRep sz F c (val j)) :
    FRep sz F (subD agg size off x) (if agg then .agg ((List.range size).map val).toArray else val 0) := by
  cases agg with
  | true =>
    simp only [subD, if_true]
    have hlen : ((x.cells.drop off).take size).length = size := by simp only [List.length_take, List.length_drop]; omega
    refine .agg _ _ (by rw [hlen]; simp) val (fun k c hk' => ?_) (fun k c hk' => ?_)
    · have hkl := (List.getElem?_eq_some_iff.mp hk').1
      rw [hlen] at hkl
      simp [hkl]
    · have hkl := (List.getElem?_eq_some_iff.mp hk').1
      rw [hlen] at hkl
      obtain ⟨c', hc', hr'⟩ := hr k hkl
      rw [List.getElem?_take_of_lt hkl, List.getElem?_drop, hc'] at hk'
      cases hk'
      exact hr'
  | false =>
    have := h1 rfl
    obtain ⟨c, hc, hr'⟩ := hr 0 (by omega)
    simp only [subD, Bool.false_eq_true, if_false, headD_drop]
    rw [List.getD, show x.cells[off]? = some c from by simpa using hc]
    exact hr'

theorem subAV_rel {x : AV} {agg : Bool} {size off : Nat} {val : Nat → Value} (h1 : agg = false → size = 1) (hsz : off + size ≤ x.cells.length)
    (hr : ∀ j, j < size → ∃ c, x.cells[off + j]? = some c ∧ VRel sz F ρ n c (val j)) :
    VRel sz F ρ n (subAV agg size off x) (if agg then .agg ((List.range size).map val).toArray else val 0) := by
  have main : ∀ y : AV, y.cells = x.cells → VRel sz F ρ n (if agg then AV.pack ((y.cells.drop off).take size) else (y.cells.drop off).headD .unk) (if agg then .agg ((List.range size).map val).toArray else val 0) := by
    intro y hy
    rw [hy]
    cases agg with
    | true =>
      simp only [if_true]
      have hlen : ((x.cells.drop off).take size).length = size := by simp only [List.length_take, List.length_drop]; omega
      refine pack_rel (by rw [hlen]; simp) val (fun k c hk' => ?_) (fun k c hk' => ?_)
      · have hkl := (List.getElem?_eq_some_iff.mp hk').1
        rw [hlen] at hkl
        simp [hkl]
      · have hkl := (List.getElem?_eq_some_iff.mp hk').1
        rw [hlen] at hkl
        obtain ⟨c', hc', hr'⟩ := hr k hkl
        rw [List.getElem?_take_of_lt hkl, List.getElem?_drop, hc'] at hk'
        cases hk'
        exact hr'
    | false =>
      have := h1 rfl
      obtain ⟨c, hc, hr'⟩ := hr 0 (by omega)
      simp only [Bool.false_eq_true, if_false, headD_drop]
      rw [List.getD, show x.cells[off]? = some c from by simpa using hc]
      exact hr'
  cases x with
  | d x =>
    refine .d (subD_rel h1 (by simpa [AV.cells] using hsz) (fun j hj => ?_))
    obtain ⟨c, hc, hr'⟩ := hr j hj
    simp only [AV.cells, List.getElem?_map, Option.map_eq_some_iff] at hc
    obtain ⟨c', hc', rfl⟩ := hc
    exact ⟨c', hc', hr'.d_inv⟩
  | _ => exact main _ rfl

theorem load_ptr (hst : St sz base w0 F ρ env.h w) {t : TypeId} {ti : TI} (hg : ti.Good P t)
    {e : TypeId} {b : Nat} {xs : List AV} {i off : Nat} {cv : Value} (hv : VRel sz F ρ n (.ptr b e i off) cv) (hb : env.h[b]? = some (.cells e xs)) (hi : i < xs.length)
    (hk : off + ti.size ≤ sz e) :
    Gives P sz F ρ env.h.length w (Instr.loadAt t cv) (subAV ti.agg ti.size off (xs.getD i .unk)) := by
  cases hv with
  | ptr hbn hl =>
    obtain ⟨B, N, c, e0, h1, _⟩ := hst.blk b _ hb
    have := hl _ _ h1
    subst this
    obtain ⟨val, hF, hlen, hr⟩ := sub_mut hst hb ⟨N, h1⟩ hi hk
    refine ⟨_, ?_, subAV_rel hg.one (by omega) hr⟩
    cases hagg : ti.agg with
    | true =>
      simp only [Instr.loadAt, Instr.sureAddr, pure_bind, if_true]
      exact loadVar_agg hg hagg rfl val hF
    | false =>
      simp only [Instr.loadAt, Instr.sureAddr, pure_bind, Bool.false_eq_true, if_false]
      exact loadVar_one hg hagg (by simpa using hF 0 (by have := hg.one hagg; omega))

end Go.Vm
