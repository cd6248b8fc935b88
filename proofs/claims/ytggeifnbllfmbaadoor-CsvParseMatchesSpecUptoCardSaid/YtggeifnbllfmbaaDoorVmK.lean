/- A call of a function that only reads, with rows that may be written handed as data. -/
import Derived.Test.YtggeifnbllfmbaaDoorVmX
set_option linter.unusedSimpArgs false
namespace Go.Vm
variable {P : Program} {base : Nat} {w0 : World} {F : Frz} {ρ : Env0} {w w' : World} {n : Nat} {sz : TypeId → Nat} {h : List Blk}

theorem St.below (hst : St sz base w0 F ρ h w) (hio : w'.os = w.os ∧ w'.tape = w.tape ∧ w'.output = w.output) (hs : w.heap.size ≤ w'.heap.size) (hb : ∀ r, r < w.heap.size → w'.heap[r]? = w.heap[r]?) : St sz base w0 F ρ h w' := by
  have hh : ∀ (r : Nat) (o : Obj), w.heap[r]? = some o → w'.heap[r]? = some o := fun r o h => by
    rw [hb r (Array.getElem?_eq_some_iff.mp h).1]; exact h
  refine ⟨fun a v ha => ?_, fun b x hx => (hst.blk b x hx).mono (Ext.refl _ _ _) rfl (Nat.le_refl _) (fun r o _ h => hh r o h) (fun _ _ _ _ => rfl), hst.dist,
    ⟨⟨⟨hio.1.trans hst.old.1.1.1, hio.2.1.trans hst.old.1.1.2.1, hio.2.2.trans hst.old.1.1.2.2⟩, hst.old.1.2⟩, fun r hr => ?_⟩, Nat.le_trans hst.hb hs, fun b B h1 h2 => Nat.lt_of_lt_of_le (hst.lt b B h1 h2) hs⟩
  · have h1 := hst.frz a v ha
    have hlt := frz_lt hst ha
    unfold World.cell? at h1 ⊢
    rw [hb _ hlt]; exact h1
  · rw [hb r (by have := hst.hb; omega)]
    exact hst.old.2 r hr

/-- Data that lies in no memory. -/
def D.flat : D → Bool
  | .bool _ | .int _ _ | .str _ => true
  | _ => false

theorem flat_rep {F' : Frz} {x : D} {v : Value} (hx : x.flat = true) (h : FRep sz F x v) : FRep sz F' x v := by
  cases h <;> first | exact .bool _ | exact .int _ _ | exact .str _ | (simp [D.flat] at hx)

/-- What an argument is, as data. -/
inductive AsData (h : List Blk) : AV → D → Prop
  | d (x : D) : AsData h (.d x) x
  | ref {b : Nat} {e : TypeId} {ds : List D} {off len : Nat} (hb : h[b]? = some (.cells e (ds.map AV.d))) (hl : off + len ≤ ds.length) : AsData h (.ref b e off len) (.sl e ((ds.drop off).take len))

theorem AsData.rep {x : AV} {d : D} {v : Value} (ha : AsData h x d) (hst : St sz base w0 F ρ h w) (hv : VRel sz F ρ n x v) : FRep sz w.cell? d v := by
  cases ha with
  | d x => exact hv.d_inv.mono hst.frz
  | ref hb hl =>
    obtain ⟨F', h1, h2, h3⟩ := hst.freeze hb
    exact (h3 hv hl).mono h2.frz

inductive AsDatas (h : List Blk) : List AV → List D → Prop
  | nil : AsDatas h [] []
  | cons {x : AV} {d : D} {xs : List AV} {ds : List D} (h1 : AsData h x d) (h2 : AsDatas h xs ds) : AsDatas h (x :: xs) (d :: ds)

theorem AsDatas.get {xs : List AV} {ds : List D} (ha : AsDatas h xs ds) : xs.length = ds.length ∧ ∀ (i : Nat) (d : D), ds[i]? = some d → ∃ x, xs[i]? = some x ∧ AsData h x d := by
  induction ha with
  | nil => exact ⟨rfl, by simp⟩
  | cons h1 h2 ih =>
    refine ⟨by simp [ih.1], fun i d hd => ?_⟩
    cases i with
    | zero => simp at hd; subst hd; exact ⟨_, rfl, h1⟩
    | succ i => simpa using ih.2 i d (by simpa using hd)

theorem CallP.framed {f : FuncId} {args : List AV} {ds : List D} {r : D} (hc : CallP P f (ds.map AV.d) [] (.d r)) (hr : r.flat = true) (ha : AsDatas h args ds) : CallP P f args h (.d r) := by
  refine ⟨hc.1, fun base w0 F ρ w vs hst hargs => ?_⟩
  have hst0 : St (psz P) w.heap.size w w.cell? (fun _ => .dead) [] w :=
    ⟨fun a v h => h, fun b x h => by simp at h, fun b b' B h => by simp at h, ⟨⟨⟨rfl, rfl, rfl⟩, hst.old.1.2.mono hst.hb hst.old.2⟩, fun _ _ => rfl⟩, Nat.le_refl _, fun b B h => by simp at h⟩
  obtain ⟨h1, h2⟩ := ha.get
  refine (hc.2 w.heap.size w w.cell? (fun _ => .dead) w vs hst0 ⟨by rw [List.length_map, ← h1]; exact hargs.1, fun i x hx => ?_⟩).mono ?_
  · simp only [List.getElem?_map, Option.map_eq_some_iff] at hx
    obtain ⟨d, hd, rfl⟩ := hx
    obtain ⟨y, hy, had⟩ := h2 i d hd
    obtain ⟨v, hv, hvr⟩ := hargs.2 i y hy
    exact ⟨v, hv, .d (had.rep hst hvr)⟩
  · rintro e w' ⟨v, x, h', F', ρ', rfl, hx, hst', hv, hl, rfl, rfl⟩
    exact ⟨v, _, h, F, ρ, rfl, Ext.refl _ _ _, hst.below hst'.old.1.1 hst'.hb hst'.old.2, .d (flat_rep hr hv.d_inv), Nat.le_refl _, rfl, rfl⟩

end Go.Vm
