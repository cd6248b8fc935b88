/- Calls in states that are seen otherwise. -/
import Derived.Test.YtkmeiandnebaeaaGreatDoorVmV
set_option linter.unusedSimpArgs false
namespace Go.Vm
variable {P : Program}

theorem look_argsOf {args : List AV} {k i : Nat} {v : AV} (h : args[i]? = some v) : look (argSlots k args) (k + i) = some v := by
  induction args generalizing k i with
  | nil => simp at h
  | cons x r ih =>
    cases i with
    | zero => simp at h; subst h; simp [argSlots, look]
    | succ i =>
      simp only [List.getElem?_cons_succ] at h
      simp only [argSlots, look]
      rw [if_neg (by omega), show k + (i + 1) = k + 1 + i from by omega]
      exact ih h

/-- A call may be seen with other blocks, if these say less or name more. -/
theorem CallW.shift {f : FuncId} {args : List AV} {h h' : List Blk} {Q : AV → List Blk → Prop} (hs : ∀ nt, Shift P h.length nt ⟨argSlots 0 args, h⟩ ⟨argSlots 0 args, h'⟩) (hl : h.length ≤ h'.length) (hc : CallW P f args h' Q) : CallW P f args h Q := by
  refine ⟨hc.1, fun base w0 F ρ w vs hst ha => ?_⟩
  have hr : Rel (psz P) base w0 h.length vs.size F ρ ⟨argSlots 0 args, h⟩ ⟨vs, []⟩ w := ⟨hst, fun i v hi => by
    obtain ⟨_, h2⟩ := look_args hi
    obtain ⟨cv, h3, h4⟩ := ha.2 i v (by simpa using h2)
    exact ⟨cv, h3, h4⟩, rfl, rfl, Nat.le_refl _⟩
  obtain ⟨F', ρ', hx, hr'⟩ := hs vs.size base w0 F ρ _ w hr
  refine (hc.2 base w0 F' ρ' w vs hr'.st ⟨ha.1, fun i x hi => ?_⟩).mono ?_
  · obtain ⟨cv, h1, h2⟩ := hr'.slots i x (by have := look_argsOf (k := 0) hi; rwa [Nat.zero_add] at this)
    exact ⟨cv, h1, h2⟩
  · rintro e w' ⟨v, x, h'', F'', ρ'', rfl, hx2, hst2, hv, hl2, hq⟩
    exact ⟨v, x, h'', F'', ρ'', rfl, hx.trans (hx2.weak hl), hst2, hv, by omega, hq⟩
/-- A call with a nil slice in a block: the slice is the begin of a row. -/
theorem CallW.openC {f : FuncId} {args : List AV} {h : List Blk} {Q : AV → List Blk → Prop} {T e : TypeId} {b : Nat} (hb : h[b]? = some (.cells T [.d .nilsl])) (hc : CallW P f args (h.set b (.cells T [.bl h.length e []]) ++ [.tail e 0]) Q) : CallW P f args h Q :=
  CallW.shift (fun _ => Shift.openC hb) (by simp) hc

/-- Fields that are nil slices may be said to be empty ones. -/
inductive NilL : List D → List D → Prop
  | nil : NilL [] []
  | eq (x : D) {a b : List D} (h : NilL a b) : NilL (x :: a) (x :: b)
  | ns (e : TypeId) {a b : List D} (h : NilL a b) : NilL (.nilsl :: a) (.sl e [] :: b)
theorem NilL.get {cs ds : List D} (h : NilL cs ds) : cs.length = ds.length ∧ ∀ (k : Nat) (d : D), ds[k]? = some d → ∃ c, cs[k]? = some c ∧ ∀ {sz : TypeId → Nat} {F : Frz} {v : Value}, FRep sz F c v → FRep sz F d v := by
  induction h with
  | nil => exact ⟨rfl, by simp⟩
  | eq x h ih =>
    refine ⟨by simp [ih.1], fun k d hd => ?_⟩
    cases k with
    | zero => simp at hd; subst hd; exact ⟨x, rfl, fun h => h⟩
    | succ k => simpa using ih.2 k d (by simpa using hd)
  | ns e h ih =>
    refine ⟨by simp [ih.1], fun k d hd => ?_⟩
    cases k with
    | zero =>
      simp at hd
      subst hd
      refine ⟨.nilsl, rfl, fun h => ?_⟩
      cases h with
      | nilsl => exact sl_empty e none 0
    | succ k => simpa using ih.2 k d (by simpa using hd)
theorem NilL.rep {cs ds : List D} (h : NilL cs ds) {sz : TypeId → Nat} {F : Frz} {v : Value} (hv : FRep sz F (.agg cs) v) : FRep sz F (.agg ds) v := by
  obtain ⟨h1, h2⟩ := h.get
  cases hv with
  | agg _ vs hs val hv hr =>
    refine .agg ds vs (by omega) val (fun k c hc => ?_) (fun k c hc => ?_)
    · obtain ⟨c', h3, _⟩ := h2 k c hc
      exact hv k c' h3
    · obtain ⟨c', h3, h4⟩ := h2 k c hc
      exact h4 (hr k c' h3)

/-- What holds of the representations of one value holds of those of another. -/
def LeA (x y : AV) : Prop := ∀ {sz : TypeId → Nat} {F : Frz} {ρ : Env0} {n : Nat} {v : Value}, VRel sz F ρ n x v → VRel sz F ρ n y v
theorem LeA.refl (x : AV) : LeA x x := fun h => h
theorem NilL.le {cs ds : List D} (h : NilL cs ds) : LeA (.d (.agg cs)) (.d (.agg ds)) := fun hv => .d (h.rep hv.d_inv)
inductive LeAs : List AV → List AV → Prop
  | nil : LeAs [] []
  | cons {x y : AV} {a b : List AV} (h1 : LeA x y) (h2 : LeAs a b) : LeAs (x :: a) (y :: b)
theorem LeAs.get {xs ys : List AV} (h : LeAs xs ys) : xs.length = ys.length ∧ ∀ (i : Nat) (y : AV), ys[i]? = some y → ∃ x, xs[i]? = some x ∧ LeA x y := by
  induction h with
  | nil => exact ⟨rfl, by simp⟩
  | cons h1 h2 ih =>
    refine ⟨by simp [ih.1], fun i y hy => ?_⟩
    cases i with
    | zero => simp at hy; subst hy; exact ⟨_, rfl, h1⟩
    | succ i => simpa using ih.2 i y (by simpa using hy)
theorem CallW.le {f : FuncId} {args args' : List AV} {h : List Blk} {Q : AV → List Blk → Prop} (hc : CallW P f args' h Q) (hs : LeAs args args') : CallW P f args h Q := by
  refine ⟨hc.1, fun base w0 F ρ w vs hst ha => hc.2 base w0 F ρ w vs hst ?_⟩
  obtain ⟨h1, h2⟩ := hs.get
  refine ⟨by rw [← h1]; exact ha.1, fun i y hy => ?_⟩
  obtain ⟨x, hx, hxy⟩ := h2 i y hy
  obtain ⟨v, hv, hr⟩ := ha.2 i x hx
  exact ⟨v, hv, hxy hr⟩
theorem CallP.le {f : FuncId} {args args' : List AV} {h : List Blk} {r : AV} (hc : CallP P f args' h r) (hs : LeAs args args') : CallP P f args h r := CallW.le hc hs

end Go.Vm
