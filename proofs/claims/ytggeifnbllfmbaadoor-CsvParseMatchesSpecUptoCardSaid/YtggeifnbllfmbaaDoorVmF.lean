/- Rows that may be written become data. -/
import Derived.Test.YtggeifnbllfmbaaDoorVmC
set_option linter.unusedSimpArgs false
namespace Go.Vm
variable {P : Program} {base : Nat} {w0 : World} {m nt : Nat} {F : Frz} {ρ : Env0} {env env' : Env} {a : Act} {w : World} {n : Nat} {tab : Tab} {sz : TypeId → Nat} {h : List Blk}

/-- What a value becomes when a block becomes data. -/
def frz1 (b : Nat) (e : TypeId) (ds : List D) : AV → AV
  | .ref b' e' off len => if b' = b ∧ e' = e ∧ off + len ≤ ds.length then .d (.sl e ((ds.drop off).take len)) else .ref b' e' off len
  | v => v
def frzAV (b : Nat) (e : TypeId) (ds : List D) : AV → AV
  | .tup vs => .tup (vs.map (frz1 b e ds))
  | v => frz1 b e ds v

theorem frz1_rel {b : Nat} {e : TypeId} {ds : List D} {F' : Frz} (hle : F.le F') (hf : ∀ {n off len : Nat} {v : Value}, VRel sz F ρ n (.ref b e off len) v → off + len ≤ ds.length → FRep sz F' (.sl e ((ds.drop off).take len)) v)
    {x : AV} {v : Value} (hv : VRel sz F ρ n x v) : VRel sz F' ρ n (frz1 b e ds x) v := by
  have hx : Ext n F ρ F' ρ := ⟨hle, fun _ _ => Loc.ext_refl _⟩
  unfold frz1
  split
  · split
    · rename_i hc
      obtain ⟨rfl, rfl, h3⟩ := hc
      exact .d (hf hv h3)
    · exact hv.mono hx (Nat.le_refl _)
  · exact hv.mono hx (Nat.le_refl _)

theorem frzAV_rel {b : Nat} {e : TypeId} {ds : List D} {F' : Frz} (hle : F.le F') (hf : ∀ {n off len : Nat} {v : Value}, VRel sz F ρ n (.ref b e off len) v → off + len ≤ ds.length → FRep sz F' (.sl e ((ds.drop off).take len)) v)
    {x : AV} {v : Value} (hv : VRel sz F ρ n x v) : VRel sz F' ρ n (frzAV b e ds x) v := by
  unfold frzAV
  split
  · cases hv with
    | tup cs vs hs val hvv hr =>
      refine .tup _ vs (by simpa using hs) val (fun k c hk => ?_) (fun k c hk => ?_)
      · simp only [List.getElem?_map, Option.map_eq_some_iff] at hk
        obtain ⟨x, hx, rfl⟩ := hk
        exact hvv k x hx
      · simp only [List.getElem?_map, Option.map_eq_some_iff] at hk
        obtain ⟨x, hx, rfl⟩ := hk
        exact frz1_rel hle hf (hr k x hx)
  · exact frz1_rel hle hf hv

theorem RShift.frz {b : Nat} {e : TypeId} {ds : List D} {v : AV} (hb : h[b]? = some (.cells e (ds.map AV.d))) (hm : m ≤ h.length) : RShift P m v h (frzAV b e ds v) (h.set b .gone) := by
  intro base w0 F ρ w cv hst hv
  obtain ⟨F', h1, h2, h3⟩ := hst.freeze hb
  exact ⟨F', ρ, ⟨h1, fun _ _ => Loc.ext_refl _⟩, h2, by rw [List.length_set]; exact frzAV_rel h1 h3 hv, by rw [List.length_set]; exact hm⟩

theorem RShift.trans {v x y : AV} {h h' h'' : List Blk} (h1 : RShift P m v h x h') (h2 : RShift P m x h' y h'') : RShift P m v h y h'' := by
  intro base w0 F ρ w cv hst hv
  obtain ⟨F', ρ', a1, a2, a3, a4⟩ := h1 base w0 F ρ w cv hst hv
  obtain ⟨F'', ρ'', b1, b2, b3, b4⟩ := h2 base w0 F' ρ' w cv a2 a3
  exact ⟨F'', ρ'', a1.trans b1, b2, b3, b4⟩

def subL : List AV → List AV → Prop
  | [], [] => True
  | x :: xs, y :: ys => Sub x y ∧ subL xs ys
  | _, _ => False

/-- A value, seen otherwise, part by part. -/
def Subs : AV → AV → Prop
  | .tup xs, .tup ys => subL xs ys
  | x, y => Sub x y

theorem subL_get : ∀ {xs ys : List AV}, subL xs ys → xs.length = ys.length ∧ ∀ (k : Nat) (y : AV), ys[k]? = some y → ∃ x, xs[k]? = some x ∧ Sub x y
  | [], [], _ => ⟨rfl, by simp⟩
  | [], _ :: _, h => h.elim
  | _ :: _, [], h => h.elim
  | x :: xs, y :: ys, h => by
    obtain ⟨h1, h2⟩ := subL_get (xs := xs) (ys := ys) h.2
    refine ⟨by simp [h1], fun k z hk => ?_⟩
    cases k with
    | zero => simp at hk; subst hk; exact ⟨_, rfl, h.1⟩
    | succ k => simpa using h2 k z (by simpa using hk)

theorem Subs.rel {x y : AV} {v : Value} (hs : Subs x y) (hv : VRel sz F ρ n x v) : VRel sz F ρ n y v := by
  unfold Subs at hs
  split at hs
  · rename_i xs ys
    cases hv with
    | tup cs vs hs' val hvv hr =>
      obtain ⟨h1, h2⟩ := subL_get hs
      refine .tup _ vs (by omega) val (fun k c hk => ?_) (fun k c hk => ?_)
      · obtain ⟨x, h3, h4⟩ := h2 k c hk
        exact hvv k x h3
      · obtain ⟨x, h3, h4⟩ := h2 k c hk
        exact h4.rel (hr k x h3)
  · exact hs.rel hv

theorem RShift.subs {v x : AV} {h g : List Blk} (hs : Subs v x) (hb : Bel h.length x) (hok : HOk h) (hm : m ≤ h.length) : RShift P m v (h ++ g) x h :=
  fun _ _ F ρ _ _ hst hv => ⟨F, ρ, Ext.refl _ _ _, hst.cut hok, (hs.rel hv).cut hb, hm⟩

/-- A function that gives data: as it is, or with its parts seen otherwise. -/
theorem rshift_subs {v x : AV} {h g : List Blk} (hs : Subs v x) (hb : Bel h.length x) (hok : HOk h) : RShift P h.length v (h ++ g) x h := RShift.subs hs hb hok (Nat.le_refl _)

theorem Shift.weak' {s s' : Slots} {H h g : List Blk} (e : H = h ++ g) (hok : HOk h) (hm : m ≤ h.length) (hs : ∀ kv ∈ s', ∃ v, look s kv.1 = some v ∧ Sub v kv.2 ∧ Bel h.length kv.2) :
    Shift P m nt ⟨s, H⟩ ⟨s', h⟩ := by subst e; exact Shift.weak hs hok hm

theorem rshift_d' {x : D} {H h g : List Blk} (hok : HOk h) (e : H = h ++ g) : RShift P h.length (.d x) H (.d x) h := by subst e; exact rshift_d hok

theorem Shift.slots' {s s' : Slots} {H h : List Blk} (e : H = h) (hs : ∀ kv ∈ s', ∃ v, look s kv.1 = some v ∧ Sub v kv.2) : Shift P m nt ⟨s, H⟩ ⟨s', h⟩ := by subst e; exact Shift.slots hs

theorem rshift_same' {x : AV} {H h : List Blk} (e : H = h) (hl : m ≤ h.length) : RShift P m x H x h := by subst e; exact fun _ _ F ρ _ _ hst hv => ⟨F, ρ, Ext.refl _ _ _, hst, hv, hl⟩

theorem rshift_sub {x y : AV} (hs : Subs x y) (hl : m ≤ h.length) : RShift P m x h y h := fun _ _ F ρ _ _ hst hv => ⟨F, ρ, Ext.refl _ _ _, hst, hs.rel hv, hl⟩

theorem rshift_frz {H h : List Blk} {b : Nat} {e : TypeId} {ds : List D} {v x : AV} (hb : H[b]? = some (.cells e (ds.map AV.d))) (hH : ∃ g, H.set b .gone = h ++ g) (hok : HOk h) (hx : Subs (frzAV b e ds v) x) (hbel : Bel h.length x) :
    RShift P h.length v H x h := by
  obtain ⟨g, hH⟩ := hH
  have hl : h.length ≤ H.length := by
    have := congrArg List.length hH
    simp only [List.length_set, List.length_append] at this
    omega
  refine RShift.trans (RShift.frz hb hl) ?_
  rw [hH]
  exact rshift_subs hx hbel hok

attribute [simp] Subs subL frzAV frz1

end Go.Vm
