/- Soundness of slice expressions, and of evL as a whole. -/
import Derived.Test.YtggeifnbllfmbaaDoorVm5
set_option linter.unusedSimpArgs false
namespace Go.Vm
variable {P : Program} {base : Nat} {w0 : World} {m nt : Nat} {F : Frz} {ρ : Env0} {env : Env} {a : Act} {w : World} {n : Nat} {tab : Tab} {sz : TypeId → Nat}

theorem bnd_sound (hr : Rel sz base w0 m nt F ρ env a w) {d i : Int} {o : Option Operand} (h : bnd env d o = some i) :
    (o = none ∧ i = d) ∨ ∃ x k, o = some x ∧ a.eval x = .int k i := by
  cases o with
  | none => cases h; exact .inl ⟨rfl, rfl⟩
  | some x =>
    simp only [bnd, Option.bind_eq_some_iff] at h
    obtain ⟨v, h1, h2⟩ := h
    obtain ⟨k, hk⟩ := asI_sound h2 (ev_sound hr h1)
    exact .inr ⟨x, k, rfl, hk⟩

theorem sliceBound_run {k : IntKind} {i : Int} {y : Nat} {c : BoundsCode} (h0 : 0 ≤ i) (h1 : i ≤ y) : (Instr.sliceBound (.int k i) y c).run P w = .ok i.toNat w := by
  simp [Instr.sliceBound, asIntOf, h0, h1]

theorem sliceBounds_run (hr : Rel sz base w0 m nt F ρ env a w) {lo hi : Option Operand} {l h : Int} {len cap : Nat} {sl : Bool}
    (hl : bnd env 0 lo = some l) (hh : bnd env len hi = some h) (h0 : 0 ≤ l) (h1 : l ≤ h) (h2 : h ≤ cap) :
    (Instr.sliceBounds sl len cap (lo.map a.eval) (hi.map a.eval) none).run P w = .ok (l.toNat, h.toNat, cap) w := by
  rcases bnd_sound hr hl with ⟨rfl, rfl⟩ | ⟨x, k, rfl, hx⟩ <;> rcases bnd_sound hr hh with ⟨rfl, rfl⟩ | ⟨y, k', rfl, hy⟩
  · simp [Instr.sliceBounds]
  · simp only [Instr.sliceBounds, Option.map_none, Option.map_some, hy, Sem.run_bind, Sem.run_pure, Result.andThen_ok]
    rw [sliceBound_run (by omega) h2]
    simp
  · simp only [Instr.sliceBounds, Option.map_none, Option.map_some, hx, Sem.run_bind, Sem.run_pure, Result.andThen_ok]
    rw [sliceBound_run h0 (by omega)]
    simp
  · simp only [Instr.sliceBounds, Option.map_some, hx, hy, Sem.run_bind, Sem.run_pure, Result.andThen_ok]
    rw [sliceBound_run (by omega) h2]
    simp only [Result.andThen_ok]
    rw [sliceBound_run h0 (by omega)]
    simp

/-- A part of a frozen row is a frozen row. -/
theorem FRep.sub {e : TypeId} {xs : List D} {A : Option Addr} {cap : Nat} (h : FRep sz F (.sl e xs) (.slice A xs.length cap)) {l r : Nat} (hl : l ≤ r) (hr : r ≤ xs.length) :
    FRep sz F (.sl e ((xs.take r).drop l)) (.slice (if cap = l then A else A.map (·.add (l * sz e))) (r - l) (cap - l)) := by
  generalize hv : Value.slice A xs.length cap = v at h
  cases h with
  | sl _ _ A' ad cap' val hA hc hlen hF hrr ho =>
    simp only [Value.slice.injEq] at hv
    obtain ⟨rfl, _, rfl⟩ := hv
    have hlen' : ((xs.take r).drop l).length = r - l := by simp only [List.length_drop, List.length_take]; omega
    rw [← hlen']
    have hget : ∀ (i : Nat) (x : D), ((xs.take r).drop l)[i]? = some x → xs[l + i]? = some x := by
      intro i x hx
      rw [List.getElem?_drop] at hx
      have hlt := (List.getElem?_eq_some_iff.mp hx).1
      rw [List.getElem?_take_of_lt (by simp only [List.length_take] at hlt; omega)] at hx
      exact hx
    by_cases hne : xs = []
    · subst hne
      refine .sl _ _ _ ad _ (fun i k => val (l + i) k) (by simp) (by simp) (by simp) (by simp) (by simp) (by simp)
    · obtain ⟨rfl, hs⟩ := hA hne
      refine .sl _ _ _ (if cap = l then ad else ad.add (l * sz e)) _ (fun i k => val (l + i) k) ?_ (by omega) (fun i x hx => hlen _ _ (hget i x hx)) ?_ (fun i x k c hx hc => hrr _ _ _ _ (hget i x hx) hc) (fun i x k c hx hc => ho _ _ _ _ (hget i x hx) hc)
      · intro _
        by_cases hcl : cap = l
        · simp [hcl, hs]
        · simp [hcl, add_spot hs]
      · intro i x k c hx hck
        have hlt := (List.getElem?_eq_some_iff.mp hx).1
        have hcl : cap ≠ l := by omega
        have := hF _ _ _ _ (hget i x hx) hck
        simp only [hcl, if_false, add_spot hs]
        rw [← this]
        congr 2
        rw [Nat.add_mul]; omega

theorem slice_str {t : TypeId} (hr : Rel sz base w0 m nt F ρ env a w) (hu : P.underlying t = some .string) {s : List UInt8} {lo hi : Option Operand} {l h : Int}
    (hl : bnd env 0 lo = some l) (hh : bnd env s.length hi = some h) (h0 : 0 ≤ l) (h1 : l ≤ h) (h2 : h ≤ s.length) :
    (Instr.sliceAt t (.string ⟨s.toArray⟩) (lo.map a.eval) (hi.map a.eval) none).run P w = .ok (.string ⟨((s.take h.toNat).drop l.toNat).toArray⟩) w := by
  have hsz : (ByteArray.mk s.toArray).size = s.length := by show s.toArray.size = _; simp
  simp only [Instr.sliceAt, Instr.slice, Sem.run_bind, run_underlying' hu, Result.andThen_ok, Option.isSome_none, Bool.false_eq_true, if_false, hsz, Sem.run_pure]
  rw [sliceBounds_run hr hl hh h0 h1 h2]
  simp only [Result.andThen_ok]
  congr 2
  apply ByteArray.ext
  rw [ByteArray.data_extract]
  apply Array.toList_inj.mp
  simp [List.drop_take]

theorem slice_sl {t e : TypeId} {te : TI} (hr : Rel sz base w0 m nt F ρ env a w) (hu : P.underlying t = some (.slice e)) (hg : te.Good P e) {A : Option Addr} {len cap : Nat} {lo hi : Option Operand} {l h : Int}
    (hl : bnd env 0 lo = some l) (hh : bnd env len hi = some h) (h0 : 0 ≤ l) (h1 : l ≤ h) (h2 : h ≤ cap) :
    (Instr.sliceAt t (.slice A len cap) (lo.map a.eval) (hi.map a.eval) none).run P w =
      .ok (.slice (if cap = l.toNat then A else A.map (·.add (l.toNat * te.size))) (h.toNat - l.toNat) (cap - l.toNat)) w := by
  simp only [Instr.sliceAt, Instr.slice, Sem.run_bind, run_underlying' hu, Result.andThen_ok]
  rw [sliceBounds_run hr hl hh h0 h1 h2]
  simp only [Result.andThen_ok, hg.run_sizeOf, Sem.run_pure]

theorem slice_sound (hT : tab.checks P = true) (hr : Rel (psz P) base w0 m nt F ρ env a w) {t : TypeId} {x : AV} {lo hi mx : Option Operand} {ob : Prop} {v : AV} {cv : Value}
    (h : sliceAV tab env t x lo hi mx = some (ob, v)) (hob : ob) (hx : VRel (psz P) F ρ n x cv) :
    Gives P (psz P) F ρ n w (Instr.sliceAt t cv (lo.map a.eval) (hi.map a.eval) (mx.map a.eval)) v := by
  unfold sliceAV at h
  split at h
  · split at h
    · split at h
      · rename_i s _ _ _ l h' hs hl hh
        simp only [Option.some.injEq, Prod.mk.injEq] at h
        obtain ⟨h1, rfl⟩ := h
        subst h1
        obtain ⟨h0, h1, h2⟩ := hob
        have := hx.str_inv
        subst this
        exact ⟨_, slice_str hr (isStr_sound hT hs) hl hh h0 h1 h2, rstr _⟩
      · simp at h
    · split at h
      · rename_i e' xs _ _ _ e l h' hs hl hh
        simp only [Option.some.injEq, Prod.mk.injEq] at h
        obtain ⟨h1, rfl⟩ := h
        subst h1
        obtain ⟨rfl, h0, h1, h2⟩ := hob
        obtain ⟨hu, te, _, hg⟩ := slOf_sound hT hs
        have hrep := hx.d_inv
        obtain ⟨A, cap, rfl, hc, _⟩ := hrep.sl_inv
        refine ⟨_, slice_sl hr hu hg hl hh h0 h1 (by omega), .d ?_⟩
        rw [← hg.psz]
        exact hrep.sub (by omega) (by omega)
      · simp at h
    · split at h
      · rename_i b e' xs _ _ _ e l h' hs hl hh
        simp only [Option.some.injEq, Prod.mk.injEq] at h
        obtain ⟨h1, rfl⟩ := h
        subst h1
        obtain ⟨rfl, h0, h1, h2⟩ := hob
        obtain ⟨hu, te, _, hg⟩ := slOf_sound hT hs
        cases hx with
        | bl hb hrep hl' hw' hcur =>
        obtain ⟨A, cap, rfl, hc, _⟩ := hrep.sl_inv
        refine ⟨_, slice_sl hr hu hg hl hh h0 h1 (by omega), .d ?_⟩
        rw [← hg.psz]
        exact hrep.sub (by omega) (by omega)
      · simp at h
    · split at h
      · rename_i b e' off len _ _ _ e l h' hs hl hh
        simp only [Option.some.injEq, Prod.mk.injEq] at h
        obtain ⟨h1, rfl⟩ := h
        subst h1
        obtain ⟨rfl, h0, h1, h2⟩ := hob
        obtain ⟨hu, te, _, hg⟩ := slOf_sound hT hs
        cases hx with
        | @ref _ _ _ _ cap A hb hA hl' hc =>
        refine ⟨_, slice_sl hr hu hg hl hh h0 h1 (by omega), .ref hb (fun hne => ?_) (fun B N h' => ⟨fun hne => ?_, ?_⟩) (by omega)⟩
        · obtain ⟨ad, rfl⟩ := hA (by omega)
          rw [if_neg (by omega)]
          exact ⟨_, rfl⟩
        · rw [if_neg (by omega), (hl' B N h').1 (by omega), ← hg.psz]
          simp only [Option.map_some, add_none]
          rw [Nat.add_mul]
        · have := (hl' B N h').2
          omega
      · simp at h
    · split at h
      · rename_i b e' k _ _ _ e l h' hs hl hh
        simp only [Option.some.injEq, Prod.mk.injEq] at h
        obtain ⟨h1, rfl⟩ := h
        subst h1
        obtain ⟨rfl, rfl, rfl⟩ := hob
        obtain ⟨hu, te, _, hg⟩ := slOf_sound hT hs
        cases hx with
        | @gr _ _ hw cap _ A v0 hb hl' h0 hk =>
        refine ⟨_, slice_sl hr hu hg hl hh (Int.le_refl _) (Int.le_refl _) (by omega), ?_⟩
        have e1 : (if cap = (0 : Int).toNat then A else A.map (·.add ((0 : Int).toNat * te.size))) = A := by
          split
          · rfl
          · cases A <;> simp [Addr.add]
        rw [e1]
        refine .bl (v0 := v0) (hw := hw) hb (.sl e' [] A ⟨0, 0, none⟩ cap (fun _ _ => .nilIface) (by simp) (by simp) (by simp) (by simp) (by simp) (by simp)) hl' (by simp) (fun e0 => ?_)
        simp at e0
        rw [h0 e0]
        rfl
      · simp at h
    · split at h
      · rename_i _ _ _ e l h' hs hl hh
        simp only [Option.some.injEq, Prod.mk.injEq] at h
        obtain ⟨h1, rfl⟩ := h
        subst h1
        obtain ⟨rfl, rfl⟩ := hob
        obtain ⟨hu, te, _, hg⟩ := slOf_sound hT hs
        cases hx with | d hx => cases hx with
        | nilsl =>
        exact ⟨_, slice_sl hr hu hg hl hh (Int.le_refl _) (Int.le_refl _) (by simp), .d .nilsl⟩
      · simp at h
    · simp at h
  · rename_i mo
    split at h
    · rename_i hm hl hh hs
      obtain ⟨hu, te, _, hg⟩ := slOf_sound hT hs
      simp only [Option.bind_eq_some_iff] at hm
      obtain ⟨mv, hm1, hm2⟩ := hm
      obtain ⟨km, hkm⟩ := asI_sound hm2 (ev_sound hr hm1)
      have hrun : ∀ (A : Option Addr) (len cap : Nat), (Instr.sliceAt t (.slice A len cap) (lo.map a.eval) (hi.map a.eval) ((some mo).map a.eval)).run P w =
          .ok (.slice A 0 0) w := by
        intro A len cap
        simp only [Option.bind_eq_some_iff] at hh
        obtain ⟨y, rfl, yv, hy1, hy2⟩ := hh
        obtain ⟨ky, hy⟩ := asI_sound hy2 (ev_sound hr hy1)
        have z0 : ∀ (k : IntKind) (y : Nat) (c : BoundsCode), (Instr.sliceBound (.int k 0) y c).run P w = .ok 0 w := fun k y c => sliceBound_run (by omega) (by omega)
        rcases bnd_sound hr hl with ⟨rfl, _⟩ | ⟨z, kz, rfl, hz⟩
        · simp [Instr.sliceAt, Instr.slice, Instr.sliceBounds, run_underlying' hu, hkm, hy, z0, hg.run_sizeOf]
        · simp [Instr.sliceAt, Instr.slice, Instr.sliceBounds, run_underlying' hu, hkm, hy, hz, z0, hg.run_sizeOf]
      split at h
      all_goals simp only [Option.some.injEq, Prod.mk.injEq, reduceCtorEq] at h
      all_goals obtain ⟨_, rfl⟩ := h
      · obtain ⟨A, cap, rfl, hc, _⟩ := hx.d_inv.sl_inv
        exact ⟨_, hrun _ _ _, .z0⟩
      · cases hx with
        | bl hb hrep hl' hw' hcur =>
        obtain ⟨A, cap, rfl, hc, _⟩ := hrep.sl_inv
        exact ⟨_, hrun _ _ _, .z0⟩
      · cases hx with
        | ref => exact ⟨_, hrun _ _ _, .z0⟩
      · cases hx with | d hx => cases hx with
        | nilsl => exact ⟨_, hrun _ _ _, .d .nilsl⟩
    · simp at h

end Go.Vm
