/- Blocks that are forgotten while the world changes only there. -/
import Derived.Test.YtggeifnbllfmbaaDoorVmN
set_option linter.unusedSimpArgs false
namespace Go.Vm
variable {P : Program} {base : Nat} {w0 : World} {m nt : Nat} {F : Frz} {ρ : Env0} {w w' : World} {n : Nat} {sz : TypeId → Nat} {h : List Blk}

/-- A builder's row that was begun in a new block is put where the empty row is. -/
theorem RShift.retail {e T : TypeId} {v p : AV} {H : List Blk} {b k : Nat} {xs : List D} (hH : H = h.set b (.cells T [.agg [p, .bl h.length e xs]]) ++ [.tail e xs.length]) (hb : b < h.length) (hk : h[k]? = some (.tail e 0)) (hbk : b ≠ k) (hxs : xs ≠ [])
    (hp : Bel h.length p) (hv : Bel h.length v) (hm : m ≤ h.length) (hok : HOk h) : RShift P m v H v ((h.set b (.cells T [.agg [p, .bl k e xs]])).set k (.tail e xs.length)) := by
  subst hH
  intro base w0 F ρ w cv hst hvr
  have hkl := (List.getElem?_eq_some_iff.mp hk).1
  have hlen : ((h.set b (.cells T [.agg [p, .bl k e xs]])).set k (.tail e xs.length)).length = h.length := by simp
  have hpos : 0 < xs.length := List.length_pos_iff.mpr hxs
  obtain ⟨A0, cap0, k1, k2, k3⟩ := hst.blk k (.tail e 0) (by rw [List.getElem?_append_left (by simpa using hkl), List.getElem?_set_ne hbk]; exact hk)
  have hnew := hst.blk h.length (.tail e xs.length) (by rw [List.getElem?_append_right (by simp)]; simp)
  obtain ⟨A1, cap1, n1, n2, n3⟩ := hnew
  have hk0 : (ρ k).ext (ρ h.length) := by rw [k1, n1]; exact ⟨_, _, rfl, Nat.zero_le _, fun e0 => absurd e0 (by omega)⟩
  have hx : Ext h.length F ρ F (upd ρ k (ρ h.length)) := ⟨Frz.le_refl _, fun b' _ => by
    by_cases e1 : b' = k
    · subst e1; rw [upd_same]; exact hk0
    · rw [upd_ne e1]; exact Loc.ext_refl _⟩
  have hold : ∀ {y : AV} {u : Value}, Bel h.length y → VRel (psz P) F ρ ((h.set b (.cells T [.agg [p, .bl h.length e xs]]) ++ [Blk.tail e xs.length]).length) y u → VRel (psz P) F (upd ρ k (ρ h.length)) h.length y u := fun hy hu => (hu.cut hy).mono hx (Nat.le_refl _)
  refine ⟨F, upd ρ k (ρ h.length), ⟨Frz.le_refl _, fun b' hb' => hx.loc b' (by omega)⟩, ⟨hst.frz, fun b' x hx' => ?_, fun b1 b2 B h1 h2 c1 c2 => ?_, hst.old, hst.hb, fun b1 B h1 c1 => ?_⟩, by rw [hlen]; exact (hvr.cut hv).mono hx (Nat.le_refl _), by rw [hlen]; exact hm⟩
  · rw [hlen]
    by_cases e1 : b' = k
    · subst e1
      rw [List.getElem?_set_self (by simpa using hkl)] at hx'
      cases hx'
      exact ⟨A1, cap1, by rw [upd_same]; exact n1, n2, n3⟩
    · rw [List.getElem?_set_ne (Ne.symm e1)] at hx'
      by_cases e2 : b' = b
      · subst e2
        rw [List.getElem?_set_self hb] at hx'
        cases hx'
        have hcell := hst.blk b' (.cells T [.agg [p, .bl h.length e xs]]) (by rw [List.getElem?_append_left (by simpa using hb)]; exact List.getElem?_set_self hb)
        obtain ⟨B, N, c, e0, h1, h2, h3, h4, h5, h6⟩ := hcell
        refine ⟨B, N, c, e0, by rw [upd_ne e1]; exact h1, h2, h3, h4, h5, fun i x hi => ?_⟩
        cases i with
        | succ i => simp at hi
        | zero =>
          simp at hi
          subst hi
          obtain ⟨h7, h8⟩ := h6 0 _ rfl
          refine ⟨h7, fun j y hj => ?_⟩
          match j, hj with
          | 0, hj =>
            simp [AV.cells] at hj
            subst hj
            obtain ⟨u, u1, u2, u3⟩ := h8 0 p rfl
            exact ⟨u, u1, hold hp u2, u3⟩
          | 1, hj =>
            simp [AV.cells] at hj
            subst hj
            obtain ⟨u, u1, u2, u3⟩ := h8 1 _ rfl
            refine ⟨u, u1, ?_, u3⟩
            cases u2 with | bl _ r1 r2 r3 r4 => exact .bl hkl r1 (by rw [upd_same]; exact r2) r3 r4
          | j + 2, hj => simp [AV.cells] at hj
      · rw [List.getElem?_set_ne (Ne.symm e2)] at hx'
        have hlt := (List.getElem?_eq_some_iff.mp hx').1
        have := hst.blk b' x (by rw [List.getElem?_append_left (by simpa using hlt), List.getElem?_set_ne (Ne.symm e2)]; exact hx')
        exact (this.cut (hok x (List.mem_of_getElem? hx'))).mono hx (upd_ne e1) (Nat.le_refl _) (fun _ _ _ h => h) (fun _ _ _ _ => rfl)
  · rw [hlen] at h1 h2
    have tr : ∀ b', b' < h.length → ((upd ρ k (ρ h.length)) b').conc = some B → ∃ b'', b'' < h.length + 1 ∧ (ρ b'').conc = some B ∧ (b'' = if b' = k then h.length else b') := by
      intro b' hb' hc
      by_cases e1 : b' = k
      · subst e1; rw [upd_same] at hc; exact ⟨h.length, by omega, hc, by simp⟩
      · rw [upd_ne e1] at hc; exact ⟨b', by omega, hc, by simp [e1]⟩
    obtain ⟨a1, l1, d1, q1⟩ := tr b1 h1 c1
    obtain ⟨a2, l2, d2, q2⟩ := tr b2 h2 c2
    have := hst.dist a1 a2 B (by simpa using l1) (by simpa using l2) d1 d2
    rw [q1, q2] at this
    split at this <;> split at this <;> omega
  · rw [hlen] at h1
    by_cases e1 : b1 = k
    · subst e1; rw [upd_same] at c1; exact hst.lt h.length B (by simp) c1
    · rw [upd_ne e1] at c1; exact hst.lt b1 B (by simp; omega) c1

/-- A builder that was just made: its row gets a name. -/
theorem Shift.openB {T e : TypeId} {s : Slots} {H h : List Blk} {b : Nat} {x : AV} (hH : H = h.set b (.cells T [.agg [.d .nilptr, .d .nilsl]])) (hb : h[b]? = some (.cells T [x])) (hx : x.cells = [.d .nilptr, .d .nilsl]) : Shift P m nt ⟨s, h⟩ ⟨s, H ++ [.tail e 0]⟩ := by
  subst hH
  intro base w0 F ρ a w hr
  have hb' := (List.getElem?_eq_some_iff.mp hb).1
  have hx' : Ext h.length F ρ F (upd ρ h.length (.bld (.slice none 0 0) 0)) := Ext.upd _ _ _ _
  have hl : ∀ X : Blk, (h.set b X).length = h.length := fun X => by simp
  refine ⟨F, upd ρ h.length (.bld (.slice none 0 0) 0), hx'.weak hr.le, ⟨hr.st.frz, fun b' y hy => ?_, fun b1 b2 B h1 h2 c1 c2 => ?_, hr.st.old, hr.st.hb, fun b1 B h1 c1 => ?_⟩, fun i v hi => ?_, hr.size, hr.defers, by have := hr.le; simp; exact Nat.le_trans this (Nat.le_succ _)⟩
  · simp only [List.length_append, List.length_set, List.length_singleton]
    by_cases e1 : b' = h.length
    · subst e1
      rw [List.getElem?_append_right (by simp)] at hy
      simp at hy
      subst hy
      exact ⟨none, 0, upd_same _ _ _, Nat.le_refl _, fun h => absurd rfl h⟩
    · have hlt : b' < h.length := by
        have := (List.getElem?_eq_some_iff.mp hy).1
        simp at this; omega
      rw [List.getElem?_append_left (by simpa using hlt)] at hy
      by_cases e2 : b' = b
      · subst e2
        rw [List.getElem?_set_self hb'] at hy
        cases hy
        have := (hr.st.blk b' _ hb).mono hx' (upd_ne e1) (Nat.le_succ _) (fun _ _ _ h => h) (fun _ _ _ _ => rfl)
        obtain ⟨B, N, c, e0, q1, q2, q3, q4, q5, q6⟩ := this
        refine ⟨B, N, c, e0, q1, q2, q3, q4, q5, fun i z hz => ?_⟩
        cases i with
        | succ i => simp at hz
        | zero =>
          simp at hz
          subst hz
          have := q6 0 x rfl
          rw [hx] at this
          exact this
      · rw [List.getElem?_set_ne (Ne.symm e2)] at hy
        exact (hr.st.blk b' y hy).mono hx' (upd_ne e1) (Nat.le_succ _) (fun _ _ _ h => h) (fun _ _ _ _ => rfl)
  · simp only [List.length_append, List.length_set, List.length_singleton] at h1 h2
    by_cases e1 : b1 = h.length
    · subst e1; rw [upd_same] at c1; simp [Loc.conc] at c1
    · by_cases e2 : b2 = h.length
      · subst e2; rw [upd_same] at c2; simp [Loc.conc] at c2
      · rw [upd_ne e1] at c1; rw [upd_ne e2] at c2
        exact hr.st.dist b1 b2 B (by show b1 < h.length; omega) (by show b2 < h.length; omega) c1 c2
  · simp only [List.length_append, List.length_set, List.length_singleton] at h1
    by_cases e1 : b1 = h.length
    · subst e1; rw [upd_same] at c1; simp [Loc.conc] at c1
    · rw [upd_ne e1] at c1
      exact hr.st.lt b1 B (by show b1 < h.length; omega) c1
  · obtain ⟨cv, h4, h5⟩ := hr.slots i v hi
    exact ⟨cv, h4, h5.mono hx' (by simp)⟩

end Go.Vm
