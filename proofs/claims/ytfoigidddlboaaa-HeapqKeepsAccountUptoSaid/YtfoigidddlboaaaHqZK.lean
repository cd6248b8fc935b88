/- The law of the account. -/
import Derived.Test.YtfoigidddlboaaaHqZ
import Derived.Test.YtfoigidddlboaaaVmN
namespace Go.Vm
open Proofs
set_option maxRecDepth 10000
set_option maxHeartbeats 2000000
set_option linter.unusedSimpArgs false

theorem name_inj {l : List Ent} (h : (l.map Ent.name).Nodup) {x y : Ent} (hx : x ∈ l) (hy : y ∈ l) (e : x.name = y.name) : x = y := by
  induction l with
  | nil => cases hx
  | cons a l ih =>
    simp only [List.map_cons, List.nodup_cons] at h
    by_cases h1 : x = a
    · by_cases h2 : y = a
      · rw [h1, h2]
      · have hy' : y ∈ l := (List.mem_cons.mp hy).resolve_left h2
        exact absurd (List.mem_map.mpr ⟨y, hy', by rw [← e, h1]⟩) h.1
    · have hx' : x ∈ l := (List.mem_cons.mp hx).resolve_left h1
      by_cases h2 : y = a
      · exact absurd (List.mem_map.mpr ⟨x, hx', by rw [e, h2]⟩) h.1
      · exact ih h.2 hx' ((List.mem_cons.mp hy).resolve_left h2)

theorem queueB_perm {q l l' : List Ent} (h : queueB q l = true) (hp : l.Perm l') : queueB q l' = true := by
  obtain ⟨hv, hh, hq⟩ := queueB_iff h
  exact queueB_of (hq.trans hp) (hv.perm (hq.trans hp).symm) hh

theorem entry_not {q : List Ent} {name : List UInt8} (h : entryFrom name 0 q < 0) : name ∉ q.map Ent.name := by
  intro hm
  obtain ⟨k, hk, _⟩ := (entryFrom_mem name 0 q).1 hm
  omega

/-- Where a name is in one list, it is in the other. -/
theorem entry_both {q l : List Ent} (hp : q.Perm l) (name : List UInt8) : (entryFrom name 0 q < 0 ↔ entryFrom name 0 l < 0) := by
  have hm : name ∈ q.map Ent.name ↔ name ∈ l.map Ent.name := (hp.map Ent.name).mem_iff
  by_cases h : name ∈ l.map Ent.name
  · obtain ⟨k, hk, _⟩ := (entryFrom_mem name 0 q).1 (hm.mpr h)
    obtain ⟨k', hk', _⟩ := (entryFrom_mem name 0 l).1 h
    omega
  · have h1 := (entryFrom_mem name 0 q).2 (fun h' => h (hm.mp h'))
    have h2 := (entryFrom_mem name 0 l).2 h
    omega

theorem step_add {q l : List Ent} {e : Ent} (h : queueB q l = true) (hl : l.length < 200) (hf : entFault e = 0) (hn : entryFrom e.name 0 l < 0) : ∃ x, addF q e = (x, (0, 0)) ∧ queueB x (l ++ [e]) = true := by
  obtain ⟨hv, hh, hp⟩ := queueB_iff h
  have hc : (rchk true q).1 = 0 := by rw [← chk_eq]; exact (chk_zero true q).mpr ⟨hv, fun _ => hh⟩
  have hq : q.length = l.length := hp.length_eq
  have hcode : addCode q e = 0 := by
    have := (entry_both hp e.name).mpr hn
    unfold addCode
    rw [if_neg (by omega), if_neg (by omega)]
    exact hf
  obtain ⟨x, h1, h2⟩ := add_ok hc hcode
  exact ⟨x, h1, queueB_perm h2 (hp.append_right [e])⟩

theorem erase_both {q l : List Ent} (hp : q.Perm l) {kq kl : Nat} {x y : Ent} (hx : q[kq]? = some x) (hy : l[kl]? = some y) (e : x = y) : (q.eraseIdx kq).Perm (l.eraseIdx kl) := by
  subst e
  exact (List.perm_cons x).mp ((erase_perm hx).trans (hp.trans (erase_perm hy).symm))

theorem step_entry {q l : List Ent} {name : List UInt8} {kl : Nat} (h : queueB q l = true) (hk : entryFrom name 0 l = (kl : Int)) : ∃ kq : Nat, entryFrom name 0 q = (kq : Int) ∧ (q.eraseIdx kq).Perm (l.eraseIdx kl) ∧ (rchk true q).1 = 0 := by
  obtain ⟨hv, hh, hp⟩ := queueB_iff h
  have hc : (rchk true q).1 = 0 := by rw [← chk_eq]; exact (chk_zero true q).mpr ⟨hv, fun _ => hh⟩
  have hq : ¬ entryFrom name 0 q < 0 := by rw [entry_both hp]; omega
  obtain ⟨kq, hkq⟩ : ∃ kq : Nat, entryFrom name 0 q = kq := ⟨(entryFrom name 0 q).toNat, by omega⟩
  obtain ⟨x, hx, hxn⟩ := entry_at hkq
  obtain ⟨y, hy, hyn⟩ := entry_at hk
  refine ⟨kq, hkq, erase_both hp hx hy ?_, hc⟩
  exact name_inj (hv.perm hp.symm).names (hp.mem_iff.mp (List.mem_of_getElem? hx)) (List.mem_of_getElem? hy) (by rw [hxn, hyn])

theorem step_change {q l : List Ent} {e : Ent} {kl : Nat} (h : queueB q l = true) (hf : entFault e = 0) (hk : entryFrom e.name 0 l = (kl : Int)) : ∃ x, changeF q e.name e.rank = (x, (0, 0)) ∧ queueB x (l.eraseIdx kl ++ [e]) = true := by
  obtain ⟨kq, hkq, hp, hc⟩ := step_entry h hk
  have hr : -1000000 ≤ e.rank ∧ e.rank ≤ 1000000 := by
    unfold entFault at hf
    split at hf
    · simp at hf
    · split at hf
      · assumption
      · simp at hf
  obtain ⟨x, h1, h2⟩ := change_ok hc hkq hr
  exact ⟨x, h1, queueB_perm h2 (hp.append_right [e])⟩

theorem step_remove {q l : List Ent} {name : List UInt8} {kl : Nat} (h : queueB q l = true) (hk : entryFrom name 0 l = (kl : Int)) : ∃ x, removeF q name = (x, (0, 0)) ∧ queueB x (l.eraseIdx kl) = true := by
  obtain ⟨kq, hkq, hp, hc⟩ := step_entry h hk
  obtain ⟨x, h1, h2⟩ := remove_ok hc hkq
  exact ⟨x, h1, queueB_perm h2 hp⟩

theorem step_pop {q l : List Ent} {y : Ent} (h : queueB q l = true) (hne : l ≠ []) (hy : l[firstE l]? = some y) : ∃ x, popF q = (x, y, (0, 0)) ∧ queueB x (l.eraseIdx (firstE l)) = true := by
  obtain ⟨hv, hh, hp⟩ := queueB_iff h
  have hc : (rchk true q).1 = 0 := by rw [← chk_eq]; exact (chk_zero true q).mpr ⟨hv, fun _ => hh⟩
  have hqne : q ≠ [] := by intro e; subst e; exact hne hp.symm.eq_nil
  obtain ⟨x, h1, h2⟩ := pop_ok hc hqne
  obtain ⟨z, hz, hmin⟩ := firstE_min hqne
  obtain ⟨y', hy', hmin'⟩ := firstE_min hne
  rw [hy] at hy'
  cases hy'
  have hzy : z = y := ahead_tri (hmin' z (hp.mem_iff.mp (List.mem_of_getElem? hz))) (hmin y (hp.mem_iff.mpr (List.mem_of_getElem? hy)))
  refine ⟨x, by rw [h1, getD_of hz, hzy], queueB_perm h2 (erase_both hp hz hy hzy)⟩

theorem ren2 {m nt k : Nat} {s s' : Slots} {h : List Blk} {c x : Blk} (hm : m = 0) (h0 : h[0]? = some c) (hc : BlkBel 0 c) (hk : h[k]? = some x) (hx : BlkBel 0 x) (hk0 : k ≠ 0)
    (hs : ∀ kv ∈ s', ∃ v, look s kv.1 = some v ∧ Ren (fun b => if b = 1 then k else b) 2 v kv.2) : Shift Try.prog m nt ⟨s, h⟩ ⟨s', [c, x]⟩ := by
  subst hm
  have hkl := (List.getElem?_eq_some_iff.mp hk).1
  refine Shift.ren (fun b => if b = 1 then k else b) (fun b hb => by omega) (by simp) (fun b b' h1 h2 h3 => ?_) (fun b hb => ?_) (fun b y hy => ?_) hs
  · simp at h1 h2
    split at h3 <;> split at h3 <;> omega
  · simp at hb
    split <;> omega
  · match b, hy with
    | 0, hy => simp at hy; subst hy; exact .inr ⟨h0, hc⟩
    | 1, hy => simp at hy; subst hy; exact .inr ⟨hk, hx⟩
    | b + 2, hy => simp at hy

theorem law9 (steps : List Int) (names : List (List UInt8)) (ranks : List Int) (h1 : steps.length < 2000000) (h2 : names.length < 2000000) (h3 : ranks.length < 2000000) :
    CallP Try.prog 9 [.d (.sl 3 (steps.map encI)), .d (.sl 9 (names.map encS)), .d (.sl 3 (ranks.map encI))] [] (.d (.bool true)) := by
  refine callW tb_ok fn9 (by simp) (fun hok => ?_)
  simp [c9]
  refine (CallP.subs (build_V [] (by simp) _) (by simp [subL])).useV ?_
  have hb0 : buildF [] = ([], (0, 0)) := by decide
  simp [encQF, hb0]
  refine W_loopA (ι := Nat × List Ent × List Ent) (fun p => queueB p.2.1 p.2.2 = true ∧ p.2.2.length ≤ p.1 ∧ p.1 ≤ 100) (fun p => ⟨[(0, .d (.sl 3 (steps.map encI))), (1, .d (.sl 9 (names.map encS))), (2, .d (.sl 3 (ranks.map encI))),
      (7, .d (.sl 40 (p.2.1.map encE))), (8, .ptr 0 24 0 0), (9, .bl 1 40 (p.2.2.map encE)), (10, .d (.int .i64 p.1))], [.cells 24 [.d (encF (0, 0))], .tail 40 p.2.2.length]⟩) (fun p => 100 - p.1) (0, [], []) ⟨by decide, by simp, by simp⟩
    ((Shift.nilbl (i := 9) 40 (by simp)).trans (Shift.slots' (by simp) (by simp))) ?_
  rintro ⟨i, q, l⟩ ⟨hq, hl, hi⟩ A hA
  simp only at hq hl hi
  by_cases hgo : i < steps.length ∧ i < names.length ∧ i < ranks.length ∧ i < 100
  · obtain ⟨g1, g2, g3, g4⟩ := hgo
    obtain ⟨st, hst⟩ : ∃ st, steps[i]? = some st := ⟨_, List.getElem?_eq_getElem g1⟩
    obtain ⟨name, hname⟩ : ∃ x, names[i]? = some x := ⟨_, List.getElem?_eq_getElem g2⟩
    obtain ⟨rank, hrank⟩ : ∃ x, ranks[i]? = some x := ⟨_, List.getElem?_eq_getElem g3⟩
    have hst' := (List.getElem?_eq_some_iff.mp hst).2
    have hname' := (List.getElem?_eq_some_iff.mp hname).2
    have hrank' := (List.getElem?_eq_some_iff.mp hrank).2
    have hql : q.length = l.length := (queueB_iff hq).2.2.length_eq
    obtain ⟨e, he⟩ : ∃ e : Ent, e = ⟨name, rank⟩ := ⟨_, rfl⟩
    have hen : e.name = name := by rw [he]
    have her : e.rank = rank := by rw [he]
    simp (disch := first | omega | (simp; done) | (simp; omega)) [ltT, ltF, leT, leF, eqT', eqF, ltTn, leTn, ltFn, leFn, wrapI, mid, hst, hname, hrank, hst', hname', hrank', encI, encS]
    refine regV_nil ?_
    have hfold : D.agg [.str name, .int .i64 rank] = encE e := by rw [he]; rfl
    simp (disch := first | omega | (simp; done) | (simp; omega)) [ltT, ltF, leT, leF, eqT', eqF, ltTn, leTn, ltFn, leFn, wrapI, mid, hst, hname, hrank, hst', hname', hrank', encI, encS, hfold]
    refine (CallP.subs (entryIdx_V l e.name (by omega) _) (by simp [subL, hen])).useV ?_
    simp (disch := first | omega | (simp; done) | (simp; omega)) [ltT, ltF, leT, leF, eqT', eqF, ltTn, leTn, ltFn, leFn, wrapI, mid, ]
    refine (entryFault_V e _).useV ?_
    have hcont : ∀ s : Slots, look s 0 = some (.d (.sl 3 (steps.map encI))) → look s 1 = some (.d (.sl 9 (names.map encS))) → look s 2 = some (.d (.sl 3 (ranks.map encI))) → look s 7 = some (.d (.sl 40 (q.map encE))) →
        look s 8 = some (.ptr 0 24 0 0) → look s 9 = some (.bl 1 40 (l.map encE)) → look s 10 = some (.d (.int .i64 (i + 1))) → A ⟨s, [.cells 24 [.d (encF (0, 0))], .tail 40 l.length, .cells 40 [.d (encE e)]]⟩ := by
      intro s k0 k1 k2 k7 k8 k9 k10
      refine hA (i + 1, q, l) _ ⟨hq, by simp; omega, by simp; omega⟩ (by simp; omega) (Shift.weak' (g := [.cells 40 [.d (encE e)]]) (by simp) (by intro x hx; simp at hx; rcases hx with rfl | rfl <;> simp [BlkBel]) (by simp) (by simp [k0, k1, k2, k7, k8, k9, k10]))
    by_cases hf : entFault e = 0
    · simp (disch := first | omega | (simp; done) | (simp; omega)) [ltT, ltF, leT, leF, eqT', eqF, ltTn, leTn, ltFn, leFn, wrapI, mid, hf, hst, hst', encI]
      refine (in_V _ _ _ _).useV ?_
      by_cases hin : 0 ≤ st ∧ st ≤ 3
      · have hst4 : st = 0 ∨ st = 1 ∨ st = 2 ∨ st = 3 := by omega
        rcases hst4 with rfl | rfl | rfl | rfl
        · by_cases hk : 0 ≤ entryFrom e.name 0 l
          · simp (disch := first | omega | (simp; done) | (simp; omega)) [ltT, ltF, leT, leF, eqT', eqF, ltTn, leTn, ltFn, leFn, wrapI, mid, hst, hst', encI]
            apply hcont <;> simp
          · obtain ⟨x, hx, hqx⟩ := step_add hq (by omega) hf (by omega)
            simp (disch := first | omega | (simp; done) | (simp; omega)) [ltT, ltF, leT, leF, eqT', eqF, ltTn, leTn, ltFn, leFn, wrapI, mid, hst, hst', encI]
            refine (add_V q e (by omega) _).useV ?_
            simp (disch := first | omega | (simp; done) | (simp; omega)) [ltT, ltF, leT, leF, eqT', eqF, ltTn, leTn, ltFn, leFn, wrapI, mid, encQF, hx]
            refine (CallP.subs (queue_V x (l ++ [e]) (by simp; omega) _) (by simp [subL])).useV ?_
            simp (disch := first | omega | (simp; done) | (simp; omega)) [ltT, ltF, leT, leF, eqT', eqF, ltTn, leTn, ltFn, leFn, wrapI, mid, hqx]
            exact hA (i + 1, x, l ++ [e]) _ ⟨hqx, by simp; omega, by simp; omega⟩ (by simp; omega) (Shift.weak' (g := [.cells 40 [.d (encE e)]]) (by simp) (by intro x hx; simp at hx; rcases hx with rfl | rfl <;> simp [BlkBel]) (by simp) (by simp))
        · by_cases hk : entryFrom e.name 0 l < 0
          · simp (disch := first | omega | (simp; done) | (simp; omega)) [ltT, ltF, leT, leF, eqT', eqF, ltTn, leTn, ltFn, leFn, wrapI, mid, hst, hst', encI]
            apply hcont <;> simp
          · obtain ⟨kl, hkl⟩ : ∃ kl : Nat, entryFrom e.name 0 l = kl := ⟨(entryFrom e.name 0 l).toNat, by omega⟩
            obtain ⟨y, hy, _⟩ := entry_at hkl
            have hkl' := (List.getElem?_eq_some_iff.mp hy).1
            have hel := (List.eraseIdx_sublist l kl).length_le
            have hel2 : (l.eraseIdx kl).length + 1 = l.length := by have := (erase_perm hy).length_eq; simpa using this
            obtain ⟨x, hx, hqx⟩ := step_change hq hf hkl
            simp (disch := first | omega | (simp; done) | (simp; omega)) [ltT, ltF, leT, leF, eqT', eqF, ltTn, leTn, ltFn, leFn, wrapI, mid, hst, hst', encI, hkl]
            refine (change_V q e.name e.rank (by omega) _).useV ?_
            simp (disch := first | omega | (simp; done) | (simp; omega)) [ltT, ltF, leT, leF, eqT', eqF, ltTn, leTn, ltFn, leFn, wrapI, mid, encQF, hx]
            refine regV_all ?_
            simp (disch := first | omega | (simp; done) | (simp; omega)) [ltT, ltF, leT, leF, eqT', eqF, ltTn, leTn, ltFn, leFn, wrapI, mid]
            refine callV_of (CallW.sub (withoutRef_B l kl hkl' (by omega) _) (by simp [subL])) ?_
            rintro _ _ ⟨rfl, rfl⟩
            simp (disch := first | omega | (simp; done) | (simp; omega)) [ltT, ltF, leT, leF, eqT', eqF, ltTn, leTn, ltFn, leFn, wrapI, mid]
            refine (CallP.subs (queue_V x (l.eraseIdx kl ++ [e]) (by rw [List.length_append, List.length_singleton]; omega) _) (by simp [subL])).useV ?_
            simp (disch := first | omega | (simp; done) | (simp; omega)) [ltT, ltF, leT, leF, eqT', eqF, ltTn, leTn, ltFn, leFn, wrapI, mid, hqx]
            refine hA (i + 1, x, l.eraseIdx kl ++ [e]) _ ⟨hqx, by rw [List.length_append, List.length_singleton]; omega, by simp; omega⟩ (by simp; omega) ?_
            exact ren2 (k := 3) rfl (by simp) (by simp [BlkBel]) (by simp) (by simp [BlkBel]) (by simp) (by simp; exact ⟨Ren.ptr (b := 0) (by omega), Ren.bl (b := 1) (by omega)⟩)
        · by_cases hk : entryFrom e.name 0 l < 0
          · simp (disch := first | omega | (simp; done) | (simp; omega)) [ltT, ltF, leT, leF, eqT', eqF, ltTn, leTn, ltFn, leFn, wrapI, mid, hst, hst', encI]
            apply hcont <;> simp
          · obtain ⟨kl, hkl⟩ : ∃ kl : Nat, entryFrom e.name 0 l = kl := ⟨(entryFrom e.name 0 l).toNat, by omega⟩
            obtain ⟨y, hy, _⟩ := entry_at hkl
            have hkl' := (List.getElem?_eq_some_iff.mp hy).1
            have hel := (List.eraseIdx_sublist l kl).length_le
            obtain ⟨x, hx, hqx⟩ := step_remove hq hkl
            simp (disch := first | omega | (simp; done) | (simp; omega)) [ltT, ltF, leT, leF, eqT', eqF, ltTn, leTn, ltFn, leFn, wrapI, mid, hst, hst', encI, hkl]
            refine (remove_V q e.name (by omega) _).useV ?_
            simp (disch := first | omega | (simp; done) | (simp; omega)) [ltT, ltF, leT, leF, eqT', eqF, ltTn, leTn, ltFn, leFn, wrapI, mid, encQF, hx]
            refine callV_of (CallW.sub (withoutRef_B l kl hkl' (by omega) _) (by simp [subL])) ?_
            rintro _ _ ⟨rfl, rfl⟩
            simp (disch := first | omega | (simp; done) | (simp; omega)) [ltT, ltF, leT, leF, eqT', eqF, ltTn, leTn, ltFn, leFn, wrapI, mid]
            refine (CallP.subs (queue_V x (l.eraseIdx kl) (by omega) _) (by simp [subL])).useV ?_
            simp (disch := first | omega | (simp; done) | (simp; omega)) [ltT, ltF, leT, leF, eqT', eqF, ltTn, leTn, ltFn, leFn, wrapI, mid, hqx]
            refine hA (i + 1, x, l.eraseIdx kl) _ ⟨hqx, by show (l.eraseIdx kl).length ≤ i + 1; omega, by simp; omega⟩ (by simp; omega) ?_
            exact ren2 (k := 3) rfl (by simp) (by simp [BlkBel]) (by simp) (by simp [BlkBel]) (by simp) (by simp; exact ⟨Ren.ptr (b := 0) (by omega), Ren.bl (b := 1) (by omega)⟩)
        · by_cases hne : l = []
          · simp (disch := first | omega | (simp; done) | (simp; omega)) [ltT, ltF, leT, leF, eqT', eqF, ltTn, leTn, ltFn, leFn, wrapI, mid, hst, hst', encI, hne]
            subst hne
            apply hcont <;> simp
          · have hpos : 0 < l.length := List.length_pos_iff.mpr hne
            obtain ⟨y, hy, _⟩ := firstE_min hne
            have hkl' := (List.getElem?_eq_some_iff.mp hy).1
            have hy' := (List.getElem?_eq_some_iff.mp hy).2
            have hel := (List.eraseIdx_sublist l (firstE l)).length_le
            obtain ⟨x, hx, hqx⟩ := step_pop hq hne hy
            simp (disch := first | omega | (simp; done) | (simp; omega)) [ltT, ltF, leT, leF, eqT', eqF, ltTn, leTn, ltFn, leFn, wrapI, mid, hst, hst', encI, hne]
            refine (CallP.subs (first_V l (by omega) _) (by simp [subL])).useV ?_
            simp (disch := first | omega | (simp; done) | (simp; omega)) [ltT, ltF, leT, leF, eqT', eqF, ltTn, leTn, ltFn, leFn, wrapI, mid]
            refine (pop_V q (by omega) _).useV ?_
            simp (disch := first | omega | (simp; done) | (simp; omega)) [ltT, ltF, leT, leF, eqT', eqF, ltTn, leTn, ltFn, leFn, wrapI, mid, encQEF, hx, hy, hy']
            refine callV_of (CallW.sub (withoutRef_B l (firstE l) hkl' (by omega) _) (by simp [subL])) ?_
            rintro _ _ ⟨rfl, rfl⟩
            simp (disch := first | omega | (simp; done) | (simp; omega)) [ltT, ltF, leT, leF, eqT', eqF, ltTn, leTn, ltFn, leFn, wrapI, mid]
            refine (CallP.subs (queue_V x (l.eraseIdx (firstE l)) (by omega) _) (by simp [subL])).useV ?_
            simp (disch := first | omega | (simp; done) | (simp; omega)) [ltT, ltF, leT, leF, eqT', eqF, ltTn, leTn, ltFn, leFn, wrapI, mid, hqx]
            refine hA (i + 1, x, l.eraseIdx (firstE l)) _ ⟨hqx, by show (l.eraseIdx (firstE l)).length ≤ i + 1; omega, by simp; omega⟩ (by simp; omega) ?_
            exact ren2 (k := 4) rfl (by simp) (by simp [BlkBel]) (by simp) (by simp [BlkBel]) (by simp) (by simp; exact ⟨Ren.ptr (b := 0) (by omega), Ren.bl (b := 1) (by omega)⟩)
      · simp (disch := first | omega | (simp; done) | (simp; omega)) [ltT, ltF, leT, leF, eqT', eqF, ltTn, leTn, ltFn, leFn, wrapI, mid, hin]
        apply hcont <;> simp
    · simp (disch := first | omega | (simp; done) | (simp; omega)) [ltT, ltF, leT, leF, eqT', eqF, ltTn, leTn, ltFn, leFn, wrapI, mid, hf]
      apply hcont <;> simp
  · by_cases g1 : i < steps.length
    · by_cases g2 : i < names.length
      · by_cases g3 : i < ranks.length
        · have g4 : ¬ i < 100 := fun g4 => hgo ⟨g1, g2, g3, g4⟩
          simp (disch := first | omega | (simp; done) | (simp; omega)) [ltT, ltF, leT, leF, eqT', eqF, ltTn, leTn, ltFn, leFn, wrapI, mid]
          refine (queued_V _).useV ?_
          simp
          exact rshift_d' (h := []) hok rfl
        · simp (disch := first | omega | (simp; done) | (simp; omega)) [ltT, ltF, leT, leF, eqT', eqF, ltTn, leTn, ltFn, leFn, wrapI, mid]
          refine (queued_V _).useV ?_
          simp
          exact rshift_d' (h := []) hok rfl
      · simp (disch := first | omega | (simp; done) | (simp; omega)) [ltT, ltF, leT, leF, eqT', eqF, ltTn, leTn, ltFn, leFn, wrapI, mid]
        refine (queued_V _).useV ?_
        simp
        exact rshift_d' (h := []) hok rfl
    · simp (disch := first | omega | (simp; done) | (simp; omega)) [ltT, ltF, leT, leF, eqT', eqF, ltTn, leTn, ltFn, leFn, wrapI, mid]
      refine (queued_V _).useV ?_
      simp
      exact rshift_d' (h := []) hok rfl

end Go.Vm
