/- date: Parse. -/
import Derived.Test.YtjjpkeajlgbleaaDoorDt23
namespace Go.Vm
open Proofs
set_option maxRecDepth 20000
set_option maxHeartbeats 4000000
set_option linter.unusedSimpArgs false

def left (n : Nat) (s : List Nat) : Nat := ((List.range n).filter fun i => !s.contains i).length
theorem left_lt {n i : Nat} {s : List Nat} (hi : i < n) (hs : i ∉ s) : left n (s ++ [i]) < left n s := by
  unfold left
  have e : (List.range n).filter (fun j => !(s ++ [i]).contains j) = ((List.range n).filter fun j => !s.contains j).filter fun j => !(j == i) := by
    rw [List.filter_filter]
    congr 1
    funext j
    by_cases hji : j = i <;> by_cases hjs : j ∈ s <;> simp [hji, hjs]
  rw [e, List.length_filter_lt_length_iff_exists]
  exact ⟨i, by simp [hi, hs], by simp⟩

theorem encFd_at {fd : Fd} {i : Nat} {k : D} {x : AV} (h : (encFd fd)[i]? = some (k, x)) : ∃ y, fd[i]? = some y ∧ k = .int .u8 (y.1.toNat : Int) ∧ x = .d (.int .i64 y.2) := by
  simp only [encFd, List.getElem?_map, Option.map_eq_some_iff, Prod.mk.injEq] at h
  obtain ⟨y, h1, h2, h3⟩ := h
  exact ⟨y, h1, h2.symm, h3.symm⟩

theorem readS_byte {c : UInt8} (h : c ≠ 37) (l tr : List UInt8) (fd : Fd) (cf : Bool) : readS (c :: l) tr fd cf = if (byteS c tr).1 = true then readS l (byteS c tr).2 fd cf else (false, (byteS c tr).2, fd, cf) := by
  cases l with
  | nil =>
    simp only [readS]
    cases (byteS c tr).1 <;> rfl
  | cons e l => rw [readS, if_pos h]
theorem readS_dir (e : UInt8) (l tr : List UInt8) (fd : Fd) (cf : Bool) : readS (37 :: e :: l) tr fd cf = if (dirS e (widP e) (nsP e) tr fd cf).1 = true then readS l (dirS e (widP e) (nsP e) tr fd cf).2.1 (dirS e (widP e) (nsP e) tr fd cf).2.2.1 (dirS e (widP e) (nsP e) tr fd cf).2.2.2
    else (false, (dirS e (widP e) (nsP e) tr fd cf).2.1, (dirS e (widP e) (nsP e) tr fd cf).2.2.1, (dirS e (widP e) (nsP e) tr fd cf).2.2.2) := by
  rw [readS, if_neg (by simp)]
  split
  · rfl
  · rename_i hf
    have : (dirS e (widP e) (nsP e) tr fd cf).1 = false := Bool.eq_false_iff.mpr hf
    rw [← this]
theorem patFrom_byte {f : Int} {c : UInt8} (h : c ≠ 37) {l : List UInt8} {i : Nat} (hz : (patFrom f i (c :: l)).1 = 0) : (patFrom f (i + 1) l).1 = 0 := by
  cases l with
  | nil => rfl
  | cons e l => rw [patFrom, if_pos h] at hz; exact hz
theorem ns_ok (e : UInt8) : ∀ l, nsP e = some l → l ≠ [] ∧ l.length ≤ 1000 := by
  intro l hl
  unfold nsP at hl
  split at hl
  · cases hl; decide
  · split at hl
    · cases hl; decide
    · cases hl
theorem wid_le (e : UInt8) : widP e ≤ 4 := by
  unfold widP
  repeat' split
  all_goals omega

theorem parse_V (text p : List UInt8) (ht : text.length ≤ 1048576) (hp : p.length ≤ 1048576) (h : List Blk) : CallP Tryd.prog 39 [.d (.str text), .d (.str p)] h (.tup [.d (encMo (parseS text p).1), .d (encF (parseS text p).2)]) := by
  refine callW tb_ok fn39 (by simp) (fun hok => ?_)
  simp (disch := first | omega | (simp; done) | (simp; omega)) [ltT, ltF, leT, leF, eqT', eqF, ltTn, leTn, ltFn, leFn, wrapI, mid, c39]
  refine (checkPattern_V p 1000 hp (by omega) (by omega) _).useV ?_
  by_cases h2 : (patF 1000 p).1 ≠ 0
  · rw [show parseS text p = (mo0, patF 1000 p) from by unfold parseS; rw [if_pos h2]]
    simp (disch := first | omega | (simp; done) | (simp; omega)) [ltT, ltF, leT, leF, eqT', eqF, ltTn, leTn, ltFn, leFn, wrapI, mid, h2]
    refine regV_all ?_
    simp (disch := first | omega | (simp; done) | (simp; omega)) [ltT, ltF, leT, leF, eqT', eqF, ltTn, leTn, ltFn, leFn, wrapI, mid, h2]
    exact RShift.subs ⟨.refl _, .refl _, trivial⟩ (by simp) hok (Nat.le_refl _)
  have hp2 : p.length ≤ 200 := by
    unfold patF at h2
    by_cases c : 200 < p.length
    · rw [if_pos c] at h2; simp at h2
    · omega
  have hpz : (patFrom 1000 0 p).1 = 0 := by
    unfold patF at h2
    rw [if_neg (by omega)] at h2
    simpa using h2
  have hps : ∀ R, readS p text [] false = R → parseS text p = (if R.1 = false ∨ R.2.1 ≠ [] then (mo0, (1, (text.length - R.2.1.length : Nat))) else if R.2.2.2 = true then (mo0, (19, -1)) else
      if (momF (momA R.2.2.1)).1 ≠ 0 then (mo0, (4, -3)) else if R.2.2.1.all (fun x => decide (valS (momA R.2.2.1) x.1 = x.2)) = true then (momA R.2.2.1, (0, 0)) else (mo0, (19, -4)) : Mo × (Int × Int)) := by
    rintro _ rfl
    unfold parseS
    rw [if_neg h2]
  generalize parseS text p = res at hps ⊢
  obtain ⟨pf, hpf⟩ : ∃ pf, pf = patF 1000 p := ⟨_, rfl⟩
  rw [← hpf] at h2
  simp (disch := first | omega | (simp; done) | (simp; omega)) [ltT, ltF, leT, leF, eqT', eqF, ltTn, leTn, ltFn, leFn, wrapI, mid, h2, ← hpf]
  refine callV_of (directives_V _) ?_
  rintro _ _ ⟨rfl, rfl⟩
  simp (disch := first | omega | (simp; done) | (simp; omega)) [ltT, ltF, leT, leF, eqT', eqF, ltTn, leTn, ltFn, leFn, wrapI, mid]
  obtain ⟨R, hR⟩ : ∃ R, readS p text [] false = R := ⟨_, rfl⟩
  have hres := hps R hR
  clear hps
  refine W_loopA (ι := List UInt8 × List UInt8 × Bool × List UInt8 × Fd × Bool) (fun q => q.1 ++ q.2.1 = p ∧ (∃ x, x ++ q.2.2.2.1 = text) ∧ (patFrom 1000 q.1.length q.2.1).1 = 0 ∧ KeyOk q.2.2.2.2.1 ∧
      (if q.2.2.1 = true then readS q.2.1 q.2.2.2.1 q.2.2.2.2.1 q.2.2.2.2.2 else (false, q.2.2.2.1, q.2.2.2.2.1, q.2.2.2.2.2)) = R)
    (fun q => ⟨[(0, .d (.str text)), (1, .d (.str p)), (4, .ptr h.length 23 0 0), (5, .ptr (h.length + 1) 25 0 0), (7, .map (h.length + 3)), (8, .ptr (h.length + 5) 89 0 0), (9, .d (.bool q.2.2.1)), (10, .d (.int .i64 q.1.length))],
      h ++ [.cells 23 [.d (encMo mo0)], .cells 25 [.d (encF (0, 0))], .cells 25 [.d (encF pf)], .map dirEs, .map (encFd q.2.2.2.2.1), rdK text (text.length - q.2.2.2.1.length : Nat) (h.length + 4) q.2.2.2.2.2]⟩)
    (fun q => q.2.1.length) ([], p, true, text, [], false) ⟨rfl, ⟨[], rfl⟩, hpz, fun _ hx => (List.not_mem_nil hx).elim, by simpa using hR⟩ ?_ ?_
  · refine Shift.slots' ?_ (by simp)
    simp [rdK, encFd, mo0]
  rintro ⟨P, q, b, tr, fd, cf⟩ ⟨hx, ⟨tp, htp⟩, hz, hk, hr⟩ A hA
  simp only at hx htp hz hk hr
  have htl : text.length = tp.length + tr.length := by rw [← htp]; simp
  match q, hx, hz, hr, hA with
  | [], hx, hz, hr, hA =>
    have hRR : R = (b, tr, fd, cf) := by rw [← hr]; cases b <;> simp [readS]
    subst hRR
    have hPl : P.length = p.length := by rw [← hx]; simp
    cases b with
    | false =>
      rw [if_pos (.inl rfl)] at hres
      rw [hres]
      simp (disch := first | omega | (simp; done) | (simp; omega)) [ltT, ltF, leT, leF, eqT', eqF, ltTn, leTn, ltFn, leFn, wrapI, mid, hPl, rdK, mo0]
      refine regV_all ?_
      simp (disch := first | omega | (simp; done) | (simp; omega)) [ltT, ltF, leT, leF, eqT', eqF, ltTn, leTn, ltFn, leFn, wrapI, mid, rdK, mo0]
      exact RShift.subs ⟨.refl _, .refl _, trivial⟩ (by simp) hok (Nat.le_refl _)
    | true =>
      by_cases htr : tr ≠ []
      · rw [if_pos (.inr htr)] at hres
        rw [hres]
        have : 0 < tr.length := List.length_pos_iff.mpr htr
        simp (disch := first | omega | (simp; done) | (simp; omega)) [ltT, ltF, leT, leF, eqT', eqF, ltTn, leTn, ltFn, leFn, wrapI, mid, hPl, rdK, mo0]
        refine regV_all ?_
        simp (disch := first | omega | (simp; done) | (simp; omega)) [ltT, ltF, leT, leF, eqT', eqF, ltTn, leTn, ltFn, leFn, wrapI, mid, rdK, mo0]
        exact RShift.subs ⟨.refl _, .refl _, trivial⟩ (by simp) hok (Nat.le_refl _)
      have htr' : tr = [] := by simpa using htr
      subst htr'
      rw [if_neg (by simp)] at hres
      cases cf with
      | true =>
        rw [if_pos rfl] at hres
        rw [hres]
        simp (disch := first | omega | (simp; done) | (simp; omega)) [ltT, ltF, leT, leF, eqT', eqF, ltTn, leTn, ltFn, leFn, wrapI, mid, hPl, rdK, mo0]
        exact RShift.subs ⟨.refl _, .refl _, trivial⟩ (by simp) hok (Nat.le_refl _)
      | false =>
        rw [if_neg (by simp)] at hres
        simp (disch := first | omega | (simp; done) | (simp; omega)) [ltT, ltF, leT, leF, eqT', eqF, ltTn, leTn, ltFn, leFn, wrapI, mid, hPl, rdK, mo0]
        refine (moment_V (r := h.length + 5) (mb := h.length + 4) (cf := false) (text := text) (k := text.length) (fd := fd) ?_ ?_).useV ?_
        · simp [rdK]
        · simp
        obtain ⟨m, hm⟩ : ∃ m, momA fd = m := ⟨_, rfl⟩
        simp only [hm] at hres ⊢
        simp (disch := first | omega | (simp; done) | (simp; omega)) [ltT, ltF, leT, leF, eqT', eqF, ltTn, leTn, ltFn, leFn, wrapI, mid]
        refine (check_V m _).useV ?_
        by_cases h3 : (momF m).1 ≠ 0
        · rw [if_pos h3] at hres
          rw [hres]
          simp (disch := first | omega | (simp; done) | (simp; omega)) [ltT, ltF, leT, leF, eqT', eqF, ltTn, leTn, ltFn, leFn, wrapI, mid, h3, mo0]
          exact RShift.subs ⟨.refl _, .refl _, trivial⟩ (by simp) hok (Nat.le_refl _)
        rw [if_neg h3] at hres
        obtain ⟨hmz, hmok⟩ := momF_ok h3
        simp (disch := first | omega | (simp; done) | (simp; omega)) [ltT, ltF, leT, leF, eqT', eqF, ltTn, leTn, ltFn, leFn, wrapI, mid, hmz]
        clear hA
        refine W_loopA (ι := List Nat) (fun s => ∀ i ∈ s, ∀ y, fd[i]? = some y → valS m y.1 = y.2)
          (fun s => ⟨[(4, .ptr h.length 23 0 0), (5, .ptr (h.length + 1) 25 0 0), (7, .map (h.length + 3)), (11, .ptr (h.length + 6) 23 0 0), (91, .iter (h.length + 7))],
            h ++ [.cells 23 [.d (encMo mo0)], .cells 25 [.d (encF (0, 0))], .cells 25 [.d (encF pf)], .map dirEs, .map (encFd fd), rdK text text.length (h.length + 4) false, .cells 23 [.d (encMo m)], .iter (h.length + 4) fd.length s]⟩)
          (left fd.length) [] (by simp) (Shift.slots' (by simp [rdK, encFd, mo0]) (by simp)) ?_
        rintro s hs A hA
        simp (disch := first | omega | (simp; done) | (simp; omega)) [ltT, ltF, leT, leF, eqT', eqF, ltTn, leTn, ltFn, leFn, wrapI, mid]
        refine nextV_of (mb := h.length + 4) (cnt := fd.length) (seen := s) (es := encFd fd) (by simp) (by simp) (by simp [encFd]) ?_ ?_
        · intro i k x hi hns
          obtain ⟨y, hy, rfl, rfl⟩ := encFd_at hi
          have hil : i < fd.length := (List.getElem?_eq_some_iff.mp hy).1
          obtain ⟨g, w, ns, hf, hg⟩ := find_val (hk y (List.mem_of_getElem? hy))
          have hlen : (encFd fd).length = fd.length := by simp [encFd]
          have hi2 := (List.getElem?_eq_some_iff.mp hi).2
          simp (disch := first | omega | (simp; done) | (simp; omega)) [ltT, ltF, leT, leF, eqT', eqF, ltTn, leTn, ltFn, leFn, wrapI, mid, hi, hi2, hf, encDir, hlen]
          refine (hg m hmok _).useV ?_
          by_cases hv : valS m y.1 = y.2
          · simp (disch := first | omega | (simp; done) | (simp; omega)) [ltT, ltF, leT, leF, eqT', eqF, ltTn, leTn, ltFn, leFn, wrapI, mid, eq_true hv]
            exact hA (s ++ [i]) _ (fun j hj z hz => by
              rcases List.mem_append.mp hj with hj | hj
              · exact hs j hj z hz
              · simp at hj
                subst hj
                rw [hy] at hz
                cases hz
                exact hv) (left_lt hil hns) (Shift.slots' (by simp) (by simp))
          · have : fd.all (fun x => decide (valS m x.1 = x.2)) = false := by
              rw [List.all_eq_false]
              exact ⟨y, List.mem_of_getElem? hy, by simpa using hv⟩
            rw [if_neg (by rw [this]; simp)] at hres
            rw [hres]
            simp (disch := first | omega | (simp; done) | (simp; omega)) [ltT, ltF, leT, leF, eqT', eqF, ltTn, leTn, ltFn, leFn, wrapI, mid, eq_false hv, mo0]
            exact RShift.subs ⟨.refl _, .refl _, trivial⟩ (by simp) hok (Nat.le_refl _)
        · intro hall
          have : fd.all (fun x => decide (valS m x.1 = x.2)) = true := by
            rw [List.all_eq_true]
            intro y hy
            obtain ⟨i, hi⟩ := List.getElem?_of_mem hy
            have hil : i < fd.length := (List.getElem?_eq_some_iff.mp hi).1
            simpa using hs i (hall i (by simpa [encFd] using hil)) y hi
          rw [if_pos this] at hres
          rw [hres]
          simp (disch := first | omega | (simp; done) | (simp; omega)) [ltT, ltF, leT, leF, eqT', eqF, ltTn, leTn, ltFn, leFn, wrapI, mid, mo0]
          exact RShift.subs ⟨.refl _, .refl _, trivial⟩ (by simp) hok (Nat.le_refl _)
  | c :: l, hx, hz, hr, hA =>
    have hPl : P.length < p.length := by rw [← hx]; simp
    cases b with
    | false =>
      have hRR : R = (false, tr, fd, cf) := by rw [← hr]; rfl
      subst hRR
      rw [if_pos (.inl rfl)] at hres
      rw [hres]
      simp (disch := first | omega | (simp; done) | (simp; omega)) [ltT, ltF, leT, leF, eqT', eqF, ltTn, leTn, ltFn, leFn, wrapI, mid, hPl, rdK, mo0]
      refine regV_all ?_
      simp (disch := first | omega | (simp; done) | (simp; omega)) [ltT, ltF, leT, leF, eqT', eqF, ltTn, leTn, ltFn, leFn, wrapI, mid, rdK, mo0]
      exact RShift.subs ⟨.refl _, .refl _, trivial⟩ (by simp) hok (Nat.le_refl _)
    | true =>
      have hr' : readS (c :: l) tr fd cf = R := by simpa using hr
      subst hx
      simp only [List.length_append, List.length_cons] at hPl hp hp2
      have hk2 : text.length - tr.length = tp.length := by omega
      rw [hk2]
      by_cases hc : c = 37
      · subst hc
        match l, hz, hr', hA, hPl, hp, hp2 with
        | [], hz, hr', hA, hPl, hp, hp2 => simp [patFrom] at hz
        | e :: l, hz, hr', hA, hPl, hp, hp2 =>
          rw [patFrom, if_neg (by simp)] at hz
          have hlet : letL.contains e = true := by
            cases hl : letL.contains e with
            | true => rfl
            | false => rw [hl] at hz; simp at hz
          rw [if_pos hlet] at hz
          rw [readS_dir] at hr'
          simp only [List.length_cons] at hPl hp hp2
          by_cases he : e = 37
          · subst he
            simp (disch := first | omega | (simp; done) | (simp; omega)) [ltT, ltF, leT, leF, eqT', eqF, ltTn, leTn, ltFn, leFn, wrapI, mid, find_37]
            refine callV_of (directive_V (r := h.length + 5) (mb := h.length + 4) (w := widP 37) (cf := cf) (pre := tp) (rest := tr) (text := text) (fd := fd) (c := 37) (ns := nsP 37) (g := .nilfn) htp ?_ ?_ (by omega) ht (wid_le _) (ns_ok _) rfl rfl) ?_
            · simp
            · simp
            rintro _ _ ⟨rfl, rfl⟩
            obtain ⟨x, hx⟩ := dirS_suf 37 (widP 37) (nsP 37) tr fd cf
            have hkk : KeyOk (dirS 37 (widP 37) (nsP 37) tr fd cf).2.2.1 := dir_keys hk hlet
            generalize dirS 37 (widP 37) (nsP 37) tr fd cf = q at hr' hx hkk ⊢
            simp (disch := first | omega | (simp; done) | (simp; omega)) [ltT, ltF, leT, leF, eqT', eqF, ltTn, leTn, ltFn, leFn, wrapI, mid, rdH]
            exact hA (P ++ [37, 37], l, q.1, q.2.1, q.2.2.1, q.2.2.2) _ ⟨by simp, ⟨tp ++ x, by show tp ++ x ++ q.2.1 = text; rw [List.append_assoc, ← hx, htp]⟩, by simpa using hz, hkk, hr'⟩ (by simp only [List.length_cons]; omega) (Shift.slots' (by simp) (by simp [Int.add_assoc]))
          · obtain ⟨g, hf⟩ := find_dir hlet he
            simp (disch := first | omega | (simp; done) | (simp; omega)) [ltT, ltF, leT, leF, eqT', eqF, ltTn, leTn, ltFn, leFn, wrapI, mid, hf]
            refine callV_of (directive_V (r := h.length + 5) (mb := h.length + 4) (w := widP e) (cf := cf) (pre := tp) (rest := tr) (text := text) (fd := fd) (c := e) (ns := nsP e) (g := .fn g) htp ?_ ?_ (by omega) ht (wid_le _) (ns_ok _) rfl rfl) ?_
            · simp
            · simp
            rintro _ _ ⟨rfl, rfl⟩
            obtain ⟨x, hx⟩ := dirS_suf e (widP e) (nsP e) tr fd cf
            have hkk : KeyOk (dirS e (widP e) (nsP e) tr fd cf).2.2.1 := dir_keys hk hlet
            generalize dirS e (widP e) (nsP e) tr fd cf = q at hr' hx hkk ⊢
            simp (disch := first | omega | (simp; done) | (simp; omega)) [ltT, ltF, leT, leF, eqT', eqF, ltTn, leTn, ltFn, leFn, wrapI, mid, rdH]
            exact hA (P ++ [37, e], l, q.1, q.2.1, q.2.2.1, q.2.2.2) _ ⟨by simp, ⟨tp ++ x, by show tp ++ x ++ q.2.1 = text; rw [List.append_assoc, ← hx, htp]⟩, by simpa using hz, hkk, hr'⟩ (by simp only [List.length_cons]; omega) (Shift.slots' (by simp) (by simp [Int.add_assoc]))
      · rw [readS_byte hc] at hr'
        simp (disch := first | omega | (simp; done) | (simp; omega)) [ltT, ltF, leT, leF, eqT', eqF, ltTn, leTn, ltFn, leFn, wrapI, mid, u8_37, eq_false hc]
        refine callV_of (rbyte_V (c := c) (r := h.length + 5) (mb := h.length + 4) (cf := cf) (pre := tp) (rest := tr) ?_ ?_ ?_) ?_
        · simp [htp]
        · simp
        · rw [htp]; exact ht
        rintro _ _ ⟨rfl, rfl⟩
        rw [htp]
        simp (disch := first | omega | (simp; done) | (simp; omega)) [ltT, ltF, leT, leF, eqT', eqF, ltTn, leTn, ltFn, leFn, wrapI, mid]
        obtain ⟨x, hx⟩ := byteS_suf c tr
        exact hA (P ++ [c], l, (byteS c tr).1, (byteS c tr).2, fd, cf) _ ⟨by simp, ⟨tp ++ x, by show tp ++ x ++ (byteS c tr).2 = text; rw [List.append_assoc, ← hx, htp]⟩, by simpa using patFrom_byte hc hz, hk, hr'⟩ (by simp) (Shift.slots' (by simp) (by simp))

end Go.Vm
