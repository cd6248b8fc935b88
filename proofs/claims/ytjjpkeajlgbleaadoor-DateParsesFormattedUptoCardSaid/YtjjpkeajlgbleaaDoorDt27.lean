/- date: what the program reads is what the reference reads. -/
import Derived.Test.YtjjpkeajlgbleaaDoorDt26
namespace Go.Vm
open Proofs
set_option maxRecDepth 20000
set_option maxHeartbeats 1000000
set_option linter.unusedSimpArgs false
set_option linter.unusedVariables false

theorem fdGet_put : ∀ (fd : Fd) (c d : UInt8) (n : Int), fdGet (fdPut fd c n) d = if d = c then some n else fdGet fd d
  | [], c, d, n => rfl
  | p :: r, c, d, n => by
    have ih := fdGet_put r c d n
    unfold fdPut
    by_cases e : c = p.1
    · rw [if_pos e]
      simp only [fdGet]
      by_cases e2 : d = c
      · simp [e2]
      · rw [if_neg e2, if_neg e2, if_neg (by rw [← e]; exact e2)]
    · rw [if_neg e]
      simp only [fdGet, ih]
      by_cases e2 : d = p.1
      · rw [if_pos e2, if_neg (by rw [e2]; exact fun h => e h.symm), if_pos e2]
      · rw [if_neg e2, if_neg e2]
theorem put_map : ∀ (fd : Fd) (c : UInt8) (n : Int), (fdPut fd c n).map (·.1) = if c ∈ fd.map (·.1) then fd.map (·.1) else fd.map (·.1) ++ [c]
  | [], c, n => rfl
  | p :: r, c, n => by
    have ih := put_map r c n
    unfold fdPut
    by_cases e : c = p.1
    · rw [if_pos e, if_pos (by simp [e])]
      simp [e]
    · rw [if_neg e]
      simp only [List.map_cons, ih, List.mem_cons, e, false_or]
      split <;> simp
theorem put_nd {fd : Fd} (c : UInt8) (n : Int) (h : (fd.map (·.1)).Nodup) : ((fdPut fd c n).map (·.1)).Nodup := by
  rw [put_map]
  split
  · exact h
  · rename_i hc
    rw [List.nodup_append]
    exact ⟨h, by simp, fun a ha b hb => by simp at hb; subst hb; exact fun e => hc (e ▸ ha)⟩
theorem get_of_mem : ∀ {fd : Fd} {x : UInt8 × Int}, (fd.map (·.1)).Nodup → x ∈ fd → fdGet fd x.1 = some x.2
  | p :: r, x, hn, hx => by
    simp only [List.map_cons, List.nodup_cons] at hn
    simp only [fdGet]
    rcases List.mem_cons.mp hx with rfl | hx
    · simp
    · rw [if_neg (fun e => hn.1 (by rw [← e]; exact List.mem_map_of_mem hx))]
      exact get_of_mem hn.2 hx
theorem mem_of_get : ∀ {fd : Fd} {c : UInt8} {n : Int}, fdGet fd c = some n → (c, n) ∈ fd
  | p :: r, c, n, h => by
    simp only [fdGet] at h
    by_cases e : c = p.1
    · rw [if_pos e] at h
      cases h
      subst e
      exact List.mem_cons_self ..
    · rw [if_neg e] at h
      exact List.mem_cons_of_mem _ (mem_of_get h)

def optI (n : Int) : Option Int := if 0 ≤ n then some n else none
def monI (a b : Int) : Option Int := if 0 ≤ a then some a else if 0 ≤ b then some b else none
def diffI (a b : Int) : Bool := decide (0 ≤ a ∧ 0 ≤ b ∧ a ≠ b)

/-- What the program has found, and what the reference has found. -/
structure RdRel (fd : Fd) (fs : List Int) (cs cr : Bool) : Prop where
  len : fs.length = 12
  keys : KeyOk fd
  nd : (fd.map (·.1)).Nodup
  cf : cs = (cr || diffI (fs.getD 1 0) (fs.getD 11 0))
  pl : ∀ k, k < 12 → k ≠ 1 → k ≠ 11 → fdGet fd (let12.getD k 0) = optI (fs.getD k 0)
  mo : cs = false → fdGet fd 109 = monI (fs.getD 1 0) (fs.getD 11 0)

theorem getD_set {fs : List Int} {k i : Nat} {n : Int} (hk : k < fs.length) : (fs.set k n).getD i 0 = if k = i then n else fs.getD i 0 := by
  simp only [List.getD_eq_getElem?_getD, List.getElem?_set]
  by_cases e : k = i
  · subst e
    simp [hk]
  · simp [e]

theorem let12_inj : ∀ k, k < 12 → ∀ i, i < 12 → let12.getD k 0 = let12.getD i 0 → k = i := by decide
theorem let12_ne : ∀ k, k < 12 → k ≠ 1 → k ≠ 11 → let12.getD k 0 ≠ 98 ∧ let12.getD k 0 ≠ 109 := by decide
theorem let12_11 : ∀ k, k < 12 → k ≠ 11 → let12.getD k 0 ∈ let11 := by decide

theorem note_cf (fd : Fd) (cf : Bool) (c : UInt8) (n : Int) : (noteS fd cf c n).2 = (cf || (fdGet fd (if c = 98 then 109 else c)).any fun o => !decide (o = n)) := by
  unfold noteS
  generalize (if c = 98 then (109 : UInt8) else c) = d
  simp only
  cases fdGet fd d with
  | none => simp
  | some o =>
    by_cases e : o = n <;> cases cf <;> simp [e]
theorem monI_any (a b n : Int) : (monI a b).any (fun o => !decide (o = n)) = true ↔ (0 ≤ a ∧ a ≠ n) ∨ (¬ 0 ≤ a ∧ 0 ≤ b ∧ b ≠ n) := by
  unfold monI
  by_cases ha : 0 ≤ a <;> by_cases hb : 0 ≤ b <;> simp [ha, hb]
theorem optI_any (a n : Int) : (optI a).any (fun o => !decide (o = n)) = (decide (0 ≤ a) && !decide (a = n)) := by
  unfold optI
  by_cases ha : 0 ≤ a <;> simp [ha]
theorem diffI_iff (a b : Int) : diffI a b = true ↔ 0 ≤ a ∧ 0 ≤ b ∧ a ≠ b := by simp [diffI]

theorem mon_key1 (a b n : Int) (cs cr : Bool) (o : Option Int) (hn : 0 ≤ n) (hcf : cs = (cr || diffI a b)) (hmo : cs = false → o = monI a b) :
    (cs || o.any fun o => !decide (o = n)) = (cr || (decide (0 ≤ a) && !decide (a = n)) || diffI n b) := by
  cases cr with
  | true => simp at hcf; simp [hcf]
  | false =>
    simp only [Bool.false_or] at hcf ⊢
    cases hcs : cs with
    | true =>
      rw [hcs] at hcf
      have h := (diffI_iff a b).mp hcf.symm
      simp only [Bool.true_or]
      symm
      rw [Bool.or_eq_true, diffI_iff, Bool.and_eq_true, decide_eq_true_eq, Bool.not_eq_true', decide_eq_false_iff_not]
      omega
    | false =>
      rw [hcs] at hcf
      have h : ¬ (0 ≤ a ∧ 0 ≤ b ∧ a ≠ b) := fun q => by rw [(diffI_iff a b).mpr q] at hcf; cases hcf
      rw [hmo hcs, Bool.false_or, Bool.eq_iff_iff, monI_any, Bool.or_eq_true, diffI_iff, Bool.and_eq_true, decide_eq_true_eq, Bool.not_eq_true', decide_eq_false_iff_not]
      omega
theorem mon_key2 (a b n : Int) (cs cr : Bool) (o : Option Int) (hn : 0 ≤ n) (hcf : cs = (cr || diffI a b)) (hmo : cs = false → o = monI a b) :
    (cs || o.any fun o => !decide (o = n)) = (cr || (decide (0 ≤ b) && !decide (b = n)) || diffI a n) := by
  cases cr with
  | true => simp at hcf; simp [hcf]
  | false =>
    simp only [Bool.false_or] at hcf ⊢
    cases hcs : cs with
    | true =>
      rw [hcs] at hcf
      have h := (diffI_iff a b).mp hcf.symm
      simp only [Bool.true_or]
      symm
      rw [Bool.or_eq_true, diffI_iff, Bool.and_eq_true, decide_eq_true_eq, Bool.not_eq_true', decide_eq_false_iff_not]
      omega
    | false =>
      rw [hcs] at hcf
      have h : ¬ (0 ≤ a ∧ 0 ≤ b ∧ a ≠ b) := fun q => by rw [(diffI_iff a b).mpr q] at hcf; cases hcf
      rw [hmo hcs, Bool.false_or, Bool.eq_iff_iff, monI_any, Bool.or_eq_true, diffI_iff, Bool.and_eq_true, decide_eq_true_eq, Bool.not_eq_true', decide_eq_false_iff_not]
      omega

theorem rel_put {fd : Fd} {fs : List Int} {cs cr : Bool} (h : RdRel fd fs cs cr) {k : Nat} (hk : k < 12) {n : Int} (hn : 0 ≤ n) :
    RdRel (noteS fd cs (let12.getD k 0) n).1 (putR fs cr k n).1 (noteS fd cs (let12.getD k 0) n).2 (putR fs cr k n).2 := by
  obtain ⟨hl, hks, hnd, hcf, hpl, hmo⟩ := h
  have hkl : k < fs.length := by omega
  have hg : ∀ i, ((fs.set k n).getD i 0) = if k = i then n else fs.getD i 0 := fun i => getD_set hkl
  have h1 : (noteS fd cs (let12.getD k 0) n).1 = fdPut fd (if let12.getD k 0 = 98 then 109 else let12.getD k 0) n := rfl
  rw [h1, note_cf]
  have h2 : (putR fs cr k n).1 = fs.set k n := rfl
  have h3 : (putR fs cr k n).2 = (cr || (decide (0 ≤ fs.getD k 0) && !decide (fs.getD k 0 = n))) := rfl
  rw [h2, h3]
  by_cases hm : k = 1 ∨ k = 11
  · have hc : (if let12.getD k 0 = 98 then (109 : UInt8) else let12.getD k 0) = 109 := by
      rcases hm with rfl | rfl <;> rfl
    rw [hc]
    have hkey : (cs || (fdGet fd 109).any fun o => !decide (o = n)) = (cr || (decide (0 ≤ fs.getD k 0) && !decide (fs.getD k 0 = n)) || diffI (if k = 1 then n else fs.getD 1 0) (if k = 11 then n else fs.getD 11 0)) := by
      rcases hm with rfl | rfl
      · simp only [if_true, show ¬ ((1 : Nat) = 11) from by decide, if_false]
        exact mon_key1 _ _ n cs cr (fdGet fd 109) hn hcf hmo
      · simp only [if_true, show ¬ ((11 : Nat) = 1) from by decide, if_false]
        exact mon_key2 _ _ n cs cr (fdGet fd 109) hn hcf hmo
    refine ⟨by simpa using hl, put_keys hks (by decide), put_nd _ _ hnd, ?_, ?_, ?_⟩
    · rw [hg, hg]; exact hkey
    · intro i hi h1 h11
      rw [fdGet_put, if_neg (let12_ne i hi h1 h11).2, hg, if_neg (by rcases hm with rfl | rfl <;> omega)]
      exact hpl i hi h1 h11
    · intro hcs'
      rw [fdGet_put, if_pos rfl, hg, hg]
      rw [Bool.or_eq_false_iff] at hcs'
      have hmo' := hmo hcs'.1
      rcases hm with rfl | rfl
      · simp [monI, hn]
      · simp only [show ¬ (11 = 1) from by decide, if_false, if_true]
        have h4 := hcs'.2
        rw [hmo'] at h4
        have h5 : ¬ ((0 ≤ fs.getD 1 0 ∧ fs.getD 1 0 ≠ n) ∨ (¬ 0 ≤ fs.getD 1 0 ∧ 0 ≤ fs.getD 11 0 ∧ fs.getD 11 0 ≠ n)) := fun q => by
          rw [(monI_any _ _ n).mpr q] at h4; cases h4
        unfold monI
        by_cases ha : 0 ≤ fs.getD 1 0
        · rw [if_pos ha]
          have : fs.getD 1 0 = n := Classical.byContradiction fun e => h5 (.inl ⟨ha, e⟩)
          rw [this]
        · rw [if_neg ha, if_pos hn]
  · have hk1 : k ≠ 1 := fun e => hm (.inl e)
    have hk11 : k ≠ 11 := fun e => hm (.inr e)
    obtain ⟨hn98, hn109⟩ := let12_ne k hk hk1 hk11
    rw [if_neg hn98]
    refine ⟨by simpa using hl, put_keys hks (let12_11 k hk hk11), put_nd _ _ hnd, ?_, ?_, ?_⟩
    · rw [hg, hg, if_neg hk1, if_neg hk11, hpl k hk hk1 hk11, hcf, optI_any]
      cases cr <;> cases diffI (fs.getD 1 0) (fs.getD 11 0) <;> simp
    · intro i hi h1 h11
      rw [fdGet_put, hg]
      by_cases e : k = i
      · subst e
        rw [if_pos rfl, if_pos rfl]
        simp [optI, hn]
      · rw [if_neg (fun e' => e (let12_inj i hi k hk e').symm), if_neg e]
        exact hpl i hi h1 h11
    · intro hcs'
      rw [fdGet_put, if_neg (fun e => hn109 e.symm), hg, hg, if_neg hk1, if_neg hk11]
      rw [Bool.or_eq_false_iff] at hcs'
      exact hmo hcs'.1

theorem numS_pos : ∀ (w : Nat) (n : Int) (l : List UInt8), 0 ≤ n → 0 ≤ (numS w n l).1.1
  | 0, n, l, h => h
  | _ + 1, _, [], _ => by simp [numS]
  | w + 1, n, e :: l, h => by
    unfold numS
    split
    · rename_i he
      exact numS_pos w _ l (by omega)
    · simp
theorem nameS_pos : ∀ (ns : List (List UInt8)) (i : Int) (l : List UInt8), 0 ≤ i → 0 ≤ (nameS ns i l).1.1
  | [], _, _, _ => by simp [nameS]
  | s :: ns, i, l, h => by
    unfold nameS
    split
    · show 0 ≤ i + 1; omega
    · exact nameS_pos ns (i + 1) l (by omega)

theorem letR_let {e : UInt8} (he : letL.contains e = true) (h37 : e ≠ 37) : (letR e).toNat < 12 ∧ let12.getD (letR e).toNat 0 = e := by
  simp only [letL, List.contains_eq_mem, List.mem_cons, List.not_mem_nil, or_false, decide_eq_true_eq] at he
  rcases he with rfl | rfl | rfl | rfl | rfl | rfl | rfl | rfl | rfl | rfl | rfl | rfl | rfl <;> first | exact absurd rfl h37 | decide

theorem dir_rel {e : UInt8} (he : letL.contains e = true) (l : List UInt8) {fd : Fd} {fs : List Int} {cs cr : Bool} (h : RdRel fd fs cs cr) :
    ∃ b l' fd' fs' cs' cr', dirS e (widP e) (nsP e) l fd cs = (b, l', fd', cs') ∧ dirR e l fs cr = (b, l', fs', cr') ∧ RdRel fd' fs' cs' cr' := by
  unfold dirS dirR
  by_cases h37 : e = 37
  · rw [if_pos h37, if_pos h37]
    exact ⟨_, _, _, _, _, _, rfl, rfl, h⟩
  · rw [if_neg h37, if_neg h37]
    obtain ⟨hk, hke⟩ := letR_let he h37
    have hq : 0 ≤ (match nsP e with | some ns => nameS ns 0 l | none => numS (widP e) 0 l).1.1 := by
      cases nsP e with
      | none => exact numS_pos _ _ _ (Int.le_refl _)
      | some ns => exact nameS_pos _ _ _ (Int.le_refl _)
    obtain ⟨q, hqq⟩ : ∃ q, q = (match nsP e with | some ns => nameS ns 0 l | none => numS (widP e) 0 l) := ⟨_, rfl⟩
    rw [← hqq] at hq
    have hp := rel_put h hk hq
    rw [hke] at hp
    show ∃ b l' fd' fs' cs' cr', (if (match nsP e with | some ns => nameS ns 0 l | none => numS (widP e) 0 l).1.2 = true then (true, (match nsP e with | some ns => nameS ns 0 l | none => numS (widP e) 0 l).2, noteS fd cs e (match nsP e with | some ns => nameS ns 0 l | none => numS (widP e) 0 l).1.1) else (false, (match nsP e with | some ns => nameS ns 0 l | none => numS (widP e) 0 l).2, fd, cs)) = (b, l', fd', cs') ∧
      (if (match nsP e with | some ns => nameS ns 0 l | none => numS (widP e) 0 l).1.2 = true then (true, (match nsP e with | some ns => nameS ns 0 l | none => numS (widP e) 0 l).2, putR fs cr (letR e).toNat (match nsP e with | some ns => nameS ns 0 l | none => numS (widP e) 0 l).1.1) else (false, (match nsP e with | some ns => nameS ns 0 l | none => numS (widP e) 0 l).2, fs, cr)) = (b, l', fs', cr') ∧ RdRel fd' fs' cs' cr'
    rw [← hqq]
    by_cases hb : q.1.2 = true
    · rw [if_pos hb, if_pos hb]
      exact ⟨_, _, _, _, _, _, rfl, rfl, hp⟩
    · rw [if_neg hb, if_neg hb]
      exact ⟨_, _, _, _, _, _, rfl, rfl, h⟩

theorem read_rel : ∀ (p : List UInt8) (i : Nat) (l : List UInt8) (fd : Fd) (fs : List Int) (cs cr : Bool), (patFrom 1000 i p).1 = 0 → RdRel fd fs cs cr →
    ∃ b l' fd' fs' cs' cr', readS p l fd cs = (b, l', fd', cs') ∧ readR p l fs cr = (b, l', fs', cr') ∧ RdRel fd' fs' cs' cr'
  | [], i, l, fd, fs, cs, cr, hz, h => ⟨_, _, _, _, _, _, rfl, rfl, h⟩
  | [c], i, l, fd, fs, cs, cr, hz, h => ⟨_, _, _, _, _, _, rfl, rfl, h⟩
  | c :: e :: p, i, l, fd, fs, cs, cr, hz, h => by
    by_cases hc : c = 37
    · subst hc
      rw [patFrom, if_neg (by simp)] at hz
      have hlet : letL.contains e = true := by
        cases hl : letL.contains e with
        | true => rfl
        | false => rw [hl] at hz; simp at hz
      rw [if_pos hlet] at hz
      obtain ⟨b, l', fd', fs', cs', cr', h1, h2, h3⟩ := dir_rel hlet l h
      rw [readS_dir, readR_dir, h1, h2]
      cases b with
      | true =>
        simp only [if_true]
        exact read_rel p (i + 2) l' fd' fs' cs' cr' hz h3
      | false => exact ⟨_, _, _, _, _, _, rfl, rfl, h3⟩
    · rw [readS_byte hc, readR_byte hc]
      cases hb : (byteS c l).1 with
      | true =>
        simp only [if_true]
        exact read_rel (e :: p) (i + 1) _ fd fs cs cr (patFrom_byte hc hz) h
      | false => exact ⟨_, _, _, _, _, _, rfl, rfl, h⟩

theorem rel0 : RdRel [] fs0 false false := by
  refine ⟨rfl, fun _ hx => (List.not_mem_nil hx).elim, by simp, rfl, ?_, fun _ => rfl⟩
  intro k hk _ _
  have : ∀ k, k < 12 → fs0.getD k 0 = -1 := by decide
  rw [this k hk]
  rfl

theorem rel_mom {fd : Fd} {fs : List Int} {cr : Bool} (h : RdRel fd fs false cr) : momA fd = momR fs := by
  have hp := h.pl
  have h0 := hp 0 (by omega) (by omega) (by omega)
  have h2 := hp 2 (by omega) (by omega) (by omega)
  have h3 := hp 3 (by omega) (by omega) (by omega)
  have h4 := hp 4 (by omega) (by omega) (by omega)
  have h5 := hp 5 (by omega) (by omega) (by omega)
  have h1 := h.mo rfl
  have og : ∀ (a d : Int), (optI a).getD d = pickR a d := fun a d => by unfold optI pickR; split <;> rfl
  have hm : (monI (fs.getD 1 0) (fs.getD 11 0)).getD 1 = pickR (if fs.getD 1 0 < 0 then fs.getD 11 0 else fs.getD 1 0) 1 := by
    generalize fs.getD 1 0 = a
    generalize fs.getD 11 0 = b
    unfold monI pickR
    by_cases ha : 0 ≤ a
    · have : ¬ a < 0 := by omega
      simp [ha, this]
    · have : a < 0 := by omega
      by_cases hb : 0 ≤ b <;> simp [ha, this, hb]
  unfold momA momS momR rdV
  simp only [let12, List.getD_cons_zero, List.getD_cons_succ] at h0 h2 h3 h4 h5
  rw [h0, h1, h2, h3, h4, h5]
  simp only [og, hm]
  rfl

theorem rel_all {fd : Fd} {fs : List Int} {cr : Bool} (h : RdRel fd fs false cr) :
    fd.all (fun x => decide (valS (momA fd) x.1 = x.2)) = [6, 7, 8, 9, 10].all (fun k => decide (fs.getD k 0 < 0 ∨ fs.getD k 0 = (fieldL (momA fd)).getD k 0)) := by
  have hp := h.pl
  rw [Bool.eq_iff_iff, List.all_eq_true, List.all_eq_true]
  have hv : ∀ k, k ∈ [6, 7, 8, 9, 10] → valS (momA fd) (let12.getD k 0) = (fieldL (momA fd)).getD k 0 := by
    intro k hk
    simp only [List.mem_cons, List.not_mem_nil, or_false] at hk
    rcases hk with rfl | rfl | rfl | rfl | rfl <;> rfl
  constructor
  · intro ha k hk
    have hk' := hv k hk
    have hpk := hp k (by simp at hk; omega) (by simp at hk; omega) (by simp at hk; omega)
    rw [decide_eq_true_eq]
    by_cases h0 : 0 ≤ fs.getD k 0
    · right
      unfold optI at hpk
      rw [if_pos h0] at hpk
      have := ha _ (mem_of_get hpk)
      rw [decide_eq_true_eq] at this
      exact this.symm.trans hk'
    · left; omega
  · intro ha x hx
    have hg := get_of_mem h.nd hx
    have hx11 := h.keys x hx
    rw [decide_eq_true_eq]
    have late : ∀ k, k ∈ [6, 7, 8, 9, 10] → x.1 = let12.getD k 0 → valS (momA fd) x.1 = x.2 := by
      intro k hk e
      have hpk := hp k (by simp at hk; omega) (by simp at hk; omega) (by simp at hk; omega)
      have hak := ha k hk
      rw [decide_eq_true_eq] at hak
      rw [← e, hg] at hpk
      unfold optI at hpk
      by_cases h0 : 0 ≤ fs.getD k 0
      · rw [if_pos h0] at hpk
        have hx2 : x.2 = fs.getD k 0 := Option.some.inj hpk
        rw [hx2, e, hv k hk]
        rcases hak with q | q
        · omega
        · exact q.symm
      · rw [if_neg h0] at hpk
        cases hpk
    simp only [let11, List.mem_cons, List.not_mem_nil, or_false] at hx11
    rcases hx11 with e | e | e | e | e | e | e | e | e | e | e
    · rw [e] at hg ⊢; show rdV fd 89 1 true = x.2; simp [rdV, hg]
    · rw [e] at hg ⊢; show rdV fd 109 1 true = x.2; simp [rdV, hg]
    · rw [e] at hg ⊢; show rdV fd 100 1 true = x.2; simp [rdV, hg]
    · rw [e] at hg ⊢; show rdV fd 72 0 true = x.2; simp [rdV, hg]
    · rw [e] at hg ⊢; show rdV fd 77 0 true = x.2; simp [rdV, hg]
    · rw [e] at hg ⊢; show rdV fd 83 0 true = x.2; simp [rdV, hg]
    · exact late 6 (by simp) e
    · exact late 7 (by simp) e
    · exact late 8 (by simp) e
    · exact late 9 (by simp) e
    · exact late 10 (by simp) e

theorem parse_ref (text p : List UInt8) (h2 : ¬ (patF 1000 p).1 ≠ 0) (hz : (patFrom 1000 0 p).1 = 0) : parseS text p = endR text (readR p text fs0 false) := by
  obtain ⟨b, l, fd, fs, cs, cr, h3, h4, hr⟩ := read_rel p 0 text [] fs0 false false hz rel0
  unfold parseS endR
  rw [if_neg h2, h3, h4]
  simp only
  by_cases h5 : b = false ∨ l ≠ []
  · rw [if_pos h5, if_pos h5]
  · rw [if_neg h5, if_neg h5]
    have hc := hr.cf
    have hiff : cs = true ↔ (cr = true ∨ (0 ≤ fs.getD 1 0 ∧ 0 ≤ fs.getD 11 0 ∧ fs.getD 1 0 ≠ fs.getD 11 0)) := by
      rw [hc, Bool.or_eq_true, diffI, decide_eq_true_eq]
    by_cases h6 : cs = true
    · rw [if_pos h6, if_pos (hiff.mp h6)]
    · rw [if_neg h6, if_neg (fun q => h6 (hiff.mpr q))]
      have : cs = false := by simpa using h6
      subst this
      rw [← rel_mom hr, rel_all hr]

end Go.Vm
