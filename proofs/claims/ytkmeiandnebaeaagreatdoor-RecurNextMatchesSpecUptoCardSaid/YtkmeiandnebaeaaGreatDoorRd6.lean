/- recur: List and Next: the walks. -/
import Derived.Test.YtkmeiandnebaeaaGreatDoorRd5
import Derived.Test.YtkmeiandnebaeaaGreatDoorVmW
namespace Go.Vm
open Proofs
set_option maxRecDepth 20000
set_option maxHeartbeats 2000000
set_option linter.unusedSimpArgs false

def chkF (s : Int) (r : Ru) : Int × Int := if (ruleF r).1 ≠ 0 then ruleF r else if s < 1 ∨ 3652059 < s then (4, -1) else (0, 0)
noncomputable def listP (s : Int) (r : Ru) (most : Int) : List Int × (Int × Int) :=
  if (chkF s r).1 ≠ 0 then ([], chkF s r) else if most < 0 ∨ 20001 < most then ([], (4, -3)) else (listS r s most.toNat, (0, 0))
noncomputable def nextP (s : Int) (r : Ru) (after : Int) : Int × (Int × Int) :=
  if (chkF s r).1 ≠ 0 then (0, chkF s r) else if after < 0 ∨ 3652059 < after then (0, (4, -3)) else (nextOf after (daysS r s), (0, 0))

theorem chkF_ok {s : Int} {r : Ru} (h : ¬ (chkF s r).1 ≠ 0) : chkF s r = (0, 0) ∧ ruleF r = (0, 0) ∧ r.ok ∧ 1 ≤ s ∧ s ≤ 3652059 := by
  unfold chkF at h ⊢
  by_cases h1 : (ruleF r).1 ≠ 0
  · rw [if_pos h1] at h; exact absurd h1 h
  · rw [if_neg h1] at h ⊢
    obtain ⟨hz, ho⟩ := ruleF_ok h1
    by_cases h2 : s < 1 ∨ 3652059 < s
    · rw [if_pos h2] at h; exact absurd (by decide) h
    · rw [if_neg h2]; exact ⟨rfl, hz, ho, by omega, by omega⟩

theorem checked_V (s : Int) (r : Ru) (h : List Blk) : CallP Tryz.prog 22 [.d (.int .i64 s), .d (encRu r)] h (.d (encF (chkF s r))) := by
  refine callW tb_ok fn22 (by simp) (fun hok => ?_)
  obtain ⟨res, hres⟩ : ∃ res, chkF s r = res := ⟨_, rfl⟩
  rw [hres]
  unfold chkF at hres
  simp (disch := first | omega | (simp; done) | (simp; omega)) [ltT, ltF, leT, leF, eqT', eqF, ltTn, leTn, ltFn, leFn, wrapI, mid, c22]
  refine (validate_V r _).useV ?_
  by_cases h1 : (ruleF r).1 ≠ 0
  · rw [if_pos h1] at hres
    simp (disch := first | omega | (simp; done) | (simp; omega)) [ltT, ltF, leT, leF, eqT', eqF, ltTn, leTn, ltFn, leFn, wrapI, mid, h1, ← hres]
    exact rshift_d hok
  · rw [if_neg h1] at hres
    obtain ⟨hz, ho⟩ := ruleF_ok h1
    rw [hz]
    by_cases h2 : s < 1
    · rw [if_pos (.inl h2)] at hres
      simp (disch := first | omega | (simp; done) | (simp; omega)) [ltT, ltF, leT, leF, eqT', eqF, ltTn, leTn, ltFn, leFn, wrapI, mid, h2, ← hres]
      exact rshift_d hok
    · by_cases h3 : 3652059 < s
      · rw [if_pos (.inr h3)] at hres
        simp (disch := first | omega | (simp; done) | (simp; omega)) [ltT, ltF, leT, leF, eqT', eqF, ltTn, leTn, ltFn, leFn, wrapI, mid, h2, h3, ← hres]
        exact rshift_d hok
      · rw [if_neg (by omega)] at hres
        simp (disch := first | omega | (simp; done) | (simp; omega)) [ltT, ltF, leT, leF, eqT', eqF, ltTn, leTn, ltFn, leFn, wrapI, mid, h2, h3, ← hres]
        exact rshift_d hok

/-- The blocks of List: what is given so far. -/
def listH (h : List Blk) (r : Ru) (most : Int) (out : List Int) : List Blk :=
  h ++ [.cells 25 [.d (encRu r)], .cells 3 [.d (.int .i64 most)], .cells 27 [.d (encF (0, 0))], .cells 27 [.d (encF (0, 0))], .cells 22 [.bl (h.length + 5) 3 (out.map encI)], .tail 3 out.length]

theorem list1_V {h : List Blk} {r : Ru} {most : Nat} (hm : most ≤ 20001) (out : List Int) (n : Int) (ho : out.length ≤ 20001) (ext : List Blk) :
    CallW Tryz.prog 24 [.d (.int .i64 n), .ptr (h.length + 4) 22 0 0, .ptr (h.length + 1) 3 0 0] (listH h r most out ++ ext) fun x h' => x = .d (.bool (yL most out n).2) ∧ h' = listH h r most (yL most out n).1 ++ ext := by
  refine callW tb_ok fn24 (by simp) (fun hok => ?_)
  unfold yL
  by_cases h1 : out.length = most
  · rw [if_pos h1]
    simp (disch := first | omega | (simp; done) | (simp; omega)) [ltT, ltF, leT, leF, eqT', eqF, ltTn, leTn, ltFn, leFn, wrapI, mid, c24, listH, h1]
    exact rshift_same' (by simp [listH]) (by simp [listH])
  · rw [if_neg h1]
    simp (disch := first | omega | (simp; done) | (simp; omega)) [ltT, ltF, leT, leF, eqT', eqF, ltTn, leTn, ltFn, leFn, wrapI, mid, c24, listH, h1, encI]
    exact rshift_same' (by simp) (by simp)

theorem runG_map {σ τ : Type} (f : σ → τ) {y : σ → Int → σ × Bool} {y' : τ → Int → τ × Bool} (h1 : ∀ st n, (y' (f st) n).1 = f (y st n).1) (h2 : ∀ st n, (y' (f st) n).2 = (y st n).2) (s last count : Int) :
    ∀ (l : List Int) (v : Int) (st : σ), runG y' s last count l (v, f st) = ((runG y s last count l (v, st)).1, ((runG y s last count l (v, st)).2.1, f (runG y s last count l (v, st)).2.2))
  | [], v, st => rfl
  | n :: l, v, st => by
    unfold runG
    split
    · exact runG_map f h1 h2 s last count l v st
    · split
      · rfl
      · rw [h1, h2]
        split
        · exact runG_map f h1 h2 s last count l (v + 1) (y st n).1
        · rfl
theorem eachS_map {σ τ : Type} (f : σ → τ) {y : σ → Int → σ × Bool} {y' : τ → Int → τ × Bool} (h1 : ∀ st n, (y' (f st) n).1 = f (y st n).1) (h2 : ∀ st n, (y' (f st) n).2 = (y st n).2) (r : Ru) (s : Int) (st : σ) : eachS y' r s (f st) = f (eachS y r s st) := by
  unfold eachS
  rw [runG_map f h1 h2]
/-- List's function, with the bound in its state. -/
def yLb (k : Nat) (out : { l : List Int // l.length ≤ k }) (n : Int) : { l : List Int // l.length ≤ k } × Bool := if h : out.1.length = k then (out, false) else (⟨out.1 ++ [n], by have := out.2; simp; omega⟩, true)
theorem yLb_1 (k : Nat) (out : { l : List Int // l.length ≤ k }) (n : Int) : (yL k out.1 n).1 = (yLb k out n).1.1 ∧ (yL k out.1 n).2 = (yLb k out n).2 := by
  unfold yL yLb
  by_cases h : out.1.length = k
  · rw [if_pos h, dif_pos h]; exact ⟨rfl, rfl⟩
  · rw [if_neg h, dif_neg h]; exact ⟨rfl, rfl⟩

theorem list_V (s : Int) (r : Ru) (most : Int) (h : List Blk) : CallP Tryz.prog 7 [.d (.int .i64 s), .d (encRu r), .d (.int .i64 most)] h (.tup [.d (.sl 3 ((listP s r most).1.map encI)), .d (encF (listP s r most).2)]) := by
  refine callW tb_ok fn7 (by simp) (fun hok => ?_)
  obtain ⟨res, hres⟩ : ∃ res, listP s r most = res := ⟨_, rfl⟩
  rw [hres]
  unfold listP at hres
  simp (disch := first | omega | (simp; done) | (simp; omega)) [ltT, ltF, leT, leF, eqT', eqF, ltTn, leTn, ltFn, leFn, wrapI, mid, c7]
  refine (checked_V s r _).useV ?_
  by_cases h1 : (chkF s r).1 ≠ 0
  · rw [if_pos h1] at hres
    simp (disch := first | omega | (simp; done) | (simp; omega)) [ltT, ltF, leT, leF, eqT', eqF, ltTn, leTn, ltFn, leFn, wrapI, mid, h1, ← hres]
    exact RShift.subs ⟨.nil _, .refl _, trivial⟩ (by simp) hok (Nat.le_refl _)
  rw [if_neg h1] at hres
  obtain ⟨hz, _, ho, hs1, hs2⟩ := chkF_ok h1
  rw [hz]
  by_cases h2 : most < 0
  · rw [if_pos (.inl h2)] at hres
    simp (disch := first | omega | (simp; done) | (simp; omega)) [ltT, ltF, leT, leF, eqT', eqF, ltTn, leTn, ltFn, leFn, wrapI, mid, h2, ← hres]
    exact RShift.subs ⟨.nil _, .refl _, trivial⟩ (by simp) hok (Nat.le_refl _)
  by_cases h3 : 20001 < most
  · rw [if_pos (.inr h3)] at hres
    simp (disch := first | omega | (simp; done) | (simp; omega)) [ltT, ltF, leT, leF, eqT', eqF, ltTn, leTn, ltFn, leFn, wrapI, mid, h2, h3, ← hres]
    exact RShift.subs ⟨.nil _, .refl _, trivial⟩ (by simp) hok (Nat.le_refl _)
  rw [if_neg (by omega)] at hres
  obtain ⟨k, hk⟩ : ∃ k : Nat, most = k := ⟨most.toNat, by omega⟩
  subst hk
  rw [Int.toNat_natCast] at hres
  simp (disch := first | omega | (simp; done) | (simp; omega)) [ltT, ltF, leT, leF, eqT', eqF, ltTn, leTn, ltFn, leFn, wrapI, mid, h2, h3]
  have hE : CallW Tryz.prog 23 [.d (.int .i64 s), .d (encRu r), .clo 24 [.ptr (h.length + 4) 22 0 0, .ptr (h.length + 1) 3 0 0]] (listH h r k []) fun x h' => x = .tup [] ∧ h' = listH h r k (listS r s k) := by
    have he : eachS (yL k) r s [] = (eachS (yLb k) r s ⟨[], by simp⟩).1 := eachS_map (y := yLb k) (y' := yL k) (fun l => l.1) (fun st n => (yLb_1 k st n).1) (fun st n => (yLb_1 k st n).2) r s ⟨[], by simp⟩
    have := each_V ho hs1 hs2 (yLb k) (fun st => listH h r k st.1) 24 [.ptr (h.length + 4) 22 0 0, .ptr (h.length + 1) 3 0 0] (m := h.length + 6) (fun st => by simp [listH]) (fun st => by
      unfold listH
      refine hok.append ?_
      intro z hz
      simp only [List.mem_cons, List.not_mem_nil, or_false] at hz
      rcases hz with rfl | rfl | rfl | rfl | rfl | rfl <;> simp [BlkBel, AV.cells]) (fun st n ext h1 h2 => by
        have := list1_V (h := h) (r := r) (most := k) (by omega) st.1 n (by have := st.2; omega) ext
        rw [(yLb_1 k st n).1, (yLb_1 k st n).2] at this
        exact this) ⟨[], by simp⟩
    rw [← each_list, he]
    exact this
  refine callV_of (CallW.openC (b := h.length + 4) (T := 22) (e := 3) (by simp) (by simpa [listH] using hE)) ?_
  rintro _ _ ⟨rfl, rfl⟩
  simp (disch := first | omega | (simp; done) | (simp; omega)) [ltT, ltF, leT, leF, eqT', eqF, ltTn, leTn, ltFn, leFn, wrapI, mid, listH, ← hres]
  exact RShift.subs ⟨.bl _ _ _, .refl _, trivial⟩ (by simp) hok (Nat.le_refl _)

theorem next1_V {h : List Blk} {after : Int} {a b : Nat} {G : Int → List Blk} (ha : ∀ f, (G f)[a]? = some (.cells 3 [.d (.int .i64 after)])) (hb : ∀ f, (G f)[b]? = some (.cells 3 [.d (.int .i64 f)])) (hs : ∀ f f', (G f).set b (.cells 3 [.d (.int .i64 f')]) = G f') (f n : Int) :
    CallW Tryz.prog 45 [.d (.int .i64 n), .ptr a 3 0 0, .ptr b 3 0 0] (G f) fun x h' => x = .d (.bool (yN after f n).2) ∧ h' = G (yN after f n).1 := by
  refine callW tb_ok fn45 (by simp) (fun hok => ?_)
  have hbl : ∀ f, b < (G f).length := fun f => (List.getElem?_eq_some_iff.mp (hb f)).1
  have hll : (G f).length = (G n).length := by rw [← hs f n]; simp
  unfold yN
  by_cases h1 : after < n
  · rw [if_pos h1]
    simp (disch := first | omega | (simp; done) | (simp; omega)) [ltT, ltF, leT, leF, eqT', eqF, ltTn, leTn, ltFn, leFn, wrapI, mid, c45, ha, hb, hbl, hs, h1]
    exact rshift_same' rfl (by rw [hll]; exact Nat.le_refl _)
  · rw [if_neg h1]
    simp (disch := first | omega | (simp; done) | (simp; omega)) [ltT, ltF, leT, leF, eqT', eqF, ltTn, leTn, ltFn, leFn, wrapI, mid, c45, ha, hb, hbl, hs, h1]

def nextH (h : List Blk) (r : Ru) (after f : Int) : List Blk :=
  h ++ [.cells 25 [.d (encRu r)], .cells 3 [.d (.int .i64 after)], .cells 27 [.d (encF (0, 0))], .cells 27 [.d (encF (0, 0))], .cells 3 [.d (.int .i64 f)]]

theorem next_V (s : Int) (r : Ru) (after : Int) (h : List Blk) : CallP Tryz.prog 16 [.d (.int .i64 s), .d (encRu r), .d (.int .i64 after)] h (.tup [.d (.int .i64 (nextP s r after).1), .d (.bool (decide (0 < (nextP s r after).1))), .d (encF (nextP s r after).2)]) := by
  refine callW tb_ok fn16 (by simp) (fun hok => ?_)
  obtain ⟨res, hres⟩ : ∃ res, nextP s r after = res := ⟨_, rfl⟩
  rw [hres]
  unfold nextP at hres
  simp (disch := first | omega | (simp; done) | (simp; omega)) [ltT, ltF, leT, leF, eqT', eqF, ltTn, leTn, ltFn, leFn, wrapI, mid, c16]
  refine (checked_V s r _).useV ?_
  by_cases h1 : (chkF s r).1 ≠ 0
  · rw [if_pos h1] at hres
    simp (disch := first | omega | (simp; done) | (simp; omega)) [ltT, ltF, leT, leF, eqT', eqF, ltTn, leTn, ltFn, leFn, wrapI, mid, h1, ← hres]
    exact RShift.subs ⟨.refl _, .refl _, .refl _, trivial⟩ (by simp) hok (Nat.le_refl _)
  rw [if_neg h1] at hres
  obtain ⟨hz, _, ho, hs1, hs2⟩ := chkF_ok h1
  rw [hz]
  by_cases h2 : after < 0
  · rw [if_pos (.inl h2)] at hres
    simp (disch := first | omega | (simp; done) | (simp; omega)) [ltT, ltF, leT, leF, eqT', eqF, ltTn, leTn, ltFn, leFn, wrapI, mid, h2, ← hres]
    exact RShift.subs ⟨.refl _, .refl _, .refl _, trivial⟩ (by simp) hok (Nat.le_refl _)
  by_cases h3 : 3652059 < after
  · rw [if_pos (.inr h3)] at hres
    simp (disch := first | omega | (simp; done) | (simp; omega)) [ltT, ltF, leT, leF, eqT', eqF, ltTn, leTn, ltFn, leFn, wrapI, mid, h2, h3, ← hres]
    exact RShift.subs ⟨.refl _, .refl _, .refl _, trivial⟩ (by simp) hok (Nat.le_refl _)
  rw [if_neg (by omega)] at hres
  simp (disch := first | omega | (simp; done) | (simp; omega)) [ltT, ltF, leT, leF, eqT', eqF, ltTn, leTn, ltFn, leFn, wrapI, mid, h2, h3]
  have hE : CallW Tryz.prog 23 [.d (.int .i64 s), .d (encRu r), .clo 45 [.ptr (h.length + 1) 3 0 0, .ptr (h.length + 4) 3 0 0]] (nextH h r after 0) fun x h' => x = .tup [] ∧ h' = nextH h r after (nextOf after (daysS r s)) := by
    have := each_V ho hs1 hs2 (yN after) (fun f => nextH h r after f) 45 [.ptr (h.length + 1) 3 0 0, .ptr (h.length + 4) 3 0 0] (m := h.length + 5) (fun st => by simp [nextH]) (fun st => by
      unfold nextH
      refine hok.append ?_
      intro z hz
      simp only [List.mem_cons, List.not_mem_nil, or_false] at hz
      rcases hz with rfl | rfl | rfl | rfl | rfl <;> simp [BlkBel, AV.cells]) (fun st n ext h1 h2 =>
        next1_V (h := h) (after := after) (G := fun f => nextH h r after f ++ ext) (fun f => by simp [nextH]) (fun f => by simp [nextH]) (fun f f' => by simp [nextH]) st n) 0
    rw [each_next r s after hs1] at this
    exact this
  refine callV_of (by simpa [nextH] using hE) ?_
  rintro _ _ ⟨rfl, rfl⟩
  simp (disch := first | omega | (simp; done) | (simp; omega)) [ltT, ltF, leT, leF, eqT', eqF, ltTn, leTn, ltFn, leFn, wrapI, mid, nextH, ← hres]
  exact RShift.subs ⟨.refl _, .refl _, .refl _, trivial⟩ (by simp) hok (Nat.le_refl _)

end Go.Vm
