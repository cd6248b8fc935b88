/- csv: the text of a cell. -/
import Derived.Test.YtggeifnbllfmbaaDoorCs1
import Derived.Lib.ReplaceLaws
namespace Go.Vm
open Proofs
set_option maxRecDepth 20000
set_option maxHeartbeats 1000000
set_option linter.unusedSimpArgs false

theorem index_one (q b : UInt8) (l : List UInt8) : Lib.index (b :: l) [q] = if b = q then 0 else if Lib.index l [q] = -1 then -1 else Lib.index l [q] + 1 := by
  simp only [Lib.index, List.isPrefixOf_cons_cons, List.isPrefixOf_nil_left, Bool.and_true, beq_iff_eq]
  by_cases h : b = q
  · simp [h]
  · simp [h, Ne.symm h]

theorem count_one (q b : UInt8) (l : List UInt8) : Lib.count (b :: l) [q] = (if b = q then 1 else 0) + Lib.count l [q] := by
  have hi := index_one q b l
  by_cases h : b = q
  · rw [if_pos h] at hi
    have := Lib.count_hit (s := b :: l) (sub := [q]) (i := 0) (by simp) hi
    rw [this, if_pos h]
    simp
  · rw [if_neg h] at hi
    by_cases hm : Lib.index l [q] = -1
    · rw [if_pos hm] at hi
      rw [Lib.count_miss hi, Lib.count_miss hm, if_neg h]
    · rw [if_neg hm] at hi
      have hge := Lib.index_ge l [q]
      obtain ⟨i, hl⟩ : ∃ i : Nat, Lib.index l [q] = i := ⟨(Lib.index l [q]).toNat, by omega⟩
      have h1 := Lib.count_hit (s := b :: l) (sub := [q]) (i := i + 1) (by simp) (by rw [hi, hl]; rfl)
      have h2 := Lib.count_hit (s := l) (sub := [q]) (i := i) (by simp) hl
      rw [h1, h2, if_neg h]
      simp

theorem replaceK_one (q : UInt8) (new : List UInt8) : ∀ (s : List UInt8) (k : Nat), Lib.count s [q] ≤ k → Lib.replaceK [q] new k s = s.flatMap fun c => if c = q then new else [c]
  | [], k, _ => by
    cases k with
    | zero => rfl
    | succ k => simp [Lib.replaceK, Lib.index]
  | b :: l, k, hk => by
    have hi := index_one q b l
    rw [count_one] at hk
    by_cases h : b = q
    · rw [if_pos h] at hk
      cases k with
      | zero => omega
      | succ k =>
        have ih := replaceK_one q new l k (by omega)
        rw [if_pos h] at hi
        rw [Lib.replaceK, hi]
        simp only [Int.toNat_zero, List.take_zero, List.nil_append, Nat.zero_add, List.length_singleton, List.drop_succ_cons, List.drop_zero, ih, List.flatMap_cons, h, if_true]
        simp
    · rw [if_neg h] at hi
      have ih := replaceK_one q new l k (by rw [if_neg h] at hk; omega)
      simp only [List.flatMap_cons, h, if_false, List.singleton_append, ← ih]
      cases k with
      | zero => rfl
      | succ k =>
        by_cases hm : Lib.index l [q] = -1
        · rw [if_pos hm] at hi
          simp [Lib.replaceK, hi, hm]
        · rw [if_neg hm] at hi
          have hge := Lib.index_ge l [q]
          obtain ⟨i, hl⟩ : ∃ i : Nat, Lib.index l [q] = i := ⟨(Lib.index l [q]).toNat, by omega⟩
          have hi' : Lib.index (b :: l) [q] = ((i + 1 : Nat) : Int) := by rw [hi, hl]; rfl
          rw [Lib.replaceK_hit [q] new k (b :: l) (i + 1) hi', Lib.replaceK_hit [q] new k l i hl]
          simp

def doubled (q : UInt8) (s : List UInt8) : List UInt8 := s.flatMap fun c => if c = q then [q, q] else [c]

theorem replaceAll_one (q : UInt8) (s : List UInt8) : Lib.replaceAll s [q] [q, q] = doubled q s := by
  unfold Lib.replaceAll Lib.replace Lib.replaceNum
  rw [if_neg (by simp), if_pos (.inl (by omega))]
  exact replaceK_one q [q, q] s _ (Nat.le_refl _)

theorem count_len (q : UInt8) : ∀ s : List UInt8, Lib.count s [q] ≤ s.length
  | [] => by simp [Lib.count, Lib.countFrom, Lib.index]
  | b :: l => by rw [count_one]; have := count_len q l; simp only [List.length_cons]; split <;> omega

theorem indexByte_mem (c : UInt8) : ∀ s : List UInt8, (0 ≤ Lib.indexByte s c) = (c ∈ s)
  | [] => by simp [Lib.indexByte]
  | b :: l => by
    have ih := indexByte_mem c l
    have hge := Lib.indexByte_ge l c
    unfold Lib.indexByte
    by_cases h : b = c
    · simp [h]
    · have h' : (b == c) = false := by simpa using h
      rw [h']
      simp only [Bool.false_eq_true, if_false, List.mem_cons, Ne.symm h, false_or, ← ih]
      split
      · rename_i hm; rw [beq_iff_eq] at hm; rw [hm]
      · rename_i hm; rw [beq_iff_eq] at hm; apply propext; constructor <;> intro _ <;> omega

theorem indexByte_V (s : List UInt8) (c : UInt8) (h : List Blk) : CallP Tryd.prog 45 [.d (.str s), .d (.int .u8 (c.toNat : Int))] h (.d (.int .i64 (Lib.indexByte s c))) := by
  refine callP_below (ds := [.str s, .int .u8 (c.toNat : Int)]) (r := .int .i64 (Lib.indexByte s c)) ⟨Tryd.f45, Tryd.func45, by kernel_rfl, by kernel_rfl⟩ rfl rfl (fun base w0 w _ _ _ => ?_)
  refine (Tryd.strings_IndexByte ⟨s.toArray⟩ (c.toNat : Int) w).mono ?_
  rintro e w' ⟨rfl, rfl⟩
  exact ⟨by simp [D.val], RowKit.Below.refl _ _⟩

theorem replaceAll_V (s : List UInt8) (q : UInt8) (hs : s.length ≤ 1048576) (h : List Blk) : CallP Tryd.prog 46 [.d (.str s), .d (.str [q]), .d (.str [q, q])] h (.d (.str (doubled q s))) := by
  refine callP_below (ds := [.str s, .str [q], .str [q, q]]) (r := .str (doubled q s)) ⟨Tryd.f46, Tryd.func46, by kernel_rfl, by kernel_rfl⟩ rfl rfl (fun base w0 w hg hb hw => ?_)
  obtain ⟨m, hg1, hg2⟩ := hg
  have hm : w.cell? ⟨0, 0, none⟩ = some (.int .i64 m) := by
    simp only [World.cell?, hw 0 hg1] at hg2 ⊢
    exact hg2
  have hsz : (ByteArray.mk s.toArray).size = s.length := by show s.toArray.size = _; simp
  have hsz2 : (ByteArray.mk [q, q].toArray).size = 2 := rfl
  have hsz1 : (ByteArray.mk [q].toArray).size = 1 := rfl
  have hcnt : Lib.countB ⟨s.toArray⟩ ⟨[q].toArray⟩ ≤ s.length := by simpa [Lib.countB] using count_len q s
  refine (Tryd.strings_ReplaceAll ⟨s.toArray⟩ ⟨[q].toArray⟩ ⟨[q, q].toArray⟩ m w (by rw [hsz]; omega) hm (by rw [hsz1]; omega) (by rw [hsz, hsz2]; omega)).mono ?_
  rintro e w' ⟨rfl, hb'⟩
  exact ⟨by simp [D.val, replaceAll_one], hb'⟩

/-- Has a text a byte that must stand in quotes? -/
def special (d : Dia) (c : UInt8) : Bool := decide (c = d.sep) || decide (c = d.quote) || decide (c = 10) || decide (c = 13)
def cellText (d : Dia) (s : List UInt8) : List UInt8 := if (d.always || s.any (special d)) = true then d.quote :: (doubled d.quote s ++ [d.quote]) else s

theorem special_mem (d : Dia) (c : UInt8) : (0 ≤ Lib.indexByte [d.sep, d.quote, 10, 13] c) = (special d c = true) := by
  rw [indexByte_mem]
  simp [special, or_assoc]

@[simp] theorem ofNat_toNat_u8 (c : UInt8) : UInt8.ofNat ((c.toNat : Int).toNat) = c := by simp

theorem doubled_len (q : UInt8) : ∀ s : List UInt8, (doubled q s).length ≤ 2 * s.length
  | [] => by simp [doubled]
  | b :: l => by
    have ih := doubled_len q l
    have : doubled q (b :: l) = (if b = q then [q, q] else [b]) ++ doubled q l := rfl
    rw [this, List.length_append, List.length_cons]
    split <;> simp only [List.length_cons, List.length_nil] <;> omega

theorem cell_V (s : List UInt8) (d : Dia) (hs : s.length ≤ 1048576) (h : List Blk) : CallP Tryd.prog 30 [.d (.str s), .d (encDia d)] h (.d (.str (cellText d s))) := by
  refine callW tb_ok fn30 (by simp) (fun hok => ?_)
  simp [c30]
  refine W_loopA (ι := List UInt8 × List UInt8) (fun p => p.1 ++ p.2 = s) (fun p => ⟨[(0, .d (.str s)), (3, .ptr h.length 24 0 0), (5, .d (.str [d.sep, d.quote, 10, 13])), (6, .d (.bool (p.1.any (special d)))), (16, .d (.int .i64 s.length)), (17, .d (.int .i64 p.1.length))],
    h ++ [.cells 24 [.d (encDia d)]]⟩) (fun p => p.2.length) ([], s) (by simp) (Shift.slots' (by simp) (by simp)) ?_
  rintro ⟨pre, rest⟩ hx A hA
  simp only at hx
  cases rest with
  | nil =>
    simp only [List.append_nil] at hx
    subst hx
    have hdl := doubled_len d.quote pre
    have quoted : (d.always || pre.any (special d)) = true → cellText d pre = d.quote :: (doubled d.quote pre ++ [d.quote]) := fun hc => by unfold cellText; rw [if_pos hc]
    cases ha : d.always with
    | false =>
      cases hs2 : pre.any (special d) with
      | false =>
        simp (disch := first | omega | (simp; done) | (simp; omega)) [ltT, ltF, leT, leF, eqT', eqF, ltTn, leTn, ltFn, leFn, wrapI, mid, ha, hs2, cellText]
        exact rshift_d hok
      | true =>
        simp (disch := first | omega | (simp; done) | (simp; omega)) [ltT, ltF, leT, leF, eqT', eqF, ltTn, leTn, ltFn, leFn, wrapI, mid, ha, hs2]
        refine (replaceAll_V pre d.quote hs _).useV ?_
        simp (disch := first | omega | (simp; done) | (simp; omega)) [ltT, ltF, leT, leF, eqT', eqF, ltTn, leTn, ltFn, leFn, wrapI, mid, quoted (by simp [hs2])]
        exact rshift_d hok
    | true =>
      simp (disch := first | omega | (simp; done) | (simp; omega)) [ltT, ltF, leT, leF, eqT', eqF, ltTn, leTn, ltFn, leFn, wrapI, mid, ha]
      refine (replaceAll_V pre d.quote hs _).useV ?_
      simp (disch := first | omega | (simp; done) | (simp; omega)) [ltT, ltF, leT, leF, eqT', eqF, ltTn, leTn, ltFn, leFn, wrapI, mid, quoted (by simp [ha])]
      exact rshift_d hok
  | cons x rest =>
    subst hx
    simp only [List.length_append, List.length_cons] at hs
    cases hs2 : pre.any (special d) with
    | true =>
      simp (disch := first | omega | (simp; done) | (simp; omega)) [ltT, ltF, leT, leF, eqT', eqF, ltTn, leTn, ltFn, leFn, wrapI, mid, hs2]
      exact hA (pre ++ [x], rest) _ (by simp) (by simp) (Shift.slots' (by simp) (by simp [hs2]))
    | false =>
      simp (disch := first | omega | (simp; done) | (simp; omega)) [ltT, ltF, leT, leF, eqT', eqF, ltTn, leTn, ltFn, leFn, wrapI, mid, hs2]
      refine (indexByte_V _ _ _).useV ?_
      simp (disch := first | omega | (simp; done) | (simp; omega)) [ltT, ltF, leT, leF, eqT', eqF, ltTn, leTn, ltFn, leFn, wrapI, mid, special_mem]
      exact hA (pre ++ [x], rest) _ (by simp) (by simp) (Shift.slots' (by simp) (by simp [hs2]))

end Go.Vm
