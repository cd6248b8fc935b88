/- recur: the text of the example rule. -/
import Derived.Test.YtkmeiandnebaeaaGreatDoorRd7
namespace Go.Vm
open Proofs
set_option maxRecDepth 20000
set_option maxHeartbeats 2000000
set_option linter.unusedSimpArgs false

/-- The example rule: the last day of each month. -/
def r1 : Ru := ⟨3, 1, [], [-1], [], [], 0, 0⟩
def txt1 : List UInt8 := [101, 118, 101, 114, 121, 32, 49, 32, 109, 111, 110, 116, 104, 32, 100, 97, 121, 115, 32, 45, 49]

theorem r1_ok : ruleF r1 = (0, 0) := by decide

theorem unitNames_V (h : List Blk) : CallP Tryz.prog 47 [] h (.d (.sl 9 ([[100, 97, 121], [119, 101, 101, 107], [109, 111, 110, 116, 104], [121, 101, 97, 114]].map encS))) := by
  refine callW tb_ok fn47 (by simp) (fun hok => ?_)
  simp (disch := first | omega | (simp; done) | (simp; omega)) [ltT, ltF, leT, leF, eqT', eqF, ltTn, leTn, ltFn, leFn, wrapI, mid, c47]
  have hf := fun h => fields_V [100, 97, 121, 32, 119, 101, 101, 107, 32, 109, 111, 110, 116, 104, 32, 121, 101, 97, 114] (by decide) (by decide) h
  rw [show Lib.fields [100, 97, 121, 32, 119, 101, 101, 107, 32, 109, 111, 110, 116, 104, 32, 121, 101, 97, 114] = [[100, 97, 121], [119, 101, 101, 107], [109, 111, 110, 116, 104], [121, 101, 97, 114]] from by decide +kernel] at hf
  refine (hf _).useV ?_
  simp (disch := first | omega | (simp; done) | (simp; omega)) [ltT, ltF, leT, leF, eqT', eqF, ltTn, leTn, ltFn, leFn, wrapI, mid]

theorem print2_V {b : Nat} {h : List Blk} (hb : h[b]? = some (.cells 25 [.d (encRu r1)])) : CallP Tryz.prog 50 [.d (.int .i64 0), .ptr b 25 0 0] h (.d (.str [45, 49])) := by
  refine callW tb_ok fn50 (by simp) (fun hok => ?_)
  have hbl := (List.getElem?_eq_some_iff.mp hb).1
  have hb' := (List.getElem?_eq_some_iff.mp hb).2
  simp (disch := first | omega | (simp; done) | (simp; omega)) [ltT, ltF, leT, leF, eqT', eqF, ltTn, leTn, ltFn, leFn, wrapI, mid, c50, hb, hb', hbl, r1, encI]
  refine (itoa_V (-1) (by omega) (by omega) _).useV ?_
  rw [show Lib.itoa (-1) = [45, 49] from by decide +kernel]
  simp (disch := first | omega | (simp; done) | (simp; omega)) [ltT, ltF, leT, leF, eqT', eqF, ltTn, leTn, ltFn, leFn, wrapI, mid]

theorem list0_V (t : Nat) (w : List UInt8) (g : FuncId) (cs : List AV) (h : List Blk) : CallP Tryz.prog 48 [.ptr t 68 0 0, .d (.str w), .d (.int .i64 0), .clo g cs] h (.tup []) := by
  refine callW tb_ok fn48 (by simp) (fun hok => ?_)
  simp (disch := first | omega | (simp; done) | (simp; omega)) [ltT, ltF, leT, leF, eqT', eqF, ltTn, leTn, ltFn, leFn, wrapI, mid, c48]

theorem list1_V' {t wB rB : Nat} {h : List Blk} (ht : h[t]? = some (.cells 68 [.agg [.ref wB 9 0 3]])) (hw : h[wB]? = some (.cells 9 [.d (.str [101, 118, 101, 114, 121]), .d (.str [49]), .d (.str [109, 111, 110, 116, 104])])) (hr : h[rB]? = some (.cells 25 [.d (encRu r1)])) (hne : t ≠ wB) :
    CallW Tryz.prog 48 [.ptr t 68 0 0, .d (.str [100, 97, 121, 115]), .d (.int .i64 1), .clo 50 [.ptr rB 25 0 0]] h fun x h' => x = .tup [] ∧
      h' = (h.set wB .gone).set t (.cells 68 [.ref (h.length + 1) 9 0 5]) ++ [.tail 9 1, .cells 9 [.d (.str [101, 118, 101, 114, 121]), .d (.str [49]), .d (.str [109, 111, 110, 116, 104]), .d (.str [100, 97, 121, 115]), .d (.str [45, 49])]] := by
  refine callW tb_ok fn48 (by simp) (fun hok => ?_)
  have htl := (List.getElem?_eq_some_iff.mp ht).1
  have ht' := (List.getElem?_eq_some_iff.mp ht).2
  have hwl := (List.getElem?_eq_some_iff.mp hw).1
  have hw' := (List.getElem?_eq_some_iff.mp hw).2
  have hrl := (List.getElem?_eq_some_iff.mp hr).1
  simp (disch := first | omega | (simp; done) | (simp; omega)) [ltT, ltF, leT, leF, eqT', eqF, ltTn, leTn, ltFn, leFn, wrapI, mid, c48]
  refine W_loopA (ι := Nat) (fun i => i ≤ 1) (fun i => ⟨[(0, .ptr t 68 0 0), (1, .d (.str [100, 97, 121, 115])), (3, .clo 50 [.ptr rB 25 0 0]), (8, .bl h.length 9 (List.replicate i (.str [45, 49]))), (12, .d (.int .i64 1)), (13, .d (.int .i64 i))], h ++ [.tail 9 i]⟩) (fun i => 1 - i) 0 (by omega)
    ((Shift.nilbl (i := 8) 9 (by simp)).trans (Shift.slots' (by simp) (by simp))) ?_
  rintro i hi A hA
  have h01 : i = 0 ∨ i = 1 := by omega
  rcases h01 with rfl | rfl
  · simp (disch := first | omega | (simp; done) | (simp; omega)) [ltT, ltF, leT, leF, eqT', eqF, ltTn, leTn, ltFn, leFn, wrapI, mid]
    refine (print2_V (b := rB) ?_).useV ?_
    · show (h ++ _)[rB]? = _
      rw [List.getElem?_append_left hrl]; exact hr
    simp (disch := first | omega | (simp; done) | (simp; omega)) [ltT, ltF, leT, leF, eqT', eqF, ltTn, leTn, ltFn, leFn, wrapI, mid]
    exact hA 1 _ (by omega) (by omega) (Shift.slots' (by simp) (by simp))
  · simp (disch := first | omega | (simp; done) | (simp; omega)) [ltT, ltF, leT, leF, eqT', eqF, ltTn, leTn, ltFn, leFn, wrapI, mid]
    refine regV_all ?_
    simp (disch := first | omega | (simp; done) | (simp; omega)) [ltT, ltF, leT, leF, eqT', eqF, ltTn, leTn, ltFn, leFn, wrapI, mid, ht, ht', htl]
    have hj : ∀ h, CallP Tryz.prog 54 [.bl (h.length - 1) 9 [.str [45, 49]], .d (.str [44])] h (.d (.str [45, 49])) := fun h => CallP.subs (join_V [[45, 49]] [44] (by decide) (by decide) h) (by exact ⟨.bl _ _ _, .refl _, trivial⟩)
    have hj' := hj (h ++ [.tail 9 1])
    simp only [List.length_append, List.length_singleton, Nat.add_sub_cancel] at hj'
    refine hj'.useV ?_
    simp (disch := first | omega | (simp; done) | (simp; omega)) [ltT, ltF, leT, leF, eqT', eqF, ltTn, leTn, ltFn, leFn, wrapI, mid, ht, ht', htl, hw, hw', hwl]
    exact rshift_same' rfl (by simp)

theorem print1_V (h : List Blk) : CallP Tryz.prog 17 [.d (encRu r1)] h (.tup [.d (.str txt1), .d (encF (0, 0))]) := by
  refine callW tb_ok fn17 (by simp) (fun hok => ?_)
  simp (disch := first | omega | (simp; done) | (simp; omega)) [ltT, ltF, leT, leF, eqT', eqF, ltTn, leTn, ltFn, leFn, wrapI, mid, c17]
  refine (validate_V r1 _).useV ?_
  rw [r1_ok]
  simp (disch := first | omega | (simp; done) | (simp; omega)) [ltT, ltF, leT, leF, eqT', eqF, ltTn, leTn, ltFn, leFn, wrapI, mid, r1]
  refine regV_all ?_
  simp (disch := first | omega | (simp; done) | (simp; omega)) [ltT, ltF, leT, leF, eqT', eqF, ltTn, leTn, ltFn, leFn, wrapI, mid, r1]
  refine (itoa_V 1 (by omega) (by omega) _).useV ?_
  rw [show Lib.itoa 1 = [49] from by decide +kernel]
  simp (disch := first | omega | (simp; done) | (simp; omega)) [ltT, ltF, leT, leF, eqT', eqF, ltTn, leTn, ltFn, leFn, wrapI, mid]
  refine (unitNames_V _).useV ?_
  simp (disch := first | omega | (simp; done) | (simp; omega)) [ltT, ltF, leT, leF, eqT', eqF, ltTn, leTn, ltFn, leFn, wrapI, mid, encS, r1]
  refine (list0_V _ _ _ _ _).useV ?_
  simp (disch := first | omega | (simp; done) | (simp; omega)) [ltT, ltF, leT, leF, eqT', eqF, ltTn, leTn, ltFn, leFn, wrapI, mid, r1]
  refine callV_of (list1_V' (t := h.length + 4) (wB := h.length + 3) (rB := h.length) (by simp) (by simp) (by simp [r1]) (by omega)) ?_
  rintro _ _ ⟨rfl, rfl⟩
  simp (disch := first | omega | (simp; done) | (simp; omega)) [ltT, ltF, leT, leF, eqT', eqF, ltTn, leTn, ltFn, leFn, wrapI, mid, r1]
  refine (list0_V _ _ _ _ _).useV ?_
  simp (disch := first | omega | (simp; done) | (simp; omega)) [ltT, ltF, leT, leF, eqT', eqF, ltTn, leTn, ltFn, leFn, wrapI, mid, r1]
  refine (list0_V _ _ _ _ _).useV ?_
  simp (disch := first | omega | (simp; done) | (simp; omega)) [ltT, ltF, leT, leF, eqT', eqF, ltTn, leTn, ltFn, leFn, wrapI, mid, r1]
  refine W_loopA (ι := Nat) (fun i => i ≤ 2) (fun i => ⟨[(3, .ptr (h.length + 1) 27 0 0), (5, .ptr (h.length + 4) 68 0 0), (56, .d (.sl 70 [.agg [.str [99, 111, 117, 110, 116], .int .i64 0], .agg [.str [117, 110, 116, 105, 108], .int .i64 0]])), (57, .d (.int .i64 2)), (58, .d (.int .i64 i))],
    h ++ [.cells 25 [.d (encRu r1)], .cells 27 [.d (encF (0, 0))], .cells 27 [.d (encF (0, 0))], .gone, .cells 68 [.ref (h.length + 6) 9 0 5], .tail 9 1, .cells 9 [.d (.str [101, 118, 101, 114, 121]), .d (.str [49]), .d (.str [109, 111, 110, 116, 104]), .d (.str [100, 97, 121, 115]), .d (.str [45, 49])]]⟩) (fun i => 2 - i) 0 (by omega) (Shift.slots' (by simp [r1]) (by simp)) ?_
  have hokB : HOk (h ++ [.cells 25 [.d (encRu r1)], .cells 27 [.d (encF (0, 0))], .cells 27 [.d (encF (0, 0))], .gone, .cells 68 [.ref (h.length + 6) 9 0 5], .tail 9 1, .cells 9 [.d (.str [101, 118, 101, 114, 121]), .d (.str [49]), .d (.str [109, 111, 110, 116, 104]), .d (.str [100, 97, 121, 115]), .d (.str [45, 49])]]) := by
    refine hok.append ?_
    intro z hz
    simp only [List.mem_cons, List.not_mem_nil, or_false] at hz
    rcases hz with rfl | rfl | rfl | rfl | rfl | rfl | rfl <;> simp [BlkBel, AV.cells]
  rintro i hi A hA
  have h012 : i = 0 ∨ i = 1 ∨ i = 2 := by omega
  rcases h012 with rfl | rfl | rfl
  · simp (disch := first | omega | (simp; done) | (simp; omega)) [ltT, ltF, leT, leF, eqT', eqF, ltTn, leTn, ltFn, leFn, wrapI, mid]
    exact hA 1 _ (by omega) (by omega) (Shift.weak' (g := [.cells 70 [.d (.agg [.str [99, 111, 117, 110, 116], .int .i64 0])]]) (by simp) hokB (by simp) (by simp))
  · simp (disch := first | omega | (simp; done) | (simp; omega)) [ltT, ltF, leT, leF, eqT', eqF, ltTn, leTn, ltFn, leFn, wrapI, mid]
    exact hA 2 _ (by omega) (by omega) (Shift.weak' (g := [.cells 70 [.d (.agg [.str [117, 110, 116, 105, 108], .int .i64 0])]]) (by simp) hokB (by simp) (by simp))
  · simp (disch := first | omega | (simp; done) | (simp; omega)) [ltT, ltF, leT, leF, eqT', eqF, ltTn, leTn, ltFn, leFn, wrapI, mid]
    have hj : Lib.join [[101, 118, 101, 114, 121], [49], [109, 111, 110, 116, 104], [100, 97, 121, 115], [45, 49]] [32] = txt1 := by decide +kernel
    have hjv := join_V [[101, 118, 101, 114, 121], [49], [109, 111, 110, 116, 104], [100, 97, 121, 115], [45, 49]] [32] (by decide) (by rw [hj]; decide) []
    rw [hj] at hjv
    refine (CallP.framed (ds := [.sl 9 ([[101, 118, 101, 114, 121], [49], [109, 111, 110, 116, 104], [100, 97, 121, 115], [45, 49]].map encS), .str [32]]) hjv rfl (.cons (.ref (b := h.length + 6) (e := 9) (ds := [[101, 118, 101, 114, 121], [49], [109, 111, 110, 116, 104], [100, 97, 121, 115], [45, 49]].map encS) (off := 0) (len := 5) (by simp [encS]) (by simp)) (.cons (.d _) .nil))).useV ?_
    simp (disch := first | omega | (simp; done) | (simp; omega)) [ltT, ltF, leT, leF, eqT', eqF, ltTn, leTn, ltFn, leFn, wrapI, mid]
    exact RShift.subs ⟨.refl _, .refl _, trivial⟩ (by simp) hok (Nat.le_refl _)

end Go.Vm
