/- CsD: C2, Cs20, Cs21, Cs22, Cs23. -/
import Derived.Test.YtggeifnbllfmbaaDoorVMd
import Derived.Test.YtggeifnbllfmbaaDoorProg
import Derived.Test.YtggeifnbllfmbaaDoorCsC
/- The stripped codes of some functions, by program (gen.py). -/
namespace Go.Vm
set_option maxRecDepth 20000

/-- brindlewood/csv.Sniff -/
def c24m : VC := (.seq (.reg [⟨(some 2), (.alloc 24), none, false, false⟩,
    ⟨(some 3), (.alloc 26), none, false, false⟩]) (.seq (.seq (.reg [⟨(some 12), (.move (.tmp 0)), none, false, false⟩,
    ⟨(some 13), (.call { callee := .builtin .len, args := #[.tmp 12], argTypes := #[9] }), none, false, false⟩,
    ⟨(some 14), (.binOp .gtr 3 (.tmp 13) (.const (.int .i64 4000)) 3), none, false, false⟩]) (.cond (.tmp 14) (.seq (.reg [⟨(some 15), (.build 24 #[]), none, false, false⟩,
    ⟨(some 16), (.build 26 #[(0, .const (.int .i64 3)), (1, .const (.int .i64 (-1)))]), none, false, false⟩,
    ⟨none, (.store 24 (.tmp 2) (.tmp 15)), none, false, false⟩,
    ⟨none, (.store 26 (.tmp 3) (.tmp 16)), none, false, false⟩]) .ret) .skip)) (.seq (.reg [⟨(some 17), (.build 24 #[]), none, false, false⟩,
    ⟨(some 4), (.alloc 24), none, false, false⟩,
    ⟨none, (.store 24 (.tmp 4) (.tmp 17)), none, false, false⟩,
    ⟨(some 5), (.assign (.const (.int .i64 1))), none, false, false⟩]) (.seq (.seq (.reg [⟨(some 18), (.buildSlice 54 4 #[(0, .const (.int .u8 44)), (1, .const (.int .u8 59)), (2, .const (.int .u8 9)), (3, .const (.int .u8 124))]), none, false, true⟩,
    ⟨(some 19), (.convert 54 54 (.tmp 18)), none, false, true⟩,
    ⟨(some 20), (.call { callee := .builtin .len, args := #[.tmp 19], argTypes := #[54] }), none, false, false⟩,
    ⟨(some 21), (.move (.const (.int .i64 0))), none, false, false⟩]) (.block 0 (.loop (.seq (.reg [⟨(some 22), (.binOp .lss 3 (.tmp 21) (.tmp 20) 3), none, false, false⟩]) (.seq (.cond (.tmp 22) .skip (.exit 0)) (.seq (.block 1 (.seq (.reg [⟨(some 23), (.indexAddr 54 (.tmp 19) (.tmp 21)), none, false, false⟩,
    ⟨(some 24), (.load 5 (.tmp 23)), none, false, false⟩,
    ⟨(some 7), (.assign (.tmp 24)), none, false, false⟩]) (.seq (.reg [⟨(some 25), (.move (.tmp 7)), none, false, false⟩,
    ⟨(some 26), (.move (.tmp 0)), none, false, false⟩,
    ⟨(some 27), (.call { callee := .value (.func 40), args := #[.tmp 26, .const (.string { data := #[13, 10] })], argTypes := #[9, 9] }), none, false, false⟩,
    ⟨(some 28), (.build 24 #[(0, .tmp 25), (1, .const (.int .u8 34)), (3, .tmp 27)]), none, false, false⟩,
    ⟨(some 8), (.alloc 24), none, false, false⟩,
    ⟨none, (.store 24 (.tmp 8) (.tmp 28)), none, false, false⟩]) (.seq (.reg [⟨(some 30), (.move (.tmp 0)), none, false, false⟩,
    ⟨(some 31), (.load 24 (.tmp 8)), none, false, false⟩,
    ⟨(some 32), (.call { callee := .value (.func 18), args := #[.tmp 30, .tmp 31], argTypes := #[9, 24] }), none, false, false⟩,
    ⟨(some 29), (.move (.tmp 32)), none, false, false⟩,
    ⟨(some 33), (.extract (.tmp 29) 0), none, false, false⟩,
    ⟨(some 34), (.extract (.tmp 29) 1), none, false, false⟩,
    ⟨(some 10), (.alloc 26), none, false, false⟩,
    ⟨(some 9), (.assign (.tmp 33)), none, false, false⟩,
    ⟨none, (.store 26 (.tmp 10) (.tmp 34)), none, false, false⟩]) (.seq (.reg [⟨(some 35), (.move (.tmp 9)), none, false, false⟩,
    ⟨(some 36), (.call { callee := .value (.func 41), args := #[.tmp 35], argTypes := #[22] }), none, false, false⟩,
    ⟨(some 11), (.assign (.tmp 36)), none, false, false⟩]) (.seq (.reg [⟨(some 37), (.fieldAddr 26 (.tmp 10) 0), none, false, false⟩,
    ⟨(some 38), (.load 3 (.tmp 37)), none, false, false⟩,
    ⟨(some 39), (.binOp .eql 3 (.tmp 38) (.const (.int .i64 0)) 3), none, false, false⟩,
    ⟨(some 40), (.move (.tmp 39)), none, false, false⟩,
    ⟨(some 41), (.move (.tmp 11)), (some (40, true)), false, false⟩,
    ⟨(some 42), (.move (.tmp 5)), (some (40, true)), false, false⟩,
    ⟨(some 43), (.binOp .gtr 3 (.tmp 41) (.tmp 42) 3), (some (40, true)), false, false⟩,
    ⟨(some 44), (.pick (.tmp 40) (.tmp 43) (.const (.bool false))), none, false, false⟩]) (.cond (.tmp 44) (.reg [⟨(some 45), (.load 24 (.tmp 8)), none, false, false⟩,
    ⟨(some 46), (.move (.tmp 11)), none, false, false⟩,
    ⟨none, (.store 24 (.tmp 4) (.tmp 45)), none, false, false⟩,
    ⟨(some 5), (.assign (.tmp 46)), none, false, false⟩]) .skip))))))) (.reg [⟨(some 47), (.binOp .add 3 (.tmp 21) (.const (.int .i64 1)) 3), none, false, false⟩,
    ⟨(some 21), (.move (.tmp 47)), none, false, false⟩]))))))) (.seq (.seq (.reg [⟨(some 48), (.move (.tmp 5)), none, false, false⟩,
    ⟨(some 49), (.binOp .eql 3 (.tmp 48) (.const (.int .i64 1)) 3), none, false, false⟩]) (.cond (.tmp 49) (.seq (.reg [⟨(some 50), (.build 24 #[]), none, false, false⟩,
    ⟨(some 51), (.build 26 #[(0, .const (.int .i64 12)), (1, .const (.int .i64 (-1)))]), none, false, false⟩,
    ⟨none, (.store 24 (.tmp 2) (.tmp 50)), none, false, false⟩,
    ⟨none, (.store 26 (.tmp 3) (.tmp 51)), none, false, false⟩]) .ret) .skip)) (.seq (.reg [⟨(some 52), (.load 24 (.tmp 4)), none, false, false⟩,
    ⟨(some 53), (.build 26 #[]), none, false, false⟩,
    ⟨none, (.store 24 (.tmp 2) (.tmp 52)), none, false, false⟩,
    ⟨none, (.store 26 (.tmp 3) (.tmp 53)), none, false, false⟩]) .ret))))))
theorem fn24m : FnIs Proofs.Tryd.prog 24 54 (fun t => t == 18 || t == 19) [.cell 2 24, .cell 3 26] c24m := ⟨Proofs.Tryd.f24, Proofs.Tryd.func24, by kernel_rfl, by kernel_rfl, by kernel_rfl, by kernel_rfl⟩

end Go.Vm

/- csv: Sniff, and the reference's Sniffed. -/
namespace Go.Vm
open Proofs
set_option maxRecDepth 20000
set_option maxHeartbeats 1000000
set_option linter.unusedSimpArgs false

theorem indexFunc42c_V (xs : List (List (List UInt8))) (g : FuncId) (cs : List AV) (p : List (List UInt8) → Bool) (h : List Blk) (hl : xs.length < 1000000000)
    (hg : ∀ x ∈ xs, CallP Tryd.prog g (.d (encR x) :: cs) h (.d (.bool (p x)))) : CallP Tryd.prog 42 [.d (.sl 39 (xs.map encR)), .clo g cs] h (.d (.int .i64 (idxFrom p 0 xs))) := by
  refine callW tb_ok fn42 (by simp) (fun hok => ?_)
  simp [c42]
  refine W_loopA (ι := List (List (List UInt8)) × List (List (List UInt8))) (fun q => q.1 ++ q.2 = xs ∧ idxFrom p q.1.length q.2 = idxFrom p 0 xs) (fun q => ⟨[(0, .d (.sl 39 (xs.map encR))), (1, .clo g cs), (7, .d (.int .i64 xs.length)), (8, .d (.int .i64 q.1.length))], h⟩) (fun q => q.2.length) ([], xs) (by simp) (Shift.slots' rfl (by simp [look])) ?_
  rintro ⟨pre, rest⟩ ⟨hx, hc⟩ A hA
  simp only at hx hc
  subst hx
  cases rest with
  | nil =>
    simp only [idxFrom, List.append_nil] at hc
    simp (disch := first | omega | (simp; done) | (simp; omega)) [ltT, ltF, leT, leF, eqT', eqF, ltTn, leTn, ltFn, leFn, wrapI, mid, ← hc]
  | cons x rest =>
    simp only [List.length_append, List.length_cons] at hl
    simp (disch := first | omega | (simp; done) | (simp; omega)) [ltT, ltF, leT, leF, eqT', eqF, ltTn, leTn, ltFn, leFn, wrapI, mid]
    refine (hg x (by simp)).useV ?_
    by_cases hp : p x = true
    · have hr : idxFrom p 0 (pre ++ x :: rest) = pre.length := by rw [← hc, idxFrom, if_pos hp]
      simp [hp, hr]
    · have hp' : p x = false := by simpa using hp
      simp (disch := first | omega | (simp; done) | (simp; omega)) [ltT, ltF, leT, leF, eqT', eqF, ltTn, leTn, ltFn, leFn, wrapI, mid, hp']
      refine hA (pre ++ [x], rest) _ ⟨by simp, ?_⟩ (by simp) (Shift.slots' rfl (by simp))
      rw [← hc, idxFrom, if_neg hp]
      simp

def otherW (n : Nat) (r : List (List UInt8)) : Bool := decide (r.length ≠ n)

theorem width50_V (r : List (List UInt8)) (n : Nat) {b : Nat} {h : List Blk} (hb : h[b]? = some (.cells 3 [.d (.int .i64 (n : Int))])) : CallP Tryd.prog 50 [.d (encR r), .ptr b 3 0 0] h (.d (.bool (otherW n r))) := by
  refine callW tb_ok fn50 (by simp) (fun hok => ?_)
  have hbl := (List.getElem?_eq_some_iff.mp hb).1
  have hb' := (List.getElem?_eq_some_iff.mp hb).2
  simp (disch := first | omega | (simp; done) | (simp; omega)) [ltT, ltF, leT, leF, eqT', eqF, ltTn, leTn, ltFn, leFn, wrapI, mid, c50, encR, hb', hbl]
  by_cases h1 : r.length = n
  · simp [otherW, h1]
  · have h2 : ¬ ((r.length : Int) = (n : Int)) := by omega
    simp [otherW, h1, h2]

theorem containsFunc49_V (xs : List (List (List UInt8))) (g : FuncId) (cs : List AV) (p : List (List UInt8) → Bool) (h : List Blk) (hl : xs.length < 1000000000)
    (hg : ∀ x ∈ xs, CallP Tryd.prog g (.d (encR x) :: cs) h (.d (.bool (p x)))) : CallP Tryd.prog 49 [.d (.sl 39 (xs.map encR)), .clo g cs] h (.d (.bool (xs.any p))) := by
  refine callW tb_ok fn49 (by simp) (fun hok => ?_)
  simp (disch := first | omega | (simp; done) | (simp; omega)) [ltT, ltF, leT, leF, eqT', eqF, ltTn, leTn, ltFn, leFn, wrapI, mid, c49]
  refine (indexFunc42c_V xs g cs p _ hl hg).useV ?_
  simp (disch := first | omega | (simp; done) | (simp; omega)) [ltT, ltF, leT, leF, eqT', eqF, ltTn, leTn, ltFn, leFn, wrapI, mid, idxFrom_any]

def widthS (rows : List (List (List UInt8))) : Nat := match rows with
  | [] => 0
  | r :: l => if (r :: l).any (otherW r.length) then 0 else r.length

theorem width_V (rows : List (List (List UInt8))) (h : List Blk) (hl : rows.length < 1000000000) : CallP Tryd.prog 41 [.d (.sl 39 (rows.map encR))] h (.d (.int .i64 (widthS rows))) := by
  refine callW tb_ok fn41 (by simp) (fun hok => ?_)
  cases rows with
  | nil => simp (disch := first | omega | (simp; done) | (simp; omega)) [ltT, ltF, leT, leF, eqT', eqF, ltTn, leTn, ltFn, leFn, wrapI, mid, c41, widthS]
  | cons r l =>
    have hcall := fun g hg => containsFunc49_V (r :: l) 50 [.ptr h.length 3 0 0] (otherW r.length) g hl hg
    simp only [List.map_cons] at hcall
    simp only [List.length_cons] at hl
    simp (disch := first | omega | (simp; done) | (simp; omega)) [ltT, ltF, leT, leF, eqT', eqF, ltTn, leTn, ltFn, leFn, wrapI, mid, c41, encR]
    simp only [encR] at hcall
    refine (hcall _ (fun x _ => width50_V x r.length (by simp))).useV ?_
    cases hany : (r :: l).any (otherW r.length) with
    | true =>
      have hw : widthS (r :: l) = 0 := by simp only [widthS, hany, if_true]
      rw [hw]
      simp (disch := first | omega | (simp; done) | (simp; omega)) [ltT, ltF, leT, leF, eqT', eqF, ltTn, leTn, ltFn, leFn, wrapI, mid]
      exact rshift_d hok
    | false =>
      have hw : widthS (r :: l) = r.length := by simp only [widthS, hany]; rfl
      rw [hw]
      simp (disch := first | omega | (simp; done) | (simp; omega)) [ltT, ltF, leT, leF, eqT', eqF, ltTn, leTn, ltFn, leFn, wrapI, mid]
      exact rshift_d hok

def hasSuf (s suf : List UInt8) : Bool := decide (suf.length ≤ s.length ∧ s.drop (s.length - suf.length) = suf)
theorem hasSuffix48_V (s suf : List UInt8) (h : List Blk) (hs : s.length ≤ 1048576) (hf : suf.length ≤ 1048576) : CallP Tryd.prog 48 [.d (.str s), .d (.str suf)] h (.d (.bool (hasSuf s suf))) := by
  refine callW tb_ok fn48 (by simp) (fun hok => ?_)
  by_cases h1 : suf.length ≤ s.length
  · have e : ((s.length : Int) - (suf.length : Int)).toNat = s.length - suf.length := by omega
    simp (disch := first | omega | (simp; done) | (simp; omega)) [ltT, ltF, leT, leF, eqT', eqF, ltTn, leTn, ltFn, leFn, wrapI, mid, c48, hasSuf, e]
  · simp (disch := first | omega | (simp; done) | (simp; omega)) [ltT, ltF, leT, leF, eqT', eqF, ltTn, leTn, ltFn, leFn, wrapI, mid, c48, hasSuf]

theorem hasSuffix40_V (s suf : List UInt8) (h : List Blk) (hs : s.length ≤ 1048576) (hf : suf.length ≤ 1048576) : CallP Tryd.prog 40 [.d (.str s), .d (.str suf)] h (.d (.bool (hasSuf s suf))) := by
  refine callW tb_ok fn40 (by simp) (fun hok => ?_)
  simp (disch := first | omega | (simp; done) | (simp; omega)) [ltT, ltF, leT, leF, eqT', eqF, ltTn, leTn, ltFn, leFn, wrapI, mid, c40]
  refine (hasSuffix48_V s suf _ hs hf).useV ?_
  simp (disch := first | omega | (simp; done) | (simp; omega)) [ltT, ltF, leT, leF, eqT', eqF, ltTn, leTn, ltFn, leFn, wrapI, mid]

def dz : Dia := ⟨0, 0, false, false⟩
def sniffD (text : List UInt8) (c : UInt8) : Dia := ⟨c, 34, false, hasSuf text [13, 10]⟩
def sniffStep (text : List UInt8) (p : Dia × Nat) (c : UInt8) : Dia × Nat :=
  if (parseS text (sniffD text c)).2.1 = 0 ∧ p.2 < widthS (parseS text (sniffD text c)).1 then (sniffD text c, widthS (parseS text (sniffD text c)).1) else p
def sniffL (text : List UInt8) (l : List UInt8) : Dia × Nat := l.foldl (sniffStep text) (dz, 1)
def sniffS (text : List UInt8) : Dia × (Int × Int) :=
  if 4000 < text.length then (dz, (3, -1)) else if (sniffL text [44, 59, 9, 124]).2 = 1 then (dz, (12, -1)) else ((sniffL text [44, 59, 9, 124]).1, (0, 0))

theorem encDz : encDia dz = .agg [.int .u8 0, .int .u8 0, .bool false, .bool false] := rfl

theorem widthS_le (rows : List (List (List UInt8))) (k : Nat) (h : ∀ r ∈ rows, r.length ≤ k) : widthS rows ≤ k := by
  cases rows with
  | nil => simp [widthS]
  | cons r l =>
    simp only [widthS]
    split
    · omega
    · exact h r (by simp)
theorem sniffL_le (text : List UInt8) : ∀ (l : List UInt8) (p : Dia × Nat), p.2 ≤ 1000 → (l.foldl (sniffStep text) p).2 ≤ 1000
  | [], p, h => h
  | c :: l, p, h => by
    refine sniffL_le text l _ ?_
    unfold sniffStep
    split
    · exact widthS_le _ _ (parse_len text _).2
    · exact h

theorem sniff_V (text : List UInt8) (hl : text.length ≤ 1048576) (h : List Blk) : CallP Tryd.prog 24 [.d (.str text)] h (.tup [.d (encDia (sniffS text).1), .d (encF (sniffS text).2)]) := by
  refine callW tb_ok fn24m (by simp) (fun hok => ?_)
  by_cases h1 : 4000 < text.length
  · rw [sniffS, if_pos h1]
    simp (disch := first | omega | (simp; done) | (simp; omega)) [ltT, ltF, leT, leF, eqT', eqF, ltTn, leTn, ltFn, leFn, wrapI, mid, c24m]
    exact RShift.subs ⟨.refl _, .refl _, trivial⟩ (by simp) hok (Nat.le_refl _)
  rw [sniffS, if_neg h1]
  simp (disch := first | omega | (simp; done) | (simp; omega)) [ltT, ltF, leT, leF, eqT', eqF, ltTn, leTn, ltFn, leFn, wrapI, mid, c24m]
  refine W_loopA (ι := List UInt8 × List UInt8) (fun p => p.1 ++ p.2 = [44, 59, 9, 124]) (fun p => ⟨[(0, .d (.str text)), (2, .ptr h.length 24 0 0), (3, .ptr (h.length + 1) 26 0 0), (4, .ptr (h.length + 2) 24 0 0), (5, .d (.int .i64 (sniffL text p.1).2)), (19, .d (.sl 5 ([44, 59, 9, 124].map encU))), (20, .d (.int .i64 4)), (21, .d (.int .i64 p.1.length))],
    h ++ [.cells 24 [.d (encDia dz)], .cells 26 [.d (encF (0, 0))], .cells 24 [.d (encDia (sniffL text p.1).1)], .gone]⟩) (fun p => p.2.length) ([], [44, 59, 9, 124]) rfl (Shift.slots' (by simp [encDz, sniffL]) (by simp [sniffL, encU])) ?_
  rintro ⟨pre, rest⟩ hx A hA
  simp only at hx
  have hle := sniffL_le text pre (dz, 1) (by simp)
  have hlen := congrArg List.length hx
  simp only [List.length_append, List.length_cons, List.length_nil] at hlen
  cases rest with
  | nil =>
    simp only [List.append_nil] at hx
    subst hx
    by_cases h2 : (sniffL text [44, 59, 9, 124]).2 = 1
    · rw [if_pos h2]
      simp (disch := first | omega | (simp; done) | (simp; omega)) [ltT, ltF, leT, leF, eqT', eqF, ltTn, leTn, ltFn, leFn, wrapI, mid, h2]
      exact RShift.subs ⟨.refl _, .refl _, trivial⟩ (by simp) hok (Nat.le_refl _)
    · rw [if_neg h2]
      simp (disch := first | omega | (simp; done) | (simp; omega)) [ltT, ltF, leT, leF, eqT', eqF, ltTn, leTn, ltFn, leFn, wrapI, mid, h2]
      exact RShift.subs ⟨.refl _, .refl _, trivial⟩ (by simp) hok (Nat.le_refl _)
  | cons c rest =>
    have hstep : sniffL text (pre ++ [c]) = sniffStep text (sniffL text pre) c := by simp [sniffL]
    obtain ⟨p, hp⟩ : ∃ p, sniffL text pre = p := ⟨_, rfl⟩
    have hle : p.2 ≤ 1000 := by rw [← hp]; exact hle
    rw [hp] at hstep
    rw [← hx]
    simp only [hp]
    simp only [List.length_cons] at hlen
    simp (disch := first | omega | (simp; done) | (simp; omega)) [ltT, ltF, leT, leF, eqT', eqF, ltTn, leTn, ltFn, leFn, wrapI, mid]
    refine (hasSuffix40_V text [13, 10] _ hl (by simp)).useV ?_
    obtain ⟨d, hd⟩ : ∃ d, sniffD text c = d := ⟨_, rfl⟩
    have hD : D.agg [D.int .u8 (c.toNat : Int), D.int .u8 34, D.bool false, D.bool (hasSuf text [13, 10])] = encDia d := by rw [← hd]; rfl
    have hlen2 : pre.length ≤ 4 := by omega
    simp (disch := first | omega | (simp; done) | (simp; omega)) [ltT, ltF, leT, leF, eqT', eqF, ltTn, leTn, ltFn, leFn, wrapI, mid, encU, hD]
    refine (parse_V text d hl _).useV ?_
    obtain ⟨pl, pr⟩ := parse_len text d
    have hwl := widthS_le _ _ pr
    simp (disch := first | omega | (simp; done) | (simp; omega)) [ltT, ltF, leT, leF, eqT', eqF, ltTn, leTn, ltFn, leFn, wrapI, mid]
    refine (width_V (parseS text d).1 _ (by omega)).useV ?_
    unfold sniffStep at hstep
    rw [hd] at hstep
    have hnx : pre.length + 1 + rest.length = 4 := by omega
    have hok2 : ∀ b : Dia, HOk (h ++ [.cells 24 [.d (encDia dz)], .cells 26 [.d (encF (0, 0))], .cells 24 [.d (encDia b)], .gone]) := by
      intro b
      refine hok.append ?_
      intro z hz
      simp only [List.mem_cons, List.not_mem_nil, or_false] at hz
      rcases hz with rfl | rfl | rfl | rfl
      · exact bel_cellsD _ _ _
      · exact bel_cellsD _ _ _
      · exact bel_cellsD _ _ _
      · trivial
    by_cases h2 : (parseS text d).2.1 = 0
    · by_cases h3 : p.2 < widthS (parseS text d).1
      · rw [if_pos ⟨h2, h3⟩] at hstep
        simp (disch := first | omega | (simp; done) | (simp; omega)) [ltT, ltF, leT, leF, eqT', eqF, ltTn, leTn, ltFn, leFn, wrapI, mid, h2, h3, encU]
        exact hA (pre ++ [c], rest) _ (by simpa using hx) (by simp) (Shift.weak' (g := [.cells 24 [.d (encDia d)], .cells 26 [.d (encF (parseS text d).2)]]) (by simp [hstep]) (hok2 _) (by simp) (by simp [hstep, encU, ← hx]))
      · rw [if_neg (fun h => h3 h.2)] at hstep
        simp (disch := first | omega | (simp; done) | (simp; omega)) [ltT, ltF, leT, leF, eqT', eqF, ltTn, leTn, ltFn, leFn, wrapI, mid, h2, h3, encU]
        exact hA (pre ++ [c], rest) _ (by simpa using hx) (by simp) (Shift.weak' (g := [.cells 24 [.d (encDia d)], .cells 26 [.d (encF (parseS text d).2)]]) (by simp [hstep]) (hok2 _) (by simp) (by simp [hstep, encU, ← hx]))
    · rw [if_neg (fun h => h2 h.1)] at hstep
      simp (disch := first | omega | (simp; done) | (simp; omega)) [ltT, ltF, leT, leF, eqT', eqF, ltTn, leTn, ltFn, leFn, wrapI, mid, h2, encU]
      exact hA (pre ++ [c], rest) _ (by simpa using hx) (by simp) (Shift.weak' (g := [.cells 24 [.d (encDia d)], .cells 26 [.d (encF (parseS text d).2)]]) (by simp [hstep]) (hok2 _) (by simp) (by simp [hstep, encU, ← hx]))

end Go.Vm

/- csv: the reference's Sniffed. -/
namespace Go.Vm
open Proofs
set_option maxRecDepth 20000
set_option maxHeartbeats 1000000
set_option linter.unusedSimpArgs false

theorem bdot (b : Bool) : (if b = true then true else false) = b := by cases b <;> rfl

theorem sniffed_V (text : List UInt8) (hl : text.length ≤ 4000) (h : List Blk) : CallP Tryd.prog 25 [.d (.str text)] h (.tup [.d (encDia (sniffL text [44, 59, 9, 124]).1), .d (.bool (decide (1 < (sniffL text [44, 59, 9, 124]).2)))]) := by
  refine callW tb_ok fn25 (by simp) (fun hok => ?_)
  simp (disch := first | omega | (simp; done) | (simp; omega)) [ltT, ltF, leT, leF, eqT', eqF, ltTn, leTn, ltFn, leFn, wrapI, mid, c25]
  refine W_loopA (ι := List UInt8 × List UInt8) (fun p => p.1 ++ p.2 = [44, 59, 9, 124]) (fun p => ⟨[(0, .d (.str text)), (2, .ptr h.length 24 0 0), (4, .ptr (h.length + 1) 24 0 0), (5, .d (.int .i64 (sniffL text p.1).2)), (6, .d (.int .i64 p.1.length))],
    h ++ [.cells 24 [.d (encDia dz)], .cells 24 [.d (encDia (sniffL text p.1).1)]]⟩) (fun p => p.2.length) ([], [44, 59, 9, 124]) rfl (Shift.slots' (by simp [encDz, sniffL]) (by simp [sniffL, encU])) ?_
  rintro ⟨pre, rest⟩ hx A hA
  simp only at hx
  have hle := sniffL_le text pre (dz, 1) (by simp)
  have hlen := congrArg List.length hx
  simp only [List.length_append, List.length_cons, List.length_nil] at hlen
  cases rest with
  | nil =>
    simp only [List.append_nil] at hx
    subst hx
    simp (disch := first | omega | (simp; done) | (simp; omega)) [ltT, ltF, leT, leF, eqT', eqF, ltTn, leTn, ltFn, leFn, wrapI, mid]
    by_cases h2 : 1 < (sniffL text [44, 59, 9, 124]).2
    · simp (disch := first | omega | (simp; done) | (simp; omega)) [ltT, ltF, leT, leF, eqT', eqF, ltTn, leTn, ltFn, leFn, wrapI, mid, h2]
      exact RShift.subs ⟨.refl _, .refl _, trivial⟩ (by simp) hok (Nat.le_refl _)
    · simp (disch := first | omega | (simp; done) | (simp; omega)) [ltT, ltF, leT, leF, eqT', eqF, ltTn, leTn, ltFn, leFn, wrapI, mid, h2]
      exact RShift.subs ⟨.refl _, .refl _, trivial⟩ (by simp) hok (Nat.le_refl _)
  | cons c rest =>
    have hstep : sniffL text (pre ++ [c]) = sniffStep text (sniffL text pre) c := by simp [sniffL]
    obtain ⟨p, hp⟩ : ∃ p, sniffL text pre = p := ⟨_, rfl⟩
    have hle : p.2 ≤ 1000 := by rw [← hp]; exact hle
    have hlen4 : ([44, 59, 9, 124] : List UInt8).length = 4 := rfl
    have hc : c = 44 ∨ c = 59 ∨ c = 9 ∨ c = 124 := by
      have : c ∈ ([44, 59, 9, 124] : List UInt8) := by rw [← hx]; simp
      simpa using this
    rw [hp] at hstep
    simp only [List.length_cons] at hlen
    obtain ⟨d, hd⟩ : ∃ d, sniffD text c = d := ⟨_, rfl⟩
    have hdf : diaFault d = (0, 0) := by rw [← hd]; rcases hc with rfl | rfl | rfl | rfl <;> rfl
    have hD : D.agg [D.int .u8 (c.toNat : Int), D.int .u8 34, D.bool false, D.bool (hasSuf text [13, 10])] = encDia d := by rw [← hd]; rfl
    have hlen2 : pre.length ≤ 4 := by omega
    rw [← hx]
    simp only [hp]
    by_cases h1 : 2 ≤ text.length
    case' pos =>
      have e : ((text.length : Int) - 2).toNat = text.length - 2 := by omega
      have hs : (decide (List.drop (text.length - 2) text = [13, 10])) = hasSuf text [13, 10] := by simp [hasSuf, h1]
      simp (disch := first | omega | (simp; done) | (simp; omega)) [ltT, ltF, leT, leF, eqT', eqF, ltTn, leTn, ltFn, leFn, wrapI, mid, e, hs, hD]
    case' neg =>
      have hs : hasSuf text [13, 10] = false := by simp [hasSuf, h1]
      rw [hs] at hD
      simp (disch := first | omega | (simp; done) | (simp; omega)) [ltT, ltF, leT, leF, eqT', eqF, ltTn, leTn, ltFn, leFn, wrapI, mid, hD]
    all_goals
      clear hD
      refine (tableOf_V text d (by omega) _).useV ?_
      rw [tableOf_parse text d (by rw [hdf]; simp) hl]
      obtain ⟨pl, pr⟩ := parse_len text d
      have hwl := widthS_le _ _ pr
      unfold sniffStep at hstep
      rw [hd] at hstep
      have hnx : pre.length + 1 + rest.length = 4 := by omega
      have hok2 : ∀ b : Dia, HOk (h ++ [.cells 24 [.d (encDia dz)], .cells 24 [.d (encDia b)]]) := by
        intro b
        refine hok.append ?_
        intro z hz
        simp only [List.mem_cons, List.not_mem_nil, or_false] at hz
        rcases hz with rfl | rfl
        · exact bel_cellsD _ _ _
        · exact bel_cellsD _ _ _
      obtain ⟨r, hr⟩ : ∃ r, parseS text d = r := ⟨_, rfl⟩
      obtain ⟨rows, f⟩ := r
      rw [hr] at pl pr hwl hstep ⊢
      simp only at pl pr hwl hstep
      by_cases h2 : f.1 = 0
      · cases rows with
        | nil =>
          have hw : ¬ (f.1 = 0 ∧ p.2 < widthS []) := by simp [widthS]
          rw [if_neg hw] at hstep
          simp (disch := first | omega | (simp; done) | (simp; omega)) [ltT, ltF, leT, leF, eqT', eqF, ltTn, leTn, ltFn, leFn, wrapI, mid, h2]
          exact hA (pre ++ [c], rest) _ (by simpa using hx) (by simp) (Shift.weak' (g := [.cells 24 [.d (encDia d)], .cells 26 [.d (encF f)]]) (by simp [hstep]) (hok2 _) (by simp) (by simp [hstep]))
        | cons r0 rl =>
          have hr0 : r0.length ≤ 1000 := pr r0 (by simp)
          simp only [List.length_cons] at pl
          simp (disch := first | omega | (simp; done) | (simp; omega)) [ltT, ltF, leT, leF, eqT', eqF, ltTn, leTn, ltFn, leFn, wrapI, mid, h2, encR]
          refine W_loopA (ι := List (List (List UInt8)) × List (List (List UInt8))) (fun q => q.1 ++ q.2 = r0 :: rl) (fun q => ⟨[(0, .d (.str text)), (2, .ptr h.length 24 0 0), (4, .ptr (h.length + 1) 24 0 0), (5, .d (.int .i64 p.2)), (6, .d (.int .i64 pre.length)), (7, .ptr (h.length + 2) 24 0 0),
            (8, .d (.sl 39 ((r0 :: rl).map encR))), (10, .d (.bool (!q.1.any (otherW r0.length)))), (11, .d (.int .i64 q.1.length))],
            h ++ [.cells 24 [.d (encDia dz)], .cells 24 [.d (encDia p.1)], .cells 24 [.d (encDia d)], .cells 26 [.d (encF f)]]⟩) (fun q => q.2.length) ([], r0 :: rl) rfl (Shift.slots' rfl (by simp [encR])) ?_
          rintro ⟨qp, qr⟩ hq A2 hA2
          simp only at hq
          have hql := congrArg List.length hq
          simp only [List.length_append, List.length_cons, List.length_nil] at hql
          cases qr with
          | nil =>
            clear hA2
            simp only [List.append_nil] at hq
            simp only [List.length_nil, Nat.add_zero] at hql
            cases ha : qp.any (otherW r0.length) with
            | true =>
              have hw : ¬ (f.1 = 0 ∧ p.2 < widthS (r0 :: rl)) := by rw [widthS, ← hq, ha]; simp
              rw [if_neg hw] at hstep
              simp (disch := first | omega | (simp; done) | (simp; omega)) [ltT, ltF, leT, leF, eqT', eqF, ltTn, leTn, ltFn, leFn, wrapI, mid, h2, ha, encR]
              exact hA (pre ++ [c], rest) _ (by simpa using hx) (by simp) (Shift.weak' (g := [.cells 24 [.d (encDia d)], .cells 26 [.d (encF f)]]) (by simp [hstep]) (hok2 _) (by simp) (by simp [hstep]))
            | false =>
              have hw : widthS (r0 :: rl) = r0.length := by rw [widthS, ← hq, ha]; simp
              rw [hw] at hstep hwl
              by_cases h3 : p.2 < r0.length
              · rw [if_pos ⟨h2, h3⟩] at hstep
                simp (disch := first | omega | (simp; done) | (simp; omega)) [ltT, ltF, leT, leF, eqT', eqF, ltTn, leTn, ltFn, leFn, wrapI, mid, h2, h3, ha, encR]
                exact hA (pre ++ [c], rest) _ (by simpa using hx) (by simp) (Shift.weak' (g := [.cells 24 [.d (encDia d)], .cells 26 [.d (encF f)]]) (by simp [hstep]) (hok2 _) (by simp) (by simp [hstep]))
              · rw [if_neg (fun h => h3 h.2)] at hstep
                simp (disch := first | omega | (simp; done) | (simp; omega)) [ltT, ltF, leT, leF, eqT', eqF, ltTn, leTn, ltFn, leFn, wrapI, mid, h2, h3, ha, encR]
                exact hA (pre ++ [c], rest) _ (by simpa using hx) (by simp) (Shift.weak' (g := [.cells 24 [.d (encDia d)], .cells 26 [.d (encF f)]]) (by simp [hstep]) (hok2 _) (by simp) (by simp [hstep]))
          | cons x qr =>
            simp only [List.length_cons, List.length_nil] at hql
            have hxl : x.length ≤ 1000 := pr x (by rw [← hq]; simp)
            have hx0 : (r0 :: rl)[0]? = some r0 := rfl
            have hxi : (r0 :: rl)[qp.length]? = some x := by rw [← hq]; simp
            have hxi2 : (D.sl 9 (List.map encS r0) :: List.map encR rl)[qp.length]? = some (encR x) := by
              have : (List.map encR (r0 :: rl))[qp.length]? = some (encR x) := by rw [List.getElem?_map, hxi]; rfl
              simpa [encR] using this
            have hxi3 := (List.getElem?_eq_some_iff.mp hxi2).2
            simp only [encR] at hxi3
            by_cases h3 : x.length = r0.length
            · have ho : otherW r0.length x = false := by simp [otherW, h3]
              simp (disch := first | omega | (simp; done) | (simp; omega)) [ltT, ltF, leT, leF, eqT', eqF, ltTn, leTn, ltFn, leFn, wrapI, mid, encR, hxi3]
              exact hA2 (qp ++ [x], qr) _ (by simpa using hq) (by simp) (Shift.slots' rfl (by simp [ho, encR]))
            · have ho : otherW r0.length x = true := by simp [otherW, h3]
              simp (disch := first | omega | (simp; done) | (simp; omega)) [ltT, ltF, leT, leF, eqT', eqF, ltTn, leTn, ltFn, leFn, wrapI, mid, encR, hxi3]
              exact hA2 (qp ++ [x], qr) _ (by simpa using hq) (by simp) (Shift.slots' rfl (by simp [ho, encR]))
      · rw [if_neg (fun h => h2 h.1)] at hstep
        simp (disch := first | omega | (simp; done) | (simp; omega)) [ltT, ltF, leT, leF, eqT', eqF, ltTn, leTn, ltFn, leFn, wrapI, mid, h2]
        exact hA (pre ++ [c], rest) _ (by simpa using hx) (by simp) (Shift.weak' (g := [.cells 24 [.d (encDia d)], .cells 26 [.d (encF f)]]) (by simp [hstep]) (hok2 _) (by simp) (by simp [hstep]))

end Go.Vm

/- csv: the laws of Sniff. -/
namespace Go.Vm
open Proofs
set_option maxRecDepth 20000
set_option maxHeartbeats 1000000
set_option linter.unusedSimpArgs false

@[simp high] theorem eql_Dia (a b : Dia) : binAV tb 24 .eql (.d (encDia a)) (.d (encDia b)) = some (True, .d (.bool (decide (a = b)))) := by
  have : (a = b) ↔ (a.sep = b.sep ∧ a.quote = b.quote ∧ a.always = b.always ∧ a.ret = b.ret) := by cases a; cases b; simp
  simp only [this]
  by_cases h1 : a.sep = b.sep <;> by_cases h2 : a.quote = b.quote <;> by_cases h3 : a.always = b.always <;> by_cases h4 : a.ret = b.ret <;> simp [-fold_Dia, encDia, eqT, eqFs, u8_inj, h1, h2, h3, h4]
@[simp high] theorem eql_Dz (a : Dia) : binAV tb 24 .eql (.d (encDia a)) (.d (.agg [.int .u8 0, .int .u8 0, .bool false, .bool false])) = some (True, .d (.bool (decide (a = dz)))) := by
  rw [← encDz]; exact eql_Dia a dz

theorem sniffL_ge (text : List UInt8) : ∀ (l : List UInt8) (p : Dia × Nat), p.2 ≤ (l.foldl (sniffStep text) p).2
  | [], p => Nat.le_refl _
  | c :: l, p => by
    refine Nat.le_trans ?_ (sniffL_ge text l _)
    unfold sniffStep
    split
    · rename_i h; exact Nat.le_of_lt h.2
    · exact Nat.le_refl _

theorem law9 (text : List UInt8) (hl : text.length ≤ 1048576) (h : List Blk) : CallP Tryd.prog 9 [.d (.str text)] h (.d (.bool true)) := by
  refine callW tb_ok fn9 (by simp) (fun hok => ?_)
  simp (disch := first | omega | (simp; done) | (simp; omega)) [ltT, ltF, leT, leF, eqT', eqF, ltTn, leTn, ltFn, leFn, wrapI, mid, c9]
  refine (sniff_V text hl _).useV ?_
  by_cases h1 : 4000 < text.length
  · rw [sniffS, if_pos h1]
    simp (disch := first | omega | (simp; done) | (simp; omega)) [ltT, ltF, leT, leF, eqT', eqF, ltTn, leTn, ltFn, leFn, wrapI, mid]
    refine regV_all ?_
    simp (disch := first | omega | (simp; done) | (simp; omega)) [ltT, ltF, leT, leF, eqT', eqF, ltTn, leTn, ltFn, leFn, wrapI, mid]
    refine (at_V _ _ _).useV ?_
    simp (disch := first | omega | (simp; done) | (simp; omega)) [ltT, ltF, leT, leF, eqT', eqF, ltTn, leTn, ltFn, leFn, wrapI, mid]
    refine (tabled_V _).useV ?_
    simp (disch := first | omega | (simp; done) | (simp; omega)) [ltT, ltF, leT, leF, eqT', eqF, ltTn, leTn, ltFn, leFn, wrapI, mid]
    exact rshift_d hok
  rw [sniffS, if_neg h1]
  have hge := sniffL_ge text [44, 59, 9, 124] (dz, 1)
  by_cases h2 : (sniffL text [44, 59, 9, 124]).2 = 1
  · rw [if_pos h2]
    simp (disch := first | omega | (simp; done) | (simp; omega)) [ltT, ltF, leT, leF, eqT', eqF, ltTn, leTn, ltFn, leFn, wrapI, mid]
    refine (sniffed_V text (by omega) _).useV ?_
    simp (disch := first | omega | (simp; done) | (simp; omega)) [ltT, ltF, leT, leF, eqT', eqF, ltTn, leTn, ltFn, leFn, wrapI, mid, h2]
    refine regV_all ?_
    simp (disch := first | omega | (simp; done) | (simp; omega)) [ltT, ltF, leT, leF, eqT', eqF, ltTn, leTn, ltFn, leFn, wrapI, mid]
    refine (at_V _ _ _).useV ?_
    simp (disch := first | omega | (simp; done) | (simp; omega)) [ltT, ltF, leT, leF, eqT', eqF, ltTn, leTn, ltFn, leFn, wrapI, mid]
    refine (tabled_V _).useV ?_
    simp (disch := first | omega | (simp; done) | (simp; omega)) [ltT, ltF, leT, leF, eqT', eqF, ltTn, leTn, ltFn, leFn, wrapI, mid]
    exact rshift_d hok
  · rw [if_neg h2]
    have h3 : 1 < (sniffL text [44, 59, 9, 124]).2 := by unfold sniffL at h2 ⊢; simp only at hge; omega
    simp (disch := first | omega | (simp; done) | (simp; omega)) [ltT, ltF, leT, leF, eqT', eqF, ltTn, leTn, ltFn, leFn, wrapI, mid]
    refine (sniffed_V text (by omega) _).useV ?_
    simp (disch := first | omega | (simp; done) | (simp; omega)) [ltT, ltF, leT, leF, eqT', eqF, ltTn, leTn, ltFn, leFn, wrapI, mid, h3]
    refine (tabled_V _).useV ?_
    simp (disch := first | omega | (simp; done) | (simp; omega)) [ltT, ltF, leT, leF, eqT', eqF, ltTn, leTn, ltFn, leFn, wrapI, mid]
    exact rshift_d hok

/-- What the best dialect so far gives. -/
def sniffInv (text : List UInt8) (p : Dia × Nat) : Prop := p.2 = 1 ∨ ((parseS text p.1).2.1 = 0 ∧ widthS (parseS text p.1).1 = p.2)
theorem sniffL_inv (text : List UInt8) : ∀ (l : List UInt8) (p : Dia × Nat), sniffInv text p → sniffInv text (l.foldl (sniffStep text) p)
  | [], p, h => h
  | c :: l, p, h => by
    refine sniffL_inv text l _ ?_
    unfold sniffStep
    split
    · rename_i h1; exact .inr ⟨h1.1, rfl⟩
    · exact h
theorem sniffL_mem (text : List UInt8) (c : UInt8) (h0 : (parseS text (sniffD text c)).2.1 = 0) : ∀ (l : List UInt8) (p : Dia × Nat), c ∈ l → widthS (parseS text (sniffD text c)).1 ≤ (l.foldl (sniffStep text) p).2
  | [], p, h => by simp at h
  | x :: l, p, h => by
    rcases List.mem_cons.mp h with rfl | h
    · refine Nat.le_trans ?_ (sniffL_ge text l _)
      unfold sniffStep
      split
      · exact Nat.le_refl _
      · rename_i h1
        have : ¬ p.2 < widthS (parseS text (sniffD text c)).1 := fun h2 => h1 ⟨h0, h2⟩
        omega
    · exact sniffL_mem text c h0 l _ h

theorem widthS_same {r0 : List (List UInt8)} {l : List (List (List UInt8))} (h : ∀ r ∈ r0 :: l, r.length = r0.length) : widthS (r0 :: l) = r0.length := by
  have : (r0 :: l).any (otherW r0.length) = false := by
    rw [List.any_eq_false]
    intro r hr
    simp [otherW, h r hr]
  rw [widthS, this]; rfl
theorem widthS_head {rows : List (List (List UInt8))} {n : Nat} (h : widthS rows = n) (hn : 0 < n) : ∃ r l, rows = r :: l ∧ r.length = n := by
  cases rows with
  | nil => simp [widthS] at h; omega
  | cons r l =>
    refine ⟨r, l, rfl, ?_⟩
    rw [widthS] at h
    split at h
    · omega
    · exact h

/-- The plain law. -/
theorem sniffed_fits {r0 : List (List UInt8)} {l : List (List (List UInt8))} (c : UInt8) (hc : c ∈ ([44, 59, 9, 124] : List UInt8)) (hr : ∀ r ∈ r0 :: l, r.length = r0.length) (h2 : 2 ≤ r0.length) (hp : ¬ (printS (r0 :: l) ⟨c, 34, true, false⟩).2.1 ≠ 0) :
    ∃ d q ql, sniffS (tableText ⟨c, 34, true, false⟩ (r0 :: l)) = (d, (0, 0)) ∧ parseS (tableText ⟨c, 34, true, false⟩ (r0 :: l)) d = (q :: ql, (0, 0)) ∧ r0.length ≤ q.length := by
  obtain ⟨text, ht⟩ : ∃ t, tableText ⟨c, 34, true, false⟩ (r0 :: l) = t := ⟨_, rfl⟩
  obtain ⟨_, _, _, hlen⟩ := printS_ok hp
  have hpp := parse_print (d := ⟨c, 34, true, false⟩) (d1 := sniffD text c) (rows := r0 :: l) ⟨rfl, rfl⟩ hp
  rw [ht] at hpp hlen ⊢
  have hm := sniffL_mem text c (by rw [hpp]) [44, 59, 9, 124] (dz, 1) hc
  rw [hpp] at hm
  simp only at hm
  rw [widthS_same hr] at hm
  have hi := sniffL_inv text [44, 59, 9, 124] (dz, 1) (.inl rfl)
  obtain ⟨p, hpe⟩ : ∃ p, p = List.foldl (sniffStep text) (dz, 1) [44, 59, 9, 124] := ⟨_, rfl⟩
  rw [← hpe] at hm hi
  rcases hi with hi | ⟨h3, h4⟩
  · omega
  obtain ⟨q, ql, h5, h6⟩ := widthS_head h4 (by omega)
  refine ⟨p.1, q, ql, ?_, ?_, by omega⟩
  · rw [sniffS, if_neg (by omega), show sniffL text [44, 59, 9, 124] = p from hpe.symm, if_neg (by omega)]
  · have hz : (parseS text p.1).2 = (0, 0) := by
      revert h3
      rw [parseS]
      split
      · rename_i h; exact fun h3 => absurd h3 h
      split
      · simp
      split
      · split
        · rename_i h; exact fun h3 => absurd h3 h
        · simp
      · simp
    rw [← h5, ← hz]

end Go.Vm

/- csv: the law of SniffedFits. -/
namespace Go.Vm
open Proofs
set_option maxRecDepth 20000
set_option maxHeartbeats 1000000
set_option linter.unusedSimpArgs false

theorem in_V (n a b : Int) (h : List Blk) : CallP Tryd.prog 26 [.d (.int .i64 n), .d (.int .i64 a), .d (.int .i64 b)] h (.d (.bool (decide (a ≤ n ∧ n ≤ b)))) := by
  refine callW tb_ok fn26 (by simp) (fun hok => ?_)
  by_cases h1 : a ≤ n <;> by_cases h2 : n ≤ b <;> simp [c26, h1, h2]

theorem sepOf {k : Int} (h1 : 0 ≤ k) (h2 : k ≤ 3) : ∃ pre c rest, ([44, 59, 9, 124] : List UInt8) = pre ++ c :: rest ∧ k = pre.length := by
  obtain ⟨n, hn⟩ : ∃ n : Nat, k = n := ⟨k.toNat, by omega⟩
  subst hn
  refine ⟨([44, 59, 9, 124] : List UInt8).take n, ([44, 59, 9, 124] : List UInt8)[n]'(by simp; omega), ([44, 59, 9, 124] : List UInt8).drop (n + 1), ?_, ?_⟩
  · rw [List.getElem_cons_drop, List.take_append_drop]
  · simp; omega

theorem law10 (rows : List (List (List UInt8))) (k : Int) (hl : rows.length < 2000000) (ht : total rows < 2000000000000) (hrl : ∀ r ∈ rows, r.length < 1000000000) (hr : ∀ r ∈ rows, ∀ s ∈ r, s.length ≤ 1048576) (h : List Blk) :
    CallP Tryd.prog 10 [.d (.sl 39 (rows.map encR)), .d (.int .i64 k)] h (.d (.bool true)) := by
  refine callW tb_ok fn10 (by simp) (fun hok => ?_)
  simp (disch := first | omega | (simp; done) | (simp; omega)) [ltT, ltF, leT, leF, eqT', eqF, ltTn, leTn, ltFn, leFn, wrapI, mid, c10]
  refine (in_V k 0 3 _).useV ?_
  by_cases hk : ¬ (0 ≤ k ∧ k ≤ 3)
  · simp (disch := first | omega | (simp; done) | (simp; omega)) [ltT, ltF, leT, leF, eqT', eqF, ltTn, leTn, ltFn, leFn, wrapI, mid, hk]
    refine (tabled_V _).useV ?_
    simp (disch := first | omega | (simp; done) | (simp; omega)) [ltT, ltF, leT, leF, eqT', eqF, ltTn, leTn, ltFn, leFn, wrapI, mid]
  replace hk := Classical.not_not.mp hk
  cases rows with
  | nil =>
    simp (disch := first | omega | (simp; done) | (simp; omega)) [ltT, ltF, leT, leF, eqT', eqF, ltTn, leTn, ltFn, leFn, wrapI, mid, hk]
    refine (tabled_V _).useV ?_
    simp (disch := first | omega | (simp; done) | (simp; omega)) [ltT, ltF, leT, leF, eqT', eqF, ltTn, leTn, ltFn, leFn, wrapI, mid]
  | cons r0 rl =>
    obtain ⟨pre0, c, rest0, hc, hkl⟩ := sepOf hk.1 hk.2
    have hr0 := hrl r0 (by simp)
    simp only [List.length_cons] at hl
    simp (disch := first | omega | (simp; done) | (simp; omega)) [ltT, ltF, leT, leF, eqT', eqF, ltTn, leTn, ltFn, leFn, wrapI, mid, hk]
    refine W_loopA (ι := List (List (List UInt8)) × List (List (List UInt8))) (fun q => q.1 ++ q.2 = r0 :: rl ∧ ∀ r ∈ q.1, r.length = r0.length ∧ 2 ≤ r.length) (fun q => ⟨[(0, .d (.sl 39 ((r0 :: rl).map encR))), (1, .d (.int .i64 k)), (5, .d (.int .i64 q.1.length))], h⟩) (fun q => q.2.length) ([], r0 :: rl) ⟨rfl, by simp⟩ (Shift.slots' rfl (by simp)) ?_
    rintro ⟨qp, qr⟩ ⟨hq, hall⟩ A hA
    simp only at hq hall
    have hql := congrArg List.length hq
    simp only [List.length_append, List.length_cons] at hql
    cases qr with
    | cons x qr =>
      simp only [List.length_cons] at hql
      have hxl : x.length < 1000000000 := hrl x (by rw [← hq]; simp)
      have hxi : (r0 :: rl)[qp.length]? = some x := by rw [← hq]; simp
      have hxi2 : (encR r0 :: List.map encR rl)[qp.length]? = some (encR x) := by
        have : (List.map encR (r0 :: rl))[qp.length]? = some (encR x) := by rw [List.getElem?_map, hxi]; rfl
        simpa [encR] using this
      have hxi3 := (List.getElem?_eq_some_iff.mp hxi2).2
      simp only [encR] at hxi3
      by_cases h3 : x.length = r0.length
      · by_cases h4 : x.length < 2
        · simp (disch := first | omega | (simp; done) | (simp; omega)) [ltT, ltF, leT, leF, eqT', eqF, ltTn, leTn, ltFn, leFn, wrapI, mid, encR, hxi3]
          refine (tabled_V _).useV ?_
          simp (disch := first | omega | (simp; done) | (simp; omega)) [ltT, ltF, leT, leF, eqT', eqF, ltTn, leTn, ltFn, leFn, wrapI, mid]
        · simp (disch := first | omega | (simp; done) | (simp; omega)) [ltT, ltF, leT, leF, eqT', eqF, ltTn, leTn, ltFn, leFn, wrapI, mid, encR, hxi3]
          exact hA (qp ++ [x], qr) _ ⟨by simpa using hq, by simp only [List.mem_append, List.mem_singleton]; rintro r (h5 | rfl); exact hall r h5; exact ⟨h3, by omega⟩⟩ (by simp) (Shift.slots' rfl (by simp [encR]))
      · simp (disch := first | omega | (simp; done) | (simp; omega)) [ltT, ltF, leT, leF, eqT', eqF, ltTn, leTn, ltFn, leFn, wrapI, mid, encR, hxi3]
        refine (tabled_V _).useV ?_
        simp (disch := first | omega | (simp; done) | (simp; omega)) [ltT, ltF, leT, leF, eqT', eqF, ltTn, leTn, ltFn, leFn, wrapI, mid]
    | nil =>
      clear hA
      simp only [List.append_nil] at hq
      simp only [List.length_nil, Nat.add_zero] at hql
      subst hq
      have hall1 : ∀ r ∈ r0 :: rl, r.length = r0.length := fun r hr => (hall r hr).1
      have h2 : 2 ≤ r0.length := (hall r0 (by simp)).2
      have hD : D.agg [D.int .u8 (c.toNat : Int), D.int .u8 34, D.bool true, D.bool false] = encDia ⟨c, 34, true, false⟩ := rfl
      subst hkl
      rw [hc]
      have hcl := congrArg List.length hc
      simp only [List.length_append, List.length_cons, List.length_nil] at hcl
      simp (disch := first | omega | (simp; done) | (simp; omega)) [ltT, ltF, leT, leF, eqT', eqF, ltTn, leTn, ltFn, leFn, wrapI, mid, hD]
      have hcall := fun g => print_V (r0 :: rl) ⟨c, 34, true, false⟩ (by simpa using hl) ht hr g
      simp only [List.map_cons] at hcall
      refine (hcall _).useV ?_
      by_cases hp : (printS (r0 :: rl) ⟨c, 34, true, false⟩).2.1 ≠ 0
      · simp (disch := first | omega | (simp; done) | (simp; omega)) [ltT, ltF, leT, leF, eqT', eqF, ltTn, leTn, ltFn, leFn, wrapI, mid, hp]
        refine (tabled_V _).useV ?_
        simp (disch := first | omega | (simp; done) | (simp; omega)) [ltT, ltF, leT, leF, eqT', eqF, ltTn, leTn, ltFn, leFn, wrapI, mid]
        exact rshift_d hok
      obtain ⟨d, q, ql, h5, h6, h7⟩ := sniffed_fits c (by rw [hc]; simp) hall1 h2 hp
      obtain ⟨ea, _, _, la⟩ := printS_ok hp
      have hq1 : q.length ≤ 1000 := by
        have := (parse_len (tableText ⟨c, 34, true, false⟩ (r0 :: rl)) d).2 q
        rw [h6] at this
        exact this (by simp)
      rw [ea]
      simp (disch := first | omega | (simp; done) | (simp; omega)) [ltT, ltF, leT, leF, eqT', eqF, ltTn, leTn, ltFn, leFn, wrapI, mid]
      refine (sniff_V _ (by omega) _).useV ?_
      rw [h5]
      simp (disch := first | omega | (simp; done) | (simp; omega)) [ltT, ltF, leT, leF, eqT', eqF, ltTn, leTn, ltFn, leFn, wrapI, mid]
      refine (parse_V _ d (by omega) _).useV ?_
      rw [h6]
      simp (disch := first | omega | (simp; done) | (simp; omega)) [ltT, ltF, leT, leF, eqT', eqF, ltTn, leTn, ltFn, leFn, wrapI, mid, encR]
      refine (tabled_V _).useV ?_
      simp (disch := first | omega | (simp; done) | (simp; omega)) [ltT, ltF, leT, leF, eqT', eqF, ltTn, leTn, ltFn, leFn, wrapI, mid]
      exact rshift_d hok

end Go.Vm
