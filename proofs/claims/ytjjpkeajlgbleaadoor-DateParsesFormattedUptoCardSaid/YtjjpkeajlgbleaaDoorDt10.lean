/- date: the library's functions; patterns; directives. -/
import Derived.Test.YtjjpkeajlgbleaaDoorDt9
import Derived.Test.YtjjpkeajlgbleaaDoorVmU
namespace Go.Vm
open Proofs
set_option maxRecDepth 20000
set_option maxHeartbeats 1000000
set_option linter.unusedSimpArgs false

theorem glob_pow {base : Nat} {w0 w : World} (hg : GlobOk base w0) (hw : ∀ q, q < base → w.heap[q]? = w0.heap[q]?) : Lib.TabIs Tryd.prog w "internal/strconv.uint64pow10" .u64 Lib.pow10Tab := by
  obtain ⟨h0, _, _, t, fz, h4⟩ := hg
  have hn : Tryd.prog.globalNamed "internal/strconv.uint64pow10" = some 3 := by kernel_rfl
  unfold Lib.TabIs World.var?
  rw [hn]
  simp only [Option.bind_some, hw 3 (by omega), h4]
theorem glob_space {base : Nat} {w0 w : World} (hg : GlobOk base w0) (hw : ∀ q, q < base → w.heap[q]? = w0.heap[q]?) : Lib.TabIs Tryd.prog w "strings.asciiSpace" .u8 Lib.asciiSpaceTab := by
  obtain ⟨h0, _, ⟨t, fz, h4⟩, _⟩ := hg
  have hn : Tryd.prog.globalNamed "strings.asciiSpace" = some 0 := by kernel_rfl
  unfold Lib.TabIs World.var?
  rw [hn]
  simp only [Option.bind_some, hw 0 (by omega), h4]

theorem bsize (s : List UInt8) : (ByteArray.mk s.toArray).size = s.length := by show s.toArray.size = _; simp

theorem itoa_V (n : Int) (h0 : -9223372036854775808 ≤ n) (h1 : n ≤ 9223372036854775807) (h : List Blk) : CallP Tryd.prog 46 [.d (.int .i64 n)] h (.d (.str (Lib.itoa n))) := by
  refine callP_below (ds := [.int .i64 n]) (r := .str (Lib.itoa n)) ⟨Tryd.f46, Tryd.func46, by kernel_rfl, by kernel_rfl⟩ rfl rfl (fun base w0 w hg hb hw => ?_)
  refine (Tryd.strconv_Itoa n h0 h1 w (glob_pow hg hw)).mono ?_
  rintro e w' ⟨rfl, k, os, rfl⟩
  refine ⟨rfl, ⟨rfl, rfl, rfl, ?_, fun q hq => ?_⟩⟩
  · simp [Sort.grow, World.drewN]
  · simp only [Sort.grow, World.drewN]
    rw [Array.getElem?_append_left hq]

theorem repeat_V (s : List UInt8) (c : Nat) (hs : s.length ≤ 1000) (hc : c ≤ 1000000) (h : List Blk) : CallP Tryd.prog 47 [.d (.str s), .d (.int .i64 c)] h (.d (.str (Lib.repeatL s c))) := by
  refine callP_below (ds := [.str s, .int .i64 c]) (r := .str (Lib.repeatL s c)) ⟨Tryd.f47, Tryd.func47, by kernel_rfl, by kernel_rfl⟩ rfl rfl (fun base w0 w hg hb hw => ?_)
  refine (Tryd.strings_Repeat ⟨s.toArray⟩ c w (by omega) ?_).mono ?_
  · rw [bsize]
    exact Nat.le_trans (Nat.mul_le_mul hs hc) (by omega)
  · rintro e w' ⟨rfl, hb'⟩
    exact ⟨by simp [D.val], hb'⟩

theorem contains_V (s t : List UInt8) (hs : s.length ≤ 1000000) (h : List Blk) : CallP Tryd.prog 68 [.d (.str s), .d (.str t)] h (.d (.bool (Lib.contains s t))) := by
  refine callP_below (ds := [.str s, .str t]) (r := .bool (Lib.contains s t)) ⟨Tryd.f68, Tryd.func68, by kernel_rfl, by kernel_rfl⟩ rfl rfl (fun base w0 w hg hb hw => ?_)
  obtain ⟨h0, ⟨m, hm⟩, _, _⟩ := hg
  have hm' : w.cell? ⟨2, 0, none⟩ = some (.int .i64 m) := by
    simp only [World.cell?, hw 2 (by omega)] at hm ⊢
    exact hm
  refine (Tryd.strings_Contains ⟨s.toArray⟩ ⟨t.toArray⟩ m w (by rw [bsize]; omega) hm').mono ?_
  rintro e w' ⟨rfl, rfl⟩
  exact ⟨by simp [D.val], RowKit.Below.refl _ _⟩

theorem hasPrefix_V (s t : List UInt8) (h : List Blk) : CallP Tryd.prog 85 [.d (.str s), .d (.str t)] h (.d (.bool (t.isPrefixOf s))) := by
  refine callP_below (ds := [.str s, .str t]) (r := .bool (t.isPrefixOf s)) ⟨Tryd.f85, Tryd.func85, by kernel_rfl, by kernel_rfl⟩ rfl rfl (fun base w0 w hg hb hw => ?_)
  refine (Tryd.strings_HasPrefix ⟨s.toArray⟩ ⟨t.toArray⟩ w).mono ?_
  rintro e w' ⟨rfl, rfl⟩
  exact ⟨by simp [D.val, Lib.hasPrefix], RowKit.Below.refl _ _⟩

theorem flats_str : ∀ l : List (List UInt8), D.flats (l.map encS) = true
  | [] => rfl
  | x :: l => by simp only [List.map_cons, D.flats, flats_str l]; rfl

theorem fields_V (s : List UInt8) (hs : s.length ≤ 1000000) (ha : ∀ b ∈ s, b.toNat < 128) (h : List Blk) : CallP Tryd.prog 69 [.d (.str s)] h (.d (.sl 9 ((Lib.fields s).map encS))) := by
  refine callP_row (ds := [.str s]) (xs := (Lib.fields s).map encS) (e := 9) ⟨Tryd.f69, Tryd.func69, by kernel_rfl, by kernel_rfl⟩ rfl (flats_str _) (by kernel_rfl) (fun base w0 w hg hb hw => ?_)
  refine (Tryd.strings_Fields ⟨s.toArray⟩ w (by rw [bsize]; omega) (fun j b hj => ha b (List.mem_of_getElem? (by simpa using hj))) (glob_space hg hw)).mono ?_
  rintro e w' ⟨rfl, rfl⟩
  refine ⟨by simp, ?_⟩
  congr 2
  simp [encS, D.val]

/-- The letters of directives. -/
def letL : List UInt8 := [89, 109, 100, 72, 77, 83, 106, 71, 86, 117, 97, 98, 37]
def patFrom (f : Int) : Nat → List UInt8 → Int × Int
  | _, [] => (0, 0)
  | i, [c] => if c ≠ 37 then (0, 0) else (1, f + i)
  | i, c :: e :: l => if c ≠ 37 then patFrom f (i + 1) (e :: l) else if letL.contains e = true then patFrom f (i + 2) l else (1, f + i)
def patF (f : Int) (p : List UInt8) : Int × Int := if 200 < p.length then (3, -2) else patFrom f 0 p

theorem u8_37 (c : UInt8) : ((c.toNat : Int) = 37) = (c = 37) := u8_inj c 37

theorem checkPattern_V (p : List UInt8) (f : Int) (hp : p.length ≤ 1048576) (hf : 0 ≤ f) (hf2 : f ≤ 10000) (h : List Blk) : CallP Tryd.prog 42 [.d (.str p), .d (.int .i64 f)] h (.d (encF (patF f p))) := by
  refine callW tb_ok fn42 (by simp) (fun hok => ?_)
  unfold patF
  by_cases h1 : 200 < p.length
  · rw [if_pos h1]
    simp (disch := first | omega | (simp; done) | (simp; omega)) [ltT, ltF, leT, leF, eqT', eqF, ltTn, leTn, ltFn, leFn, wrapI, mid, c42]
    exact rshift_d hok
  rw [if_neg h1]
  simp (disch := first | omega | (simp; done) | (simp; omega)) [ltT, ltF, leT, leF, eqT', eqF, ltTn, leTn, ltFn, leFn, wrapI, mid, c42]
  refine W_loopA (ι := List UInt8 × List UInt8) (fun q => q.1 ++ q.2 = p ∧ patFrom f q.1.length q.2 = patFrom f 0 p) (fun q => ⟨[(0, .d (.str p)), (1, .d (.int .i64 f)), (4, .ptr h.length 25 0 0), (5, .d (.int .i64 q.1.length))], h ++ [.cells 25 [.d (encF (0, 0))]]⟩) (fun q => q.2.length) ([], p) ⟨rfl, rfl⟩ (Shift.slots' rfl (by simp)) ?_
  rintro ⟨pre, rest⟩ ⟨hx, hc⟩ A hA
  simp only at hx hc
  have hlen := congrArg List.length hx
  simp only [List.length_append] at hlen
  match rest, hc, hx, hA, hlen with
  | [], hc, hx, hA, hlen =>
    simp only [List.append_nil] at hx
    subst hx
    rw [← hc]
    simp (disch := first | omega | (simp; done) | (simp; omega)) [ltT, ltF, leT, leF, eqT', eqF, ltTn, leTn, ltFn, leFn, wrapI, mid, patFrom]
    exact rshift_d hok
  | [c], hc, hx, hA, hlen =>
    subst hx
    simp only [List.length_cons, List.length_nil] at hlen
    by_cases h2 : c = 37
    · rw [← hc, patFrom, if_neg (by simpa using h2)]
      simp (disch := first | omega | (simp; done) | (simp; omega)) [ltT, ltF, leT, leF, eqT', eqF, ltTn, leTn, ltFn, leFn, wrapI, mid, u8_37, eq_true h2]
      have e : f + ((pre.length : Int) + 1) - 1 = f + pre.length := by omega
      rw [e]
      exact rshift_d hok
    · simp (disch := first | omega | (simp; done) | (simp; omega)) [ltT, ltF, leT, leF, eqT', eqF, ltTn, leTn, ltFn, leFn, wrapI, mid, u8_37, eq_false h2]
      refine hA (pre ++ [c], []) _ ⟨by simp, ?_⟩ (by simp) (Shift.slots' rfl (by simp))
      rw [← hc]; simp [patFrom, h2]
  | c :: e :: l, hc, hx, hA, hlen =>
    subst hx
    simp only [List.length_cons] at hlen
    by_cases h2 : c = 37
    · have e2 : ((pre.length : Int) + 1 + 1).toNat = pre.length + 1 + 1 := by omega
      simp (disch := first | omega | (simp; done) | (simp; omega)) [ltT, ltF, leT, leF, eqT', eqF, ltTn, leTn, ltFn, leFn, wrapI, mid, u8_37, eq_true h2, e2]
      refine (contains_V letL [e] (by decide) _).useV ?_
      have hcon : Lib.contains letL [e] = letL.contains e := index_one e letL
      rw [hcon]
      cases h3 : letL.contains e with
      | true =>
        simp (disch := first | omega | (simp; done) | (simp; omega)) [ltT, ltF, leT, leF, eqT', eqF, ltTn, leTn, ltFn, leFn, wrapI, mid]
        refine hA (pre ++ [c, e], l) _ ⟨by simp, ?_⟩ (by simp only [List.length_cons]; omega) (Shift.slots' rfl (by simp [Int.add_assoc]))
        rw [← hc, patFrom, if_neg (by simpa using h2), if_pos h3]
        simp
      | false =>
        rw [← hc, patFrom, if_neg (by simpa using h2), if_neg (by rw [h3]; simp)]
        simp (disch := first | omega | (simp; done) | (simp; omega)) [ltT, ltF, leT, leF, eqT', eqF, ltTn, leTn, ltFn, leFn, wrapI, mid]
        have e : f + ((pre.length : Int) + 1) - 1 = f + pre.length := by omega
        rw [e]
        exact rshift_d hok
    · simp (disch := first | omega | (simp; done) | (simp; omega)) [ltT, ltF, leT, leF, eqT', eqF, ltTn, leTn, ltFn, leFn, wrapI, mid, u8_37, eq_false h2]
      refine hA (pre ++ [c], e :: l) _ ⟨by simp, ?_⟩ (by simp) (Shift.slots' rfl (by simp))
      rw [← hc, patFrom, if_pos h2]
      simp

end Go.Vm
