/- strings.Builder: WriteByte, WriteString, Len (by program, out of tmpl/BuC.lean). -/
import Derived.Test.YtggeifnbllfmbaaDoorBuB
namespace Go.Vm
open Proofs
set_option maxRecDepth 20000
set_option maxHeartbeats 1000000
set_option linter.unusedSimpArgs false

/-- (*strings.Builder).WriteString -/
def c29m : VC := (.seq (.reg [⟨(some 4), (.assign (.const (.int .i64 0))), none, false, false⟩,
    ⟨(some 5), (.assign (.const .nilIface)), none, false, false⟩]) (.seq (.reg [⟨(some 6), (.move (.tmp 0)), none, false, false⟩,
    ⟨(some 7), (.call { callee := .value (.func 44), args := #[.tmp 6], argTypes := #[53] }), none, false, false⟩]) (.seq (.reg [⟨(some 8), (.move (.tmp 0)), none, false, false⟩,
    ⟨(some 9), (.move (.tmp 0)), none, false, false⟩,
    ⟨(some 10), (.nilCheck (.tmp 9)), none, false, false⟩,
    ⟨(some 11), (.fieldAddr 56 (.tmp 10) 1), none, false, false⟩,
    ⟨(some 12), (.load 54 (.tmp 11)), none, false, false⟩,
    ⟨(some 13), (.move (.tmp 1)), none, false, false⟩,
    ⟨(some 14), (.call { callee := .builtin .append, args := #[.tmp 12, .tmp 13], argTypes := #[54, 9] }), none, false, true⟩,
    ⟨(some 15), (.nilCheck (.tmp 8)), none, false, false⟩,
    ⟨(some 16), (.fieldAddr 56 (.tmp 15) 1), none, false, false⟩,
    ⟨none, (.store 54 (.tmp 16) (.tmp 14)), none, false, false⟩]) (.seq (.reg [⟨(some 17), (.move (.tmp 1)), none, false, false⟩,
    ⟨(some 18), (.call { callee := .builtin .len, args := #[.tmp 17], argTypes := #[9] }), none, false, false⟩,
    ⟨(some 4), (.assign (.tmp 18)), none, false, false⟩,
    ⟨(some 5), (.assign (.const .nilIface)), none, false, false⟩]) .ret))))
theorem fn29m : FnIs Proofs.Tryd.prog 29 19 (fun t => t == 14) [.tmp 4, .tmp 5] c29m := ⟨Proofs.Tryd.f29, Proofs.Tryd.func29, by kernel_rfl, by kernel_rfl, by kernel_rfl, by kernel_rfl⟩


theorem bell_nil {n : Nat} {x : D} : Bel n (.d x) := .d x

theorem bel_bcell {b n : Nat} (hb : b < n) (fr : Bool) : Bel n (bcell b fr) := by
  cases fr
  · exact .ptr hb
  · exact .d _

theorem sub_set {h : List Blk} {b k : Nat} {X Y : Blk} (hbk : b ≠ k) : (h.set b X).set k Y = (h.set k Y).set b X := List.set_comm _ _ hbk

theorem writeByte_V {b k : Nat} {fr : Bool} {s : List UInt8} {h : List Blk} (c : UInt8) (hb : h[b]? = some (bldB b k fr s)) (hk : h[k]? = some (rowB s)) (hbk : b ≠ k) (hs : s.length + 1 ≤ 140737488355328) :
    CallW Tryd.prog 28 [.ptr b 56 0 0, .d (encU c)] h fun x h' => x = .d .nilif ∧ h' = (h.set b (bldB b k false (s ++ [c]))).set k (rowB (s ++ [c])) := by
  refine callW tb_ok fn28 (by simp) (fun hok => ?_)
  have hbl := (List.getElem?_eq_some_iff.mp hb).1
  have hkl := (List.getElem?_eq_some_iff.mp hk).1
  simp [c28]
  refine callV_of (copyCheck_V (fr := fr) (bf := bufB k s) (by simpa [bldB] using hb)) ?_
  rintro _ _ ⟨rfl, rfl⟩
  by_cases h0 : s = []
  · subst h0
    simp [bufB, bcell, hbl, encU, List.getElem_set, List.getElem_append, List.getElem?_append_left, List.set_append_left]
    have := RShift.retail (P := Tryd.prog) (m := h.length) (T := 56) (e := 5) (v := .d .nilif) (p := bcell b false) (h := h) (b := b) (k := k) (xs := [encU c]) rfl hbl (by simpa [rowB] using hk) hbk (by simp) (bel_bcell hbl false) (.d _) (Nat.le_refl _) hok
    simpa [bldB, bufB, rowB, bcell, encU] using this
  · have hk' : (h.set b (Blk.cells 56 [.agg [.ptr b 56 0 0, .bl k 5 (s.map encU)]]))[k]? = some (.tail 5 s.length) := by rw [List.getElem?_set_ne hbk]; simpa [rowB] using hk
    have hlim : s.length ≤ 140737488355327 := by omega
    simp [bufB, bcell, hbl, encU, h0, List.getElem_set, hbk, Ne.symm hbk, hk', hlim]
    refine rshift_same' ?_ (by simp)
    rw [sub_set hbk, List.set_set]
    simp [bldB, bufB, rowB, bcell, encU, sub_set hbk]


theorem encU_map (t : List UInt8) : (t.map fun c => D.int .u8 (c.toNat : Int)) = t.map encU := rfl

theorem writeString_V {b k : Nat} {fr : Bool} {s : List UInt8} {h : List Blk} (t : List UInt8) (hb : h[b]? = some (bldB b k fr s)) (hk : h[k]? = some (rowB s)) (hbk : b ≠ k) (hs : s.length + t.length ≤ 140737488355328) :
    CallW Tryd.prog 29 [.ptr b 56 0 0, .d (.str t)] h fun x h' => x = .tup [.d (.int .i64 t.length), .d .nilif] ∧ h' = (h.set b (bldB b k false (s ++ t))).set k (rowB (s ++ t)) := by
  have hbl := (List.getElem?_eq_some_iff.mp hb).1
  have hkl := (List.getElem?_eq_some_iff.mp hk).1
  by_cases h0 : s = []
  · subst h0
    by_cases h1 : t = []
    · subst h1
      refine callW tb_ok fn29m (by simp) (fun hok => ?_)
      simp [c29m]
      refine callV_of (copyCheck_V (fr := fr) (bf := bufB k []) (by simpa [bldB] using hb)) ?_
      rintro _ _ ⟨rfl, rfl⟩
      simp [bufB, bcell, hbl, List.getElem_set]
      refine rshift_same' ?_ (by simp)
      have hk2 : (h.set b (bldB b k false []))[k]? = some (rowB []) := by rw [List.getElem?_set_ne hbk]; exact hk
      have : (h.set b (bldB b k false [])).set k (rowB []) = h.set b (bldB b k false []) := by
        obtain ⟨hlt, he⟩ := List.getElem?_eq_some_iff.mp hk2
        rw [← he]; exact List.set_getElem_self hlt
      rw [this]
      simp [bldB, bufB, bcell]
    · refine callW tb_ok fn29 (by simp) (fun hok => ?_)
      have hlim : t.length ≤ 140737488355328 := by simp at hs; omega
      simp [c29]
      refine callV_of (copyCheck_V (fr := fr) (bf := bufB k []) (by simpa [bldB] using hb)) ?_
      rintro _ _ ⟨rfl, rfl⟩
      simp [bufB, bcell, hbl, encU_map, List.getElem_set, List.getElem_append, List.getElem?_append_left, List.set_append_left, hlim]
      have := RShift.retail (P := Tryd.prog) (m := h.length) (T := 56) (e := 5) (v := .tup [.d (.int .i64 t.length), .d .nilif]) (p := bcell b false) (h := h) (b := b) (k := k) (xs := t.map encU) rfl hbl (by simpa [rowB] using hk) hbk (by simpa using h1) (bel_bcell hbl false) (by simp) (Nat.le_refl _) hok
      simpa [bldB, bufB, rowB, bcell, h1] using this
  · refine callW tb_ok fn29 (by simp) (fun hok => ?_)
    simp [c29]
    refine callV_of (copyCheck_V (fr := fr) (bf := bufB k s) (by simpa [bldB] using hb)) ?_
    rintro _ _ ⟨rfl, rfl⟩
    have hk' : (h.set b (Blk.cells 56 [.agg [.ptr b 56 0 0, .bl k 5 (s.map encU)]]))[k]? = some (.tail 5 s.length) := by rw [List.getElem?_set_ne hbk]; simpa [rowB] using hk
    simp [bufB, bcell, hbl, encU_map, h0, List.getElem_set, hbk, Ne.symm hbk, hk', hs]
    refine rshift_same' ?_ (by simp)
    rw [sub_set hbk, List.set_set]
    simp [bldB, bufB, rowB, bcell, h0, sub_set hbk]

theorem len_V {b k : Nat} {fr : Bool} {s : List UInt8} {h : List Blk} (hb : h[b]? = some (bldB b k fr s)) : CallP Tryd.prog 31 [.ptr b 56 0 0] h (.d (.int .i64 s.length)) := by
  refine callW tb_ok fn31 (by simp) (fun hok => ?_)
  have hbl := (List.getElem?_eq_some_iff.mp hb).1
  have hb' := (List.getElem?_eq_some_iff.mp hb).2
  by_cases h0 : s = []
  · subst h0
    simp [c31, hbl, hb', bldB, bufB]
  · simp [c31, hbl, hb', bldB, bufB, h0]

end Go.Vm
