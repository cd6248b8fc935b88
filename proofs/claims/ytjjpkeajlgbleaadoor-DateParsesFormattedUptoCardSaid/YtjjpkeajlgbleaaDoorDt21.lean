/- date: what a directive reads. -/
import Derived.Test.YtjjpkeajlgbleaaDoorDt20
namespace Go.Vm
open Proofs
set_option maxRecDepth 20000
set_option maxHeartbeats 1000000
set_option linter.unusedSimpArgs false

theorem encFd_bel {fd : Fd} {n : Nat} : BlkBel n (.map (encFd fd)) := by
  intro e he
  simp only [encFd, List.mem_map] at he
  obtain ⟨p, _, rfl⟩ := he
  exact .d _

def namesD : Option (List (List UInt8)) → D
  | none => .nilsl
  | some l => .sl 9 (l.map encS)

/-- What a directive reads: does it go, what is left, what is found, whether two numbers differ. -/
def dirS (c : UInt8) (w : Nat) (ns : Option (List (List UInt8))) (rest : List UInt8) (fd : Fd) (cf : Bool) : Bool × List UInt8 × Fd × Bool :=
  if c = 37 then ((byteS 37 rest).1, (byteS 37 rest).2, fd, cf)
  else
    let q := match ns with | some l => nameS l 0 rest | none => numS w 0 rest
    if q.1.2 then (true, q.2, noteS fd cf c q.1.1) else (false, q.2, fd, cf)

/-- The blocks with another reader and another map. -/
def rdH (h : List Blk) (r mb : Nat) (text : List UInt8) (k : Nat) (fd : Fd) (cf : Bool) : List Blk := (h.set r (rdK text k mb cf)).set mb (.map (encFd fd))

theorem directive_V {r mb w : Nat} {cf : Bool} {pre rest text : List UInt8} {fd : Fd} {c : UInt8} {ns : Option (List (List UInt8))} {g : D} {h : List Blk} (hp : pre ++ rest = text)
    (hb : h[r]? = some (rdK text pre.length mb cf)) (hm : h[mb]? = some (.map (encFd fd))) (hne : r ≠ mb) (hs : text.length ≤ 1048576) (hw : w ≤ 4) (hns : ∀ l, ns = some l → l ≠ [] ∧ l.length ≤ 1000) (hg : D.cells g = [g]) (hgl : D.leaf g = true) :
    CallW Tryd.prog 63 [.ptr r 89 0 0, .d (.int .u8 (c.toNat : Int)), .d (.agg [.int .i64 w, namesD ns, g])] h fun x h' => x = .d (.bool (dirS c w ns rest fd cf).1) ∧
      h' = rdH h r mb text (text.length - (dirS c w ns rest fd cf).2.1.length) (dirS c w ns rest fd cf).2.2.1 (dirS c w ns rest fd cf).2.2.2 := by
  refine callW tb_ok fn63 (by simp) (fun hok => ?_)
  have hbl := (List.getElem?_eq_some_iff.mp hb).1
  have hml := (List.getElem?_eq_some_iff.mp hm).1
  have hmset : ∀ x, (h.set r x).set mb (.map (encFd fd)) = h.set r x := fun x => by
    rw [List.set_comm _ _ hne, show h.set mb (.map (encFd fd)) = h from by have := (List.getElem?_eq_some_iff.mp hm).2; rw [← this]; exact List.set_getElem_self hml]
  have hbok : ∀ k cf', HOk (h.set r (rdK text k mb cf')) := fun k cf' => hok.set (rdK_bel hml)
  by_cases h37 : c = 37
  · subst h37
    have hd : dirS 37 w ns rest fd cf = ((byteS 37 rest).1, (byteS 37 rest).2, fd, cf) := by simp [dirS]
    rw [hd]
    unfold rdH
    simp only [hmset]
    simp (disch := first | omega | (simp; done) | (simp; omega)) [ltT, ltF, leT, leF, eqT', eqF, ltTn, leTn, ltFn, leFn, wrapI, mid, c63, hg]
    refine ⟨⟨by cases ns <;> rfl, hgl⟩, ?_⟩
    refine callV_of (rbyte_V (c := 37) (r := r) (mb := mb) (cf := cf) (pre := pre) (rest := rest) ?_ ?_ ?_) ?_
    · show (h ++ _)[r]? = _
      rw [List.getElem?_append_left hbl, hp]; exact hb
    · simp; omega
    · rw [hp]; exact hs
    rintro _ _ ⟨rfl, rfl⟩
    rw [hp]
    simp (disch := first | omega | (simp; done) | (simp; omega)) [ltT, ltF, leT, leF, eqT', eqF, ltTn, leTn, ltFn, leFn, wrapI, mid, hbl]
    exact RShift.drop (.refl _) (.d _) (hbok _ _) (by simp)
  · cases ns with
    | none =>
      simp (disch := first | omega | (simp; done) | (simp; omega)) [ltT, ltF, leT, leF, eqT', eqF, ltTn, leTn, ltFn, leFn, wrapI, mid, c63, hg, namesD, u8_37, eq_false h37]
      refine ⟨hgl, ?_⟩
      refine callV_of (rnum_V (r := r) (mb := mb) (cf := cf) (pre := pre) (rest := rest) hp ?_ ?_ hs hw) ?_
      · show (h ++ _)[r]? = _
        rw [List.getElem?_append_left hbl]; exact hb
      · simp; omega
      rintro _ _ ⟨rfl, rfl⟩
      obtain ⟨⟨⟨n, ok⟩, l⟩, hq⟩ : ∃ q, numS w 0 rest = q := ⟨_, rfl⟩
      have hd : dirS c w none rest fd cf = if ok then (true, l, noteS fd cf c n) else (false, l, fd, cf) := by simp [dirS, h37, hq]
      rw [hd, hq]
      cases ok with
      | false =>
        simp (disch := first | omega | (simp; done) | (simp; omega)) [ltT, ltF, leT, leF, eqT', eqF, ltTn, leTn, ltFn, leFn, wrapI, mid, hbl]
        unfold rdH
        rw [hmset]
        exact RShift.drop (.refl _) (.d _) (hbok _ _) (by simp)
      | true =>
        simp (disch := first | omega | (simp; done) | (simp; omega)) [ltT, ltF, leT, leF, eqT', eqF, ltTn, leTn, ltFn, leFn, wrapI, mid, hbl]
        refine callV_of (rnote_V (r := r) (mb := mb) (cf := cf) (text := text) (k := (text.length - l.length : Nat)) (fd := fd) (c := c) (n := n) ?_ ?_ hne) ?_
        · simp [List.getElem?_append_left, hbl]
        · show ((h.set r _) ++ _)[mb]? = _
          rw [List.getElem?_append_left (by simpa using hml), List.getElem?_set_ne hne]; exact hm
        rintro _ _ ⟨rfl, rfl⟩
        simp (disch := first | omega | (simp; done) | (simp; omega)) [ltT, ltF, leT, leF, eqT', eqF, ltTn, leTn, ltFn, leFn, wrapI, mid, hbl, hml]
        exact RShift.drop (.refl _) (.d _) ((hbok _ _).set encFd_bel) (by simp [rdH])
    | some l =>
      obtain ⟨hl0, hl1⟩ := hns l rfl
      simp (disch := first | omega | (simp; done) | (simp; omega)) [ltT, ltF, leT, leF, eqT', eqF, ltTn, leTn, ltFn, leFn, wrapI, mid, c63, hg, namesD, u8_37, eq_false h37]
      refine ⟨hgl, pbV_of (fun hpt => ?_) (fun hpf => absurd (hpf rfl) hl0)⟩
      simp (disch := first | omega | (simp; done) | (simp; omega)) [ltT, ltF, leT, leF, eqT', eqF, ltTn, leTn, ltFn, leFn, wrapI, mid]
      refine callV_of (rname_V (r := r) (mb := mb) (cf := cf) (pre := pre) (rest := rest) hp ?_ ?_ hs hl1) ?_
      · show (h ++ _)[r]? = _
        rw [List.getElem?_append_left hbl]; exact hb
      · simp; omega
      rintro _ _ ⟨rfl, rfl⟩
      obtain ⟨⟨⟨n, ok⟩, l'⟩, hq⟩ : ∃ q, nameS l 0 rest = q := ⟨_, rfl⟩
      have hd : dirS c w (some l) rest fd cf = if ok then (true, l', noteS fd cf c n) else (false, l', fd, cf) := by simp [dirS, h37, hq]
      rw [hd, hq]
      cases ok with
      | false =>
        simp (disch := first | omega | (simp; done) | (simp; omega)) [ltT, ltF, leT, leF, eqT', eqF, ltTn, leTn, ltFn, leFn, wrapI, mid, hbl]
        unfold rdH
        rw [hmset]
        exact RShift.drop (.refl _) (.d _) (hbok _ _) (by simp)
      | true =>
        simp (disch := first | omega | (simp; done) | (simp; omega)) [ltT, ltF, leT, leF, eqT', eqF, ltTn, leTn, ltFn, leFn, wrapI, mid, hbl]
        refine callV_of (rnote_V (r := r) (mb := mb) (cf := cf) (text := text) (k := (text.length - l'.length : Nat)) (fd := fd) (c := c) (n := n) ?_ ?_ hne) ?_
        · simp [List.getElem?_append_left, hbl]
        · show ((h.set r _) ++ _)[mb]? = _
          rw [List.getElem?_append_left (by simpa using hml), List.getElem?_set_ne hne]; exact hm
        rintro _ _ ⟨rfl, rfl⟩
        simp (disch := first | omega | (simp; done) | (simp; omega)) [ltT, ltF, leT, leF, eqT', eqF, ltTn, leTn, ltFn, leFn, wrapI, mid, hbl, hml]
        exact RShift.drop (.refl _) (.d _) ((hbok _ _).set encFd_bel) (by simp [rdH])

end Go.Vm
