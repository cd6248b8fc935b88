/- The laws: Build, Pop, Add, Change. -/
import Derived.Test.YtfoigidddlboaaaHqP3
import Derived.Test.YtfoigidddlboaaaHqY
namespace Go.Vm
open Proofs
set_option maxRecDepth 10000
set_option maxHeartbeats 1000000
set_option linter.unusedSimpArgs false

@[simp high] theorem neq_F (a b : Int × Int) : binAV tb 24 .neq (.d (encF a)) (.d (encF b)) = some (True, .d (.bool (!decide (a = b)))) := by
  have : (a = b) ↔ (a.1 = b.1 ∧ a.2 = b.2) := by cases a; cases b; simp
  simp only [this]
  by_cases h1 : a.1 = b.1 <;> by_cases h2 : a.2 = b.2 <;> simp [-fold_F, encF, eqT, eqFs, h1, h2]
@[simp high] theorem eql_F (a b : Int × Int) : binAV tb 24 .eql (.d (encF a)) (.d (encF b)) = some (True, .d (.bool (decide (a = b)))) := by
  have : (a = b) ↔ (a.1 = b.1 ∧ a.2 = b.2) := by cases a; cases b; simp
  simp only [this]
  by_cases h1 : a.1 = b.1 <;> by_cases h2 : a.2 = b.2 <;> simp [-fold_F, encF, eqT, eqFs, h1, h2]
@[simp high] theorem eql_E (a b : Ent) : binAV tb 40 .eql (.d (encE a)) (.d (encE b)) = some (True, .d (.bool (decide (a = b)))) := by
  have : (a = b) ↔ (a.name = b.name ∧ a.rank = b.rank) := by cases a; cases b; simp
  simp only [this]
  by_cases h1 : a.name = b.name <;> by_cases h2 : a.rank = b.rank <;> simp [-fold_E, encE, eqT, eqFs, h1, h2]

theorem chkFrom_pair (order : Bool) : ∀ (rest pre : List Ent), (chkFrom order pre rest).1 = 0 → chkFrom order pre rest = (0, 0)
  | [], _, _ => rfl
  | e :: rest, pre, h => by
    simp only [chkFrom] at h ⊢
    split
    · rename_i hc; rw [if_pos hc] at h; exact absurd h hc
    · rename_i hc; rw [if_neg hc] at h; exact chkFrom_pair order rest _ h
theorem law3 (l : List Ent) (hl : l.length < 2000000) : CallP Try.prog 3 [.d (.sl 40 (l.map encE))] [] (.d (.bool true)) := by
  refine callW tb_ok fn3 (by simp) (fun hok => ?_)
  simp [c3]
  refine (validate_V l _).useV ?_
  simp
  refine (queueFault_V l true _).useV ?_
  simp [chk_eq]
  refine (build_V l hl _).useV ?_
  by_cases hc : (rchk false l).1 = 0
  · obtain ⟨q, hq, hv, hh, hp, hvl⟩ := build_ok hc
    simp [encQF, hq]
    refine (queueFault_V l false _).useV ?_
    simp (disch := first | omega | (simp; done) | (simp; omega)) [ltT, ltF, leT, leF, eqT', eqF, ltTn, leTn, ltFn, leFn, wrapI, mid, hc]
    refine (queue_V q l hl _).useV ?_
    simp [queueB_of hp hvl hh]
    refine (queued_V _).useV ?_
    simp
    exact rshift_d hok
  · simp [encQF, build_fault hc]
    refine (queueFault_V l false _).useV ?_
    simp (disch := first | omega | (simp; done) | (simp; omega)) [ltT, ltF, leT, leF, eqT', eqF, ltTn, leTn, ltFn, leFn, wrapI, mid, hc]
    refine (queued_V _).useV ?_
    simp
    exact rshift_d hok

theorem law5 (q : List Ent) (hl : q.length < 2000000) : CallP Try.prog 5 [.d (.sl 40 (q.map encE))] [] (.d (.bool true)) := by
  refine callW tb_ok fn5 (by simp) (fun hok => ?_)
  simp [c5]
  refine (pop_V q hl _).useV ?_
  simp [encQEF]
  refine (drain_V q hl _).useV ?_
  simp [encQF]
  refine (queueFault_V q true _).useV ?_
  by_cases hc : (rchk true q).1 = 0
  · have hz : rchk true q = (0, 0) := by
      rw [← chk_eq] at hc ⊢
      unfold chk at hc ⊢
      split at hc
      · simp at hc
      · rename_i h
        rw [if_neg h]
        exact chkFrom_pair _ _ _ hc
    simp (disch := first | omega | (simp; done) | (simp; omega)) [ltT, ltF, leT, leF, eqT', eqF, ltTn, leTn, ltFn, leFn, wrapI, mid, hc, drain_is hc, hz]
    refine (sorted_V q hl _).useV ?_
    simp
    refine (entries_V _ _ (by rw [sortedE_length]; omega) _).useV ?_
    by_cases hne : q = []
    · subst hne
      simp (disch := first | omega | (simp; done) | (simp; omega)) [ltT, ltF, leT, leF, eqT', eqF, ltTn, leTn, ltFn, leFn, wrapI, mid, hc, hz, pop_empty]
      refine (at_V _ _ _).useV ?_
      simp (disch := first | omega | (simp; done) | (simp; omega)) [ltT, ltF, leT, leF, eqT', eqF, ltTn, leTn, ltFn, leFn, wrapI, mid, zeroE]
      refine (queued_V _).useV ?_
      simp
      exact rshift_d hok
    · obtain ⟨q', hq', hqb⟩ := pop_ok hc hne
      have hpos : 0 < q.length := List.length_pos_iff.mpr hne
      have hlt := firstE_lt hne
      obtain ⟨y, hy, _⟩ := firstE_min hne
      have hy' := (List.getElem?_eq_some_iff.mp hy).2
      simp (disch := first | omega | (simp; done) | (simp; omega)) [ltT, ltF, leT, leF, eqT', eqF, ltTn, leTn, ltFn, leFn, wrapI, mid, hc, hz, hq', hne, getD_of hy]
      refine (first_V q (by omega) _).useV ?_
      simp (disch := first | omega | (simp; done) | (simp; omega)) [ltT, ltF, leT, leF, eqT', eqF, ltTn, leTn, ltFn, leFn, wrapI, mid, hy, hy', hlt]
      refine (withoutRef_V q (firstE q) hlt (by omega) _).useV ?_
      simp
      refine (queue_V q' _ (by rw [List.length_eraseIdx]; split <;> omega) _).useV ?_
      simp [hqb]
      refine (queued_V _).useV ?_
      simp
      exact rshift_d hok
  · simp (disch := first | omega | (simp; done) | (simp; omega)) [ltT, ltF, leT, leF, eqT', eqF, ltTn, leTn, ltFn, leFn, wrapI, mid, hc, drain_fault hc, pop_fault hc, zeroE]
    refine (queued_V _).useV ?_
    simp
    exact rshift_d hok


theorem withoutRef_B (l : List Ent) (k : Nat) (hk : k < l.length) (hl : l.length < 1000000000) (h : List Blk) :
    CallW Try.prog 24 [.d (.sl 40 (l.map encE)), .d (.int .i64 k)] h fun x h' => x = .bl h.length 40 ((l.eraseIdx k).map encE) ∧ h' = h ++ [.tail 40 (l.eraseIdx k).length] := by
  refine callW tb_ok fn24 (by simp) (fun hok => ?_)
  simp (disch := first | omega | (simp; done) | (simp; omega)) [ltT, ltF, leT, leF, eqT', eqF, ltTn, leTn, ltFn, leFn, wrapI, mid, c24]
  have e : List.take k (List.map encE l) ++ List.drop (k + 1) (List.take l.length (List.map encE l)) = (l.eraseIdx k).map encE := by
    rw [show List.take l.length (List.map encE l) = List.map encE l from List.take_of_length_le (by simp), List.eraseIdx_eq_take_drop_succ, List.map_append, List.map_take, List.map_drop]
  have e2 : (l.eraseIdx k).length = l.length - 1 := by rw [List.length_eraseIdx]; simp [hk]
  rw [e]
  exact rshift_same' (by rw [e2]; congr 3; omega) (by simp)

theorem law7 (q : List Ent) (e : Ent) (hl : q.length < 2000000) : CallP Try.prog 7 [.d (.sl 40 (q.map encE)), .d (encE e)] [] (.d (.bool true)) := by
  refine callW tb_ok fn7 (by simp) (fun hok => ?_)
  simp [c7]
  refine (add_V q e hl _).useV ?_
  simp [encQF]
  refine (queueFault_V q true _).useV ?_
  by_cases hc : (rchk true q).1 = 0
  · have hsm := (isQueue hc).1.len
    by_cases h2 : q.length = 200
    · have hcode : addCode q e = 2 := by simp [addCode, h2]
      have hR := add_code hc (by rw [hcode]; simp)
      simp (disch := first | omega | (simp; done) | (simp; omega)) [ltT, ltF, leT, leF, eqT', eqF, ltTn, leTn, ltFn, leFn, wrapI, mid, hc, h2, hR, hcode]
      refine (at_V _ _ _).useV ?_
      simp (disch := first | omega | (simp; done) | (simp; omega)) [ltT, ltF, leT, leF, eqT', eqF, ltTn, leTn, ltFn, leFn, wrapI, mid]
      refine (queued_V _).useV ?_
      simp
      exact rshift_d hok
    · simp (disch := first | omega | (simp; done) | (simp; omega)) [ltT, ltF, leT, leF, eqT', eqF, ltTn, leTn, ltFn, leFn, wrapI, mid, hc, h2]
      refine (entryFault_V e _).useV ?_
      by_cases h3 : entFault e = 0
      · simp (disch := first | omega | (simp; done) | (simp; omega)) [ltT, ltF, leT, leF, eqT', eqF, ltTn, leTn, ltFn, leFn, wrapI, mid, h3]
        refine (entryIdx_V q e.name (by omega) _).useV ?_
        by_cases h4 : 0 ≤ entryFrom e.name 0 q
        · have hcode : addCode q e = 8 := by simp [addCode, h2, h3, h4]
          have hR := add_code hc (by rw [hcode]; simp)
          simp (disch := first | omega | (simp; done) | (simp; omega)) [ltT, ltF, leT, leF, eqT', eqF, ltTn, leTn, ltFn, leFn, wrapI, mid, hR, hcode]
          refine (at_V _ _ _).useV ?_
          simp (disch := first | omega | (simp; done) | (simp; omega)) [ltT, ltF, leT, leF, eqT', eqF, ltTn, leTn, ltFn, leFn, wrapI, mid]
          refine (queued_V _).useV ?_
          simp
          exact rshift_d hok
        · have hcode : addCode q e = 0 := by simp [addCode, h2, h3, h4]
          obtain ⟨x, hR, hqb⟩ := add_ok hc hcode
          simp (disch := first | omega | (simp; done) | (simp; omega)) [ltT, ltF, leT, leF, eqT', eqF, ltTn, leTn, ltFn, leFn, wrapI, mid, hR, hc]
          refine regV_all ?_
          simp (disch := first | omega | (simp; done) | (simp; omega)) [ltT, ltF, leT, leF, eqT', eqF, ltTn, leTn, ltFn, leFn, wrapI, mid]
          refine (CallP.subs (queue_V x (q ++ [e]) (by simp; omega) _) (by simp [subL])).useV ?_
          simp [hqb]
          refine (queued_V _).useV ?_
          simp
          exact rshift_d hok
      · have hcode : addCode q e = entFault e := by simp [addCode, h2, h3]
        have hR := add_code hc (by rw [hcode]; exact h3)
        simp (disch := first | omega | (simp; done) | (simp; omega)) [ltT, ltF, leT, leF, eqT', eqF, ltTn, leTn, ltFn, leFn, wrapI, mid, h3, hR, hcode]
        refine (at_V _ _ _).useV ?_
        simp (disch := first | omega | (simp; done) | (simp; omega)) [ltT, ltF, leT, leF, eqT', eqF, ltTn, leTn, ltFn, leFn, wrapI, mid, h3]
        refine (queued_V _).useV ?_
        simp
        exact rshift_d hok
  · simp (disch := first | omega | (simp; done) | (simp; omega)) [ltT, ltF, leT, leF, eqT', eqF, ltTn, leTn, ltFn, leFn, wrapI, mid, hc, add_fault e hc]
    refine (queued_V _).useV ?_
    simp
    exact rshift_d hok


theorem law8 (q : List Ent) (name : List UInt8) (rank : Int) (hl : q.length < 2000000) : CallP Try.prog 8 [.d (.sl 40 (q.map encE)), .d (.str name), .d (.int .i64 rank)] [] (.d (.bool true)) := by
  refine callW tb_ok fn8 (by simp) (fun hok => ?_)
  simp [c8]
  refine (change_V q name rank hl _).useV ?_
  simp [encQF]
  refine (remove_V q name hl _).useV ?_
  simp [encQF]
  refine (queueFault_V q true _).useV ?_
  simp
  refine (entryIdx_V q name (by omega) _).useV ?_
  by_cases hc : (rchk true q).1 = 0
  · have hsm := (isQueue hc).1.len
    rcases entryFrom_lt name 0 q with hf | ⟨k, hf, hk⟩
    · simp (disch := first | omega | (simp; done) | (simp; omega)) [ltT, ltF, leT, leF, eqT', eqF, ltTn, leTn, ltFn, leFn, wrapI, mid, hc, hf, change_none rank hc hf, remove_none hc hf]
      refine (at_V _ _ _).useV ?_
      simp (disch := first | omega | (simp; done) | (simp; omega)) [ltT, ltF, leT, leF, eqT', eqF, ltTn, leTn, ltFn, leFn, wrapI, mid]
      refine (queued_V _).useV ?_
      simp
      exact rshift_d hok
    · rw [Nat.zero_add] at hf
      obtain ⟨y, hy, hyb⟩ := remove_ok hc hf
      have hel : (q.eraseIdx k).length < 2000000 := by rw [List.length_eraseIdx]; split <;> omega
      simp (disch := first | omega | (simp; done) | (simp; omega)) [ltT, ltF, leT, leF, eqT', eqF, ltTn, leTn, ltFn, leFn, wrapI, mid, hc, hf, hy]
      refine (withoutRef_V q k hk (by omega) _).useV ?_
      simp
      refine (queue_V y _ hel _).useV ?_
      simp [hyb]
      refine (in_V _ _ _ _).useV ?_
      by_cases hr : -1000000 ≤ rank ∧ rank ≤ 1000000
      · obtain ⟨x, hx, hxb⟩ := change_ok hc hf hr
        simp (disch := first | omega | (simp; done) | (simp; omega)) [ltT, ltF, leT, leF, eqT', eqF, ltTn, leTn, ltFn, leFn, wrapI, mid, hr, hx]
        refine callV_of (withoutRef_B q k hk (by omega) _) ?_
        rintro _ _ ⟨rfl, rfl⟩
        simp (disch := first | omega | (simp; done) | (simp; omega)) [ltT, ltF, leT, leF, eqT', eqF, ltTn, leTn, ltFn, leFn, wrapI, mid]
        refine (CallP.subs (queue_V x (q.eraseIdx k ++ [⟨name, rank⟩]) (by have := (List.eraseIdx_sublist q k).length_le; rw [List.length_append, List.length_singleton]; omega) _) (by simp [subL]; exact Sub.bl _ _ _)).useV ?_
        simp [hxb]
        refine (queued_V _).useV ?_
        simp
        exact rshift_d hok
      · have hx := change_range (name := name) hc (by omega) hr
        simp (disch := first | omega | (simp; done) | (simp; omega)) [ltT, ltF, leT, leF, eqT', eqF, ltTn, leTn, ltFn, leFn, wrapI, mid, hr, hx]
        refine regV_all ?_
        simp (disch := first | omega | (simp; done) | (simp; omega)) [ltT, ltF, leT, leF, eqT', eqF, ltTn, leTn, ltFn, leFn, wrapI, mid]
        refine (at_V _ _ _).useV ?_
        simp (disch := first | omega | (simp; done) | (simp; omega)) [ltT, ltF, leT, leF, eqT', eqF, ltTn, leTn, ltFn, leFn, wrapI, mid]
        refine (queued_V _).useV ?_
        simp
        exact rshift_d hok
  · simp (disch := first | omega | (simp; done) | (simp; omega)) [ltT, ltF, leT, leF, eqT', eqF, ltTn, leTn, ltFn, leFn, wrapI, mid, hc, change_fault name rank hc, remove_fault name hc]
    refine (queued_V _).useV ?_
    simp
    exact rshift_d hok

end Go.Vm
