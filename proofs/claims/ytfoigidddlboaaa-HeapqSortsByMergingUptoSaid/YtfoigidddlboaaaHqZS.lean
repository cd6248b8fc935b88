/- The law of sorting by merging. -/
import Derived.Test.YtfoigidddlboaaaHqP4
import Derived.Test.YtfoigidddlboaaaHqZ
import Derived.Test.YtfoigidddlboaaaHqME
namespace Go.Vm
open Proofs
set_option maxRecDepth 10000
set_option maxHeartbeats 1000000
set_option linter.unusedSimpArgs false

theorem valid_build {l : List Ent} (hv : Valid l) : ∃ q, buildF l = (q, (0, 0)) ∧ (rchk true q).1 = 0 ∧ q.Perm l := by
  have h1 : (rchk false l).1 = 0 := by rw [← chk_eq]; exact (chk_zero false l).mpr ⟨hv, fun h => by cases h⟩
  obtain ⟨q, hq, hv', hh, hp, _⟩ := build_ok h1
  exact ⟨q, hq, by rw [← chk_eq]; exact (chk_zero true q).mpr ⟨hv', fun _ => hh⟩, hp⟩

theorem law6 (l : List Ent) (at' : Int) (hl : l.length < 2000000) : CallP Try.prog 6 [.d (.sl 40 (l.map encE)), .d (.int .i64 at')] [] (.d (.bool true)) := by
  refine callW tb_ok fn6 (by simp) (fun hok => ?_)
  simp [c6]
  refine (queueFault_V l false _).useV ?_
  by_cases hc : (rchk false l).1 = 0
  · simp (disch := first | omega | (simp; done) | (simp; omega)) [ltT, ltF, leT, leF, eqT', eqF, ltTn, leTn, ltFn, leFn, wrapI, mid, hc]
    refine (in_V _ _ _ _).useV ?_
    by_cases hr : 0 ≤ at' ∧ at' ≤ l.length
    · obtain ⟨k, rfl⟩ : ∃ k : Nat, at' = k := ⟨at'.toNat, by omega⟩
      have hk : k ≤ l.length := by omega
      have hv := ((chk_zero false l).mp (by rw [chk_eq]; exact hc)).1
      obtain ⟨a, ha, ha1, ha2⟩ := valid_build (hv.sub (List.take_sublist k l))
      obtain ⟨b, hb, hb1, hb2⟩ := valid_build (hv.sub (List.drop_sublist k l))
      obtain ⟨c, hc', hc1, hc2⟩ := valid_build hv
      have hla := ha2.length_eq
      have hlb := hb2.length_eq
      have hlc := hc2.length_eq
      have e1 : List.take k (List.map encE l) = (l.take k).map encE := by rw [List.map_take]
      have e2 : List.drop k (List.take l.length (List.map encE l)) = (l.drop k).map encE := by rw [List.take_of_length_le (by simp), List.map_drop]
      have hsrt : mergeF aheadB (total [sortedE a, sortedE b]) [sortedE a, sortedE b] = sortedE c := by
        obtain ⟨h1, h2⟩ := merge_srt _ [sortedE a, sortedE b] rfl (by simp; exact ⟨sortedE_srt a, sortedE_srt b⟩)
        refine srt_unique h2 (sortedE_srt c) (h1.trans ?_)
        simp only [List.flatten_cons, List.flatten_nil, List.append_nil]
        refine ((((sortedE_perm a).trans ha2).append ((sortedE_perm b).trans hb2)).trans ?_).trans ((sortedE_perm c).trans hc2).symm
        rw [List.take_append_drop]
      have hlen : (l.take k).length < 2000000 := by simp; omega
      have hlen2 : (l.drop k).length < 2000000 := by simp; omega
      have hB1 := build_V (l.take k) hlen
      have hB2 := build_V (l.drop k) hlen2
      rw [← e1] at hB1
      rw [← e2] at hB2
      simp (disch := first | omega | (simp; done) | (simp; omega)) [ltT, ltF, leT, leF, eqT', eqF, ltTn, leTn, ltFn, leFn, wrapI, mid]
      refine (hB1 _).useV ?_
      simp (disch := first | omega | (simp; done) | (simp; omega)) [ltT, ltF, leT, leF, eqT', eqF, ltTn, leTn, ltFn, leFn, wrapI, mid, encQF, ha]
      refine (hB2 _).useV ?_
      simp [encQF, hb]
      refine (build_V l hl _).useV ?_
      simp [encQF, hc']
      refine (drain_V a (by omega) _).useV ?_
      simp [encQF, drain_is ha1]
      refine (drain_V b (by omega) _).useV ?_
      simp [encQF, drain_is hb1]
      refine (drain_V c (by omega) _).useV ?_
      simp [encQF, drain_is hc1]
      refine (mergeE_V 27 aheadB [sortedE a, sortedE b] (by simp) (by simp [total, sortedE_length]; omega) _ ahead_V).useV ?_
      rw [hsrt]
      simp [encLE]
      refine (entries_V _ _ (by rw [sortedE_length]; omega) _).useV ?_
      simp
      refine (queued_V _).useV ?_
      simp
      exact rshift_d hok
    · simp (disch := first | omega | (simp; done) | (simp; omega)) [ltT, ltF, leT, leF, eqT', eqF, ltTn, leTn, ltFn, leFn, wrapI, mid, hr]
      refine (queued_V _).useV ?_
      simp
      exact rshift_same' rfl (by simp)
  · simp (disch := first | omega | (simp; done) | (simp; omega)) [ltT, ltF, leT, leF, eqT', eqF, ltTn, leTn, ltFn, leFn, wrapI, mid, hc]
    refine (queued_V _).useV ?_
    simp
    exact rshift_same' rfl (by simp)

end Go.Vm
