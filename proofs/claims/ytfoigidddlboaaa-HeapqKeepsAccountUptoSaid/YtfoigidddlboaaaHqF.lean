/- find, Add, Change, Remove. -/
import Derived.Test.YtfoigidddlboaaaHq7
namespace Go.Vm
open Proofs
set_option maxRecDepth 10000
set_option maxHeartbeats 1000000
set_option linter.unusedSimpArgs false

attribute [local simp] length_upF length_downF length_withoutF

theorem idxFrom_entry (name : List UInt8) : ∀ (i : Nat) (l : List Ent), idxFrom (fun e => decide (e.name = name)) i l = entryFrom name i l
  | _, [] => rfl
  | i, e :: r => by simp only [idxFrom, entryFrom, decide_eq_true_eq, idxFrom_entry name (i + 1) r]

theorem closure58_V (e : Ent) (name : List UInt8) (b : Nat) (h : List Blk) (hb : h[b]? = some (.cells 9 [.d (.str name)])) : CallP Try.prog 58 [.d (encE e), .ptr b 9 0 0] h (.d (.bool (decide (e.name = name)))) := by
  refine callW tb_ok fn58 (by simp) (fun hok => ?_)
  simp [c58, get_app hb]
  exact rshift_d hok

theorem indexFunc57_V (xs : List Ent) (g : FuncId) (caps : List AV) (p : Ent → Bool) (h : List Blk) (hl : xs.length < 1000000000)
    (hg : ∀ x ∈ xs, CallP Try.prog g ([.d (encE x)] ++ caps) h (.d (.bool (p x)))) : CallP Try.prog 57 [.d (.sl 40 (xs.map encE)), .clo g caps] h (.d (.int .i64 (idxFrom p 0 xs))) := by
  refine callW tb_ok fn57 (by simp) (fun hok => ?_)
  simp [c57]
  refine W_loop (ι := List Ent × List Ent) (fun q => q.1 ++ q.2 = xs ∧ idxFrom p q.1.length q.2 = idxFrom p 0 xs) (fun q => ⟨[(0, .d (.sl 40 (xs.map encE))), (1, .clo g caps), (7, .d (.int .i64 xs.length)), (8, .d (.int .i64 q.1.length))], h⟩) (fun q => q.2.length) ([], xs) (by simp) (Shift.slots' rfl (by simp [look])) ?_
  rintro ⟨pre, rest⟩ ⟨hx, hc⟩
  simp only at hx hc
  subst hx
  cases rest with
  | nil =>
    simp only [idxFrom, List.append_nil] at hc
    simp [← hc]
  | cons x rest =>
    simp only [List.length_append, List.length_cons] at hl
    simp (disch := first | omega | (simp; done) | (simp; omega)) [ltT, ltF, leT, leF, eqT', eqF, ltTn, leTn, ltFn, leFn, wrapI, mid]
    refine (hg x (by simp)).useV ?_
    by_cases hp : p x = true
    · have hr : idxFrom p 0 (pre ++ x :: rest) = pre.length := by rw [← hc, idxFrom, if_pos hp]
      simp [hp, hr]
    · have hp' : p x = false := by simpa using hp
      simp (disch := first | omega | (simp; done) | (simp; omega)) [ltT, ltF, leT, leF, eqT', eqF, ltTn, leTn, ltFn, leFn, wrapI, mid, hp']
      refine ⟨pre ++ [x], rest, ⟨by simp, ?_⟩, Shift.slots' rfl (by simp), by omega⟩
      rw [← hc, idxFrom, if_neg hp]
      simp

theorem find_V (l : List Ent) (name : List UInt8) (hl : l.length < 1000000000) (h : List Blk) : CallP Try.prog 45 [.d (.sl 40 (l.map encE)), .d (.str name)] h (.d (.int .i64 (entryFrom name 0 l))) := by
  refine callW tb_ok fn45 (by simp) (fun hok => ?_)
  simp [c45]
  refine (indexFunc57_V l 58 [.ptr h.length 9 0 0] (fun e => decide (e.name = name)) _ hl (fun x _ => closure58_V x name _ _ (by simp))).useV ?_
  simp [idxFrom_entry]
  exact rshift_d hok

theorem cloneZ_V (l : List Ent) (hl : l.length < 2000000) (h : List Blk) :
    CallW Try.prog 34 [.d (.sl 40 (l.map encE))] h fun x h' => (l = [] ∧ x = .z0 40 ∧ h' = h) ∨ (l ≠ [] ∧ x = .ref h.length 40 0 l.length ∧ h' = h ++ [blkE l]) := by
  refine callW tb_ok fn34 (by simp) (fun hok => ?_)
  cases l with
  | nil =>
    simp [c34]
    refine pbV_of (fun _ => ?_) (fun _ => ?_)
    · simp
      exact rshift_sub (Sub.nilz 40) (Nat.le_refl _)
    · simp
  | cons x l =>
    simp only [List.length_cons] at hl
    have hl2 : (l.length + 1) * 24 ≤ 140737488355328 := by omega
    simp [c34]
    refine pbV_of (fun h => ?_) (fun _ => ?_)
    · cases h
    · simp [hl2]
      exact rshift_same' (by simp [blkE]) (by simp)

theorem chk_small {o : Bool} {l : List Ent} (h : (chk o l).1 = 0) : l.length ≤ 200 := by
  unfold chk at h
  split at h
  · simp at h
  · omega

def addCode (q : List Ent) (e : Ent) : Int := if q.length = 200 then 2 else if entFault e = 0 ∧ 0 ≤ entryFrom e.name 0 q then 8 else entFault e
def addF (q : List Ent) (e : Ent) : List Ent × (Int × Int) :=
  if (chk true q).1 ≠ 0 then ([], chk true q) else if addCode q e ≠ 0 then ([], (addCode q e, -2)) else (upF q.length (q ++ [e]) q.length, (0, 0))

theorem add_V (q : List Ent) (e : Ent) (hq : q.length < 2000000) (h : List Blk) : CallP Try.prog 28 [.d (.sl 40 (q.map encE)), .d (encE e)] h (encQF (addF q e)) := by
  refine callW tb_ok fn28 (by simp) (fun hok => ?_)
  simp [c28]
  refine (validate_V q _).useV ?_
  by_cases hc : (chk true q).1 = 0
  · have hs := chk_small hc
    simp [hc]
    refine (entry_V e _).useV ?_
    by_cases h2 : q.length = 200
    · have hcode : addCode q e = 2 := by simp [addCode, h2]
      simp [h2]
      simp [addF, hc, hcode, encQF]
      exact rshift_subs (by simp) (by simp) hok
    · by_cases h3 : entFault e = 0
      · simp (disch := first | omega | (simp; done) | (simp; omega)) [ltT, ltF, leT, leF, eqT', eqF, ltTn, leTn, ltFn, leFn, wrapI, mid, h2, h3]
        refine (find_V q e.name (by omega) _).useV ?_
        by_cases h4 : 0 ≤ entryFrom e.name 0 q
        · have hcode : addCode q e = 8 := by simp [addCode, h2, h3, h4]
          simp (disch := first | omega | (simp; done) | (simp; omega)) [ltT, ltF, leT, leF, eqT', eqF, ltTn, leTn, ltFn, leFn, wrapI, mid, h4]
          simp [addF, hc, hcode, encQF]
          exact rshift_subs (by simp) (by simp) hok
        · have hcode : addCode q e = 0 := by simp [addCode, h2, h3, h4]
          simp (disch := first | omega | (simp; done) | (simp; omega)) [ltT, ltF, leT, leF, eqT', eqF, ltTn, leTn, ltFn, leFn, wrapI, mid, h4]
          refine regV_all ?_
          simp
          refine callV_of (cloneZ_V q (by omega) _) ?_
          rintro _ _ (⟨rfl, rfl, rfl⟩ | ⟨hne, rfl, rfl⟩)
          · simp
            refine callV_of (up_V 1 [e] 0 (h.length + 3) _ (by simp [blkE]) (by simp) (by omega) (by omega)) ?_
            rintro _ _ ⟨rfl, rfl⟩
            simp
            have hR : addF [] e = (upF 0 [e] 0, (0, 0)) := by unfold addF; rw [if_neg (by rw [hc]; simp), if_neg (by rw [hcode]; simp)]; rfl
            rw [hR]
            exact rshift_frz (b := h.length + 3) (e := 40) (ds := (upF 0 [e] 0).map encE) (by simp [blkE_eq]) (by simp) hok (by simp (disch := first | omega | (simp; done) | (simp; omega)) [encQF, List.take_of_length_le]) (by simp [encQF])
          · have hfit : (q.length + 1) * 24 ≤ 140737488355328 := by omega
            simp [blkE, hfit]
            refine callV_of (up_V (q.length + 1) (q ++ [e]) q.length (h.length + 4) _ (by simp (disch := first | omega | (simp; done) | (simp; omega)) [blkE, List.take_of_length_le]) (by simp) (by omega) (by omega)) ?_
            rintro _ _ ⟨rfl, rfl⟩
            simp
            have hR : addF q e = (upF q.length (q ++ [e]) q.length, (0, 0)) := by unfold addF; rw [if_neg (by rw [hc]; simp), if_neg (by rw [hcode]; simp)]
            rw [hR]
            exact rshift_frz (b := h.length + 4) (e := 40) (ds := (upF q.length (q ++ [e]) q.length).map encE) (by simp [blkE_eq]) (by simp) hok (by simp (disch := first | omega | (simp; done) | (simp; omega)) [encQF, List.take_of_length_le]) (by simp [encQF])
      · have hcode : addCode q e = entFault e := by simp [addCode, h2, h3]
        simp (disch := first | omega | (simp; done) | (simp; omega)) [ltT, ltF, leT, leF, eqT', eqF, ltTn, leTn, ltFn, leFn, wrapI, mid, h2, h3]
        simp [addF, hc, hcode, h3, encQF]
        exact rshift_subs (by simp) (by simp) hok
  · simp [hc, addF, encQF]
    exact rshift_subs (by simp) (by simp) hok


def changeF (q : List Ent) (name : List UInt8) (rank : Int) : List Ent × (Int × Int) :=
  if (chk true q).1 ≠ 0 then ([], chk true q) else if entryFrom name 0 q < 0 then ([], (12, -2)) else if rank < -1000000 ∨ 1000000 < rank then ([], (4, -3)) else
    let i := (entryFrom name 0 q).toNat
    (settleF q.length (q.set i ⟨(q.getD i default).name, rank⟩) i, (0, 0))

theorem entryFrom_lt (name : List UInt8) : ∀ (i : Nat) (l : List Ent), entryFrom name i l < 0 ∨ ∃ k, entryFrom name i l = ((i + k : Nat) : Int) ∧ k < l.length
  | i, [] => .inl (by simp [entryFrom])
  | i, e :: r => by
    simp only [entryFrom]
    split
    · exact .inr ⟨0, by simp, by simp⟩
    · rcases entryFrom_lt name (i + 1) r with h | ⟨k, h, hk⟩
      · exact .inl h
      · exact .inr ⟨k + 1, by rw [h]; omega, by simp; omega⟩

theorem change_V (q : List Ent) (name : List UInt8) (rank : Int) (hq : q.length < 2000000) (h : List Blk) : CallP Try.prog 31 [.d (.sl 40 (q.map encE)), .d (.str name), .d (.int .i64 rank)] h (encQF (changeF q name rank)) := by
  refine callW tb_ok fn31 (by simp) (fun hok => ?_)
  simp [c31]
  refine (validate_V q _).useV ?_
  by_cases hc : (chk true q).1 = 0
  · have hs := chk_small hc
    simp [hc]
    refine (find_V q name (by omega) _).useV ?_
    rcases entryFrom_lt name 0 q with hf | ⟨k, hf, hk⟩
    · simp (disch := first | omega | (simp; done) | (simp; omega)) [ltT, ltF, leT, leF, eqT', eqF, ltTn, leTn, ltFn, leFn, wrapI, mid, hf]
      have hR : changeF q name rank = ([], (12, -2)) := by unfold changeF; rw [if_neg (by rw [hc]; simp), if_pos hf]
      simp [hR, encQF]
      exact rshift_subs (by simp) (by simp) hok
    · rw [Nat.zero_add] at hf
      by_cases hr : rank < -1000000
      · simp (disch := first | omega | (simp; done) | (simp; omega)) [ltT, ltF, leT, leF, eqT', eqF, ltTn, leTn, ltFn, leFn, wrapI, mid, hf]
        have hR : changeF q name rank = ([], (4, -3)) := by unfold changeF; rw [if_neg (by rw [hc]; simp), if_neg (by omega), if_pos (.inl hr)]
        simp [hR, encQF]
        exact rshift_subs (by simp) (by simp) hok
      · by_cases hr2 : 1000000 < rank
        · simp (disch := first | omega | (simp; done) | (simp; omega)) [ltT, ltF, leT, leF, eqT', eqF, ltTn, leTn, ltFn, leFn, wrapI, mid, hf]
          have hR : changeF q name rank = ([], (4, -3)) := by unfold changeF; rw [if_neg (by rw [hc]; simp), if_neg (by omega), if_pos (.inr hr2)]
          simp [hR, encQF]
          exact rshift_subs (by simp) (by simp) hok
        · simp (disch := first | omega | (simp; done) | (simp; omega)) [ltT, ltF, leT, leF, eqT', eqF, ltTn, leTn, ltFn, leFn, wrapI, mid, hf]
          refine callV_of (cloneZ_V q (by omega) _) ?_
          rintro _ _ (⟨rfl, rfl, rfl⟩ | ⟨hne, rfl, rfl⟩)
          · simp at hk
          · obtain ⟨x, hx⟩ : ∃ x, q[k]? = some x := ⟨_, List.getElem?_eq_getElem hk⟩
            have hx' := (List.getElem?_eq_some_iff.mp hx).2
            simp (disch := first | omega | (simp; done) | (simp; omega)) [ltT, ltF, leT, leF, eqT', eqF, ltTn, leTn, ltFn, leFn, wrapI, mid, blkE, hx, hx', hk]
            refine callV_of (settle_V q.length (q.set k ⟨x.name, rank⟩) k (h.length + 2) _ (by simp [blkE, List.map_set]; rfl) (by simp) (by omega) (by omega)) ?_
            rintro _ _ ⟨rfl, rfl⟩
            simp
            have hR : changeF q name rank = (settleF q.length (q.set k ⟨x.name, rank⟩) k, (0, 0)) := by
              unfold changeF
              rw [if_neg (by rw [hc]; simp), if_neg (by omega), if_neg (by omega)]
              simp [hf, hx]
            rw [hR]
            exact rshift_frz (b := h.length + 2) (e := 40) (ds := (settleF q.length (q.set k ⟨x.name, rank⟩) k).map encE) (by simp [blkE_eq]) (by simp) hok (by simp (disch := first | omega | (simp; done) | (simp; omega)) [encQF, settleF, List.take_of_length_le]) (by simp [encQF])
  · simp [hc, changeF, encQF]
    exact rshift_subs (by simp) (by simp) hok

def removeF (q : List Ent) (name : List UInt8) : List Ent × (Int × Int) :=
  if (chk true q).1 ≠ 0 then ([], chk true q) else if entryFrom name 0 q < 0 then ([], (12, -2)) else ((withoutF q.length q (entryFrom name 0 q).toNat).take (q.length - 1), (0, 0))

theorem remove_V (q : List Ent) (name : List UInt8) (hq : q.length < 2000000) (h : List Blk) : CallP Try.prog 32 [.d (.sl 40 (q.map encE)), .d (.str name)] h (encQF (removeF q name)) := by
  refine callW tb_ok fn32 (by simp) (fun hok => ?_)
  simp [c32]
  refine (validate_V q _).useV ?_
  by_cases hc : (chk true q).1 = 0
  · have hs := chk_small hc
    simp [hc]
    refine (find_V q name (by omega) _).useV ?_
    rcases entryFrom_lt name 0 q with hf | ⟨k, hf, hk⟩
    · simp (disch := first | omega | (simp; done) | (simp; omega)) [ltT, ltF, leT, leF, eqT', eqF, ltTn, leTn, ltFn, leFn, wrapI, mid, hf]
      have hR : removeF q name = ([], (12, -2)) := by unfold removeF; rw [if_neg (by rw [hc]; simp), if_pos hf]
      simp [hR, encQF]
      exact rshift_subs (by simp) (by simp) hok
    · rw [Nat.zero_add] at hf
      simp (disch := first | omega | (simp; done) | (simp; omega)) [ltT, ltF, leT, leF, eqT', eqF, ltTn, leTn, ltFn, leFn, wrapI, mid, hf]
      refine callV_of (cloneZ_V q (by omega) _) ?_
      rintro _ _ (⟨rfl, rfl, rfl⟩ | ⟨hne, rfl, rfl⟩)
      · simp at hk
      · simp
        refine callV_of (without_V q.length q k (h.length + 2) _ (by simp) (by simp) (by omega) (by omega)) ?_
        rintro _ _ ⟨rfl, rfl⟩
        simp
        have hR : removeF q name = ((withoutF q.length q k).take (q.length - 1), (0, 0)) := by
          unfold removeF
          rw [if_neg (by rw [hc]; simp), if_neg (by omega)]
          simp [hf]
        rw [hR]
        exact rshift_frz (b := h.length + 2) (e := 40) (ds := (withoutF q.length q k).map encE) (by simp [blkE_eq]) (by simp) hok (by simp [encQF, length_withoutF]) (by simp [encQF])
  · simp [hc, removeF, encQF]
    exact rshift_subs (by simp) (by simp) hok

end Go.Vm
