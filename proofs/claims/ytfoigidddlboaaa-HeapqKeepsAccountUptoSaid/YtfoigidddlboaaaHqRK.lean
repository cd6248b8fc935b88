/- After any sequence of additions, changes, removals and of taking the first entry, a queue has the entries that are left; of arguments that hold at most 1048576 values and letters. -/
import Derived.Test.YtfoigidddlboaaaRows
import Derived.Test.YtfoigidddlboaaaHqR
import Derived.Test.YtfoigidddlboaaaHqZK
import Derived.JoinedCond
namespace Go.Proofs.Ytfoigidddlboaaa
open Go.Vm Proofs Proofs.Ytfoigidddlboaaa Go.ChangeShapes Go.WideShapes Go.ChangeAt Go.RowKit
set_option maxRecDepth 100000

theorem heapqKeepsAccount_holds : Rows.HeapqKeepsAccountUptoSaid := by
  refine OpenClaim.holds_of_cond 9 Try.f9 rfl rfl rfl rfl rfl rfl rfl ⟨rfl, rfl, rfl, rfl, rfl⟩ rfl rfl rfl rfl rfl (by kernel_rfl) Try.func9 (by kernel_rfl)
    (of_decide_eq_true (by kernel_rfl)) (by unfold Func.isWrapper; first | (rw [if_pos (by decide +kernel)]; kernel_rfl) | (rw [if_neg (by decide +kernel)]; exact ⟨rfl, rfl⟩))
    (fun os started H enc _ F => ?_)
  refine returnsInHanded_of_cond (C := Try.checked) (s := Rows.OpenSpec.upto Rows.heapqKeepsAccountSpec) (k := Rows.uptoSmall) rfl tryOwn started (by kernel_rfl) Try.func9
    (OpenSpec.witness (enc := enc) (C := Try.checked) (s := Rows.OpenSpec.upto Rows.heapqKeepsAccountSpec) (k := Rows.uptoSmall) rfl false ⟨#[], #[.slice none 0 0, .slice none 0 0, .slice none 0 0], []⟩ 8 (by kernel_rfl) (by kernel_rfl) (by kernel_rfl)
      (x := ([.nil, .nil, .nil], [], [])) (by kernel_rfl) rfl (by kernel_rfl)) ?_
  intro W base args ds gs before hval0 hW _ hk _
  have hval : ∀ (j : Nat) t v, Try.f9.params[j]? = some t → args[j]? = some v → Value.okWide Try.prog W .any base t v := hval0
  have hW' := hW
  obtain ⟨p, q, hA0, hV, rfl, hfz, hnd⟩ := hW
  have hA : DataW.TrodAll enc Try.prog W 0 (fun _ => true) true Try.f9.params.toList args.toList ds p := hA0
  rw [Try.params9] at hA hval
  obtain ⟨v0, vs0, d0, ds0, p0, q0, hargs0, rfl, rfl, h0, r0⟩ := trodAll_cons hA
  obtain ⟨v1, vs1, d1, ds1, p1, q1, hargs1, rfl, rfl, h1, r1⟩ := trodAll_cons r0
  obtain ⟨v2, vs2, d2, ds2, p2, q2, hargs2, rfl, rfl, h2, r2⟩ := trodAll_cons r1
  obtain ⟨rfl, rfl, rfl⟩ := trodAll_nil r2
  obtain rfl : args = #[v0, v1, v2] := by cases args; simp_all
  obtain ⟨rfl, rfl⟩ := trodVars_none hV
  obtain ⟨x0, f0, s0⟩ := trod_val tb_ok.types bulk_ok (B := 1048576) (n := 5) tbget59 (by kernel_rfl) (hval 0 59 v0 rfl rfl) h0 (bulk_part hk (by simp))
  obtain ⟨x1, f1, s1⟩ := trod_val tb_ok.types bulk_ok (B := 1048576) (n := 5) tbget60 (by kernel_rfl) (hval 1 60 v1 rfl rfl) h1 (bulk_part hk (by simp))
  obtain ⟨x2, f2, s2⟩ := trod_val tb_ok.types bulk_ok (B := 1048576) (n := 5) tbget59 (by kernel_rfl) (hval 2 59 v2 rfl rfl) h2 (bulk_part hk (by simp))
  obtain ⟨l0, rfl, hl0, hle0⟩ := shp_ints s0
  obtain ⟨l1, rfl, hl1, hle1⟩ := shp_strs s1
  obtain ⟨l2, rfl, hl2, hle2⟩ := shp_ints s2
  have hps : ∀ p ∈ ([(D.sl 3 (l0.map encI), v0), (D.sl 9 (l1.map encS), v1), (D.sl 3 (l2.map encI), v2)] : List (D × Value)), FRep (psz Try.prog) W.cell? p.1 p.2 := by
    intro p hp
    simp only [List.mem_cons, List.not_mem_nil, or_false] at hp
    rcases hp with rfl | rfl | rfl
    · exact f0
    · exact f1
    · exact f2
  refine (law_calls (law9 l0 l1 l2 (by omega) (by omega) (by omega)) (argsOf _ hps)).mono fun e W' ⟨he, hb⟩ => ?_
  subst he
  exact ⟨_, rfl, post_of_below tryLaid hW' rfl (by kernel_rfl) Try.underlying4 rfl rfl rfl (by intro t ht; rw [Try.params9] at ht; simp only [List.mem_cons, List.not_mem_nil, or_false] at ht; rcases ht with rfl | rfl | rfl <;> exact ⟨by kernel_rfl, of_decide_eq_true (by kernel_rfl)⟩) hb⟩

end Go.Proofs.Ytfoigidddlboaaa
