/- For all queues, names and ranks, Change and Remove return queues with the specified entries; of arguments that hold at most 1048576 values and letters. -/
import Derived.Test.YtfoigidddlboaaaRows
import Derived.Test.YtfoigidddlboaaaHqR
import Derived.Test.YtfoigidddlboaaaHqZ
import Derived.JoinedCond
namespace Go.Proofs.Ytfoigidddlboaaa
open Go.Vm Proofs Proofs.Ytfoigidddlboaaa Go.ChangeShapes Go.WideShapes Go.ChangeAt Go.RowKit
set_option maxRecDepth 100000

theorem heapqChangeMatchesSpec_holds : Rows.HeapqChangeMatchesSpecUptoSaid := by
  refine OpenClaim.holds_of_cond 8 Try.f8 rfl rfl rfl rfl rfl rfl rfl ⟨rfl, rfl, rfl, rfl, rfl⟩ rfl rfl rfl rfl rfl (by kernel_rfl) Try.func8 (by kernel_rfl)
    (of_decide_eq_true (by kernel_rfl)) (by unfold Func.isWrapper; first | (rw [if_pos (by decide +kernel)]; kernel_rfl) | (rw [if_neg (by decide +kernel)]; exact ⟨rfl, rfl⟩))
    (fun os started H enc _ F => ?_)
  refine returnsInHanded_of_cond (C := Try.checked) (s := Rows.OpenSpec.upto Rows.heapqChangeMatchesSpecSpec) (k := Rows.uptoSmall) rfl tryOwn started (by kernel_rfl) Try.func8
    (OpenSpec.witness (enc := enc) (C := Try.checked) (s := Rows.OpenSpec.upto Rows.heapqChangeMatchesSpecSpec) (k := Rows.uptoSmall) rfl false ⟨#[], #[.slice none 0 0, .string ⟨#[]⟩, .int .i64 0], []⟩ 8 (by kernel_rfl) (by kernel_rfl) (by kernel_rfl)
      (x := ([.nil, .lit (.string []), .lit (.int .i64 0)], [], [])) (by kernel_rfl) rfl (by kernel_rfl)) ?_
  intro W base args ds gs before hval0 hW _ hk _
  have hval : ∀ (j : Nat) t v, Try.f8.params[j]? = some t → args[j]? = some v → Value.okWide Try.prog W .any base t v := hval0
  have hW' := hW
  obtain ⟨p, q, hA0, hV, rfl, hfz, hnd⟩ := hW
  have hA : DataW.TrodAll enc Try.prog W 0 (fun _ => true) true Try.f8.params.toList args.toList ds p := hA0
  rw [Try.params8] at hA hval
  obtain ⟨v0, vs0, d0, ds0, p0, q0, hargs0, rfl, rfl, h0, r0⟩ := trodAll_cons hA
  obtain ⟨v1, vs1, d1, ds1, p1, q1, hargs1, rfl, rfl, h1, r1⟩ := trodAll_cons r0
  obtain ⟨v2, vs2, d2, ds2, p2, q2, hargs2, rfl, rfl, h2, r2⟩ := trodAll_cons r1
  obtain ⟨rfl, rfl, rfl⟩ := trodAll_nil r2
  obtain rfl : args = #[v0, v1, v2] := by cases args; simp_all
  obtain ⟨rfl, rfl⟩ := trodVars_none hV
  obtain ⟨x0, f0, s0⟩ := trod_val tb_ok.types bulk_ok (B := 1048576) (n := 5) tbget22 (by kernel_rfl) (hval 0 22 v0 rfl rfl) h0 (bulk_part hk (by simp))
  obtain ⟨x1, f1, s1⟩ := trod_val tb_ok.types bulk_ok (B := 1048576) (n := 5) tbget9 (by kernel_rfl) (hval 1 9 v1 rfl rfl) h1 (bulk_part hk (by simp))
  obtain ⟨x2, f2, s2⟩ := trod_val tb_ok.types bulk_ok (B := 1048576) (n := 5) tbget3 (by kernel_rfl) (hval 2 3 v2 rfl rfl) h2 (bulk_part hk (by simp))
  obtain ⟨l0, rfl, hl0, hle0⟩ := shp_ents s0
  obtain ⟨tx1, rfl, htx1⟩ := shp_s s1
  obtain ⟨n2, rfl, hn2⟩ := shp_i s2
  have hps : ∀ p ∈ ([(D.sl 40 (l0.map encE), v0), (.str tx1, v1), (.int .i64 n2, v2)] : List (D × Value)), FRep (psz Try.prog) W.cell? p.1 p.2 := by
    intro p hp
    simp only [List.mem_cons, List.not_mem_nil, or_false] at hp
    rcases hp with rfl | rfl | rfl
    · exact f0
    · exact f1
    · exact f2
  refine (law_calls (law8 l0 tx1 n2 (by omega)) (argsOf _ hps)).mono fun e W' ⟨he, hb⟩ => ?_
  subst he
  exact ⟨_, rfl, post_of_below tryLaid hW' rfl (by kernel_rfl) Try.underlying4 rfl rfl rfl (by intro t ht; rw [Try.params8] at ht; simp only [List.mem_cons, List.not_mem_nil, or_false] at ht; rcases ht with rfl | rfl | rfl <;> exact ⟨by kernel_rfl, of_decide_eq_true (by kernel_rfl)⟩) hb⟩

end Go.Proofs.Ytfoigidddlboaaa
