import Derived.Test.YtfoigidddlboaaaHqC0
import Derived.Test.YtfoigidddlboaaaTab
import Derived.Test.YtfoigidddlboaaaVmX
import Derived.Lib.Strings
import Derived.Lib.Slices
import Derived.Lib.Walk
import Derived.Lib.Bytealg
namespace Go.Vm
open Proofs

set_option maxHeartbeats 1000000 in
set_option maxRecDepth 100000 in
theorem compareString_calls (a b : ByteArray) (w : World) :
    Calls Try.prog 70 #[.string a, .string b] w fun e w' => e = .returned (.int .i64 (Lib.compareBytes a.data.toList b.data.toList)) ∧ w' = w := by
  go_enter Try.func70, Try.ntmps70
  go_wp2
  rw [run_callFunc_extern Try.func73 (by kernel_rfl) (by kernel_rfl) (by kernel_rfl) (e := Extern.BytealgCompare.compare) (by kernel_rfl), Lib.run_compareString]
  simp only [Result.andThen]
  rw [Oper.upon_value]
  go_wp2
  go_ret
  exact ⟨rfl, rfl⟩

theorem compareString_V (a b : List UInt8) (h : List Blk) : CallP Try.prog 70 [.d (.str a), .d (.str b)] h (.d (.int .i64 (Lib.compareBytes a b))) :=
  callP_str2 (r := fun a b => .int .i64 (Lib.compareBytes a b)) ⟨Try.f70, Try.func70, by kernel_rfl, by kernel_rfl⟩ compareString_calls (fun _ _ _ _ => .int _ _) a b h

theorem stringsCompare_V (a b : List UInt8) (h : List Blk) : CallP Try.prog 61 [.d (.str a), .d (.str b)] h (.d (.int .i64 (Lib.compareBytes a b))) := by
  refine callW tb_ok fn61 (by simp) (fun hok => ?_)
  simp [c61]
  refine (compareString_V _ _ _).useV ?_
  simp

end Go.Vm
