/- Comparisons of whole numbers, for simp with omega as its discharger. -/
import Derived.Test.YtggeifnbllfmbaaDoorVmK
set_option linter.unusedSimpArgs false
namespace Go.Vm

theorem ltT {a b : Int} (h : a < b) : (a < b) = True := eq_true h
theorem ltF {a b : Int} (h : b ≤ a) : (a < b) = False := eq_false (by omega)
theorem leT {a b : Int} (h : a ≤ b) : (a ≤ b) = True := eq_true h
theorem leF {a b : Int} (h : b < a) : (a ≤ b) = False := eq_false (by omega)
theorem eqT' {a b : Int} (h : a = b) : (a = b) = True := eq_true h
theorem eqF {a b : Int} (h : ¬ a = b) : (a = b) = False := eq_false h
theorem ltTn {a b : Nat} (h : a < b) : (a < b) = True := eq_true h
theorem ltFn {a b : Nat} (h : b ≤ a) : (a < b) = False := eq_false (by omega)
theorem leTn {a b : Nat} (h : a ≤ b) : (a ≤ b) = True := eq_true h
theorem leFn {a b : Nat} (h : b < a) : (a ≤ b) = False := eq_false (by omega)
theorem eqTn {a b : Nat} (h : a = b) : (a = b) = True := eq_true h
theorem eqFn {a b : Nat} (h : ¬ a = b) : (a = b) = False := eq_false h

theorem wrapI {n : Int} (h1 : -9223372036854775808 ≤ n) (h2 : n < 9223372036854775808) : IntKind.i64.wrap n = n := by
  simp only [IntKind.wrap, IntKind.bits, IntKind.signed, Bool.true_and, decide_eq_true_eq, show (2 : Int) ^ 64 = 18446744073709551616 from rfl, show (2 : Int) ^ (64 - 1) = 9223372036854775808 from rfl]
  split <;> omega

/-- A loop; what the round's end leads to has a name. -/
theorem W_loopA {P : Program} {tab : Tab} {m nt : Nat} {Q : Exit → Env → Prop} {env : Env} {ι : Type} (I : ι → Prop) (inv : ι → Env) (μ : ι → Nat) (i : ι) {b : VC} (hi : I i) (h1 : Shift P m nt env (inv i))
    (h2 : ∀ i, I i → ∀ A : Env → Prop, (∀ i' env', I i' → μ i' < μ i → Shift P m nt env' (inv i') → A env') → W P tab m nt b (thenQ A Q) (inv i)) : W P tab m nt (.loop b) Q env :=
  W_loop I inv μ i hi h1 fun i hI => h2 i hI _ fun i' _ a b c => ⟨i', a, c, b⟩

/-- The same; what follows behind the loop has a name, too. -/
theorem W_loopQ {P : Program} {tab : Tab} {m nt : Nat} {Q : Exit → Env → Prop} {env : Env} {ι : Type} (I : ι → Prop) (inv : ι → Env) (μ : ι → Nat) (i : ι) {b : VC} (hi : I i) (h1 : Shift P m nt env (inv i))
    (h2 : ∀ i, I i → ∀ A : Env → Prop, (∀ i' env', I i' → μ i' < μ i → Shift P m nt env' (inv i') → A env') → ∀ Q', Q' = Q → W P tab m nt b (thenQ A Q') (inv i)) : W P tab m nt (.loop b) Q env :=
  W_loopA I inv μ i hi h1 fun i hI A hA => h2 i hI A hA _ rfl

/-- Arguments of which less is said. -/
theorem CallW.sub {P : Program} {f : FuncId} {args args' : List AV} {h : List Blk} {Q : AV → List Blk → Prop} (hc : CallW P f args' h Q) (hs : subL args args') : CallW P f args h Q := by
  refine ⟨hc.1, fun base w0 F ρ w vs hst ha => hc.2 base w0 F ρ w vs hst ?_⟩
  obtain ⟨h1, h2⟩ := subL_get hs
  refine ⟨by rw [← h1]; exact ha.1, fun i y hy => ?_⟩
  obtain ⟨x, hx, hxy⟩ := h2 i y hy
  obtain ⟨v, hv, hr⟩ := ha.2 i x hx
  exact ⟨v, hv, hxy.rel hr⟩
theorem CallP.subs {P : Program} {f : FuncId} {args args' : List AV} {h : List Blk} {r : AV} (hc : CallP P f args' h r) (hs : subL args args') : CallP P f args h r := CallW.sub hc hs

theorem get_app {α : Type} {h : List α} {b : Nat} {x : α} (hb : h[b]? = some x) (g : List α) : (h ++ g)[b]? = some x := by
  rw [List.getElem?_append_left (List.getElem?_eq_some_iff.mp hb).1]; exact hb

end Go.Vm
