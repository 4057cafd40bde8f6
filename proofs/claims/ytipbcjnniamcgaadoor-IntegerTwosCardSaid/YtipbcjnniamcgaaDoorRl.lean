/- The ring's law, as what its code computes: true. -/
import Derived.Test.YtipbcjnniamcgaaDoorRk
namespace Go.Proofs.YtipbcjnniamcgaaDoor.Fw
set_option linter.unusedSimpArgs false
set_option linter.unusedVariables false
open Go Go.Proofs.YtipbcjnniamcgaaDoor.Ma
set_option maxRecDepth 20000

theorem cmp_eq {x y : Int} {k : Nat} (hx : Bd k x) (hk : k ≤ 549755813888) (h : x = y) : PFn Tryd.prog 79 [IntA x, IntA y] (.int .i64 ((0 : Nat) : Int)) := by
  subst h
  have := cmpi_fn hx hk hx hk
  rwa [show cmpI x x = ((0 : Nat) : Int) by simp [cmpI]] at this
theorem sign_0 (x : Int) (h : x = 0) : PFn Tryd.prog 78 [IntA x] (.int .i64 ((0 : Nat) : Int)) := by
  subst h
  exact sign_fn (Bd.zero 1) (by omega)
end Go.Proofs.YtipbcjnniamcgaaDoor.Fw
