/- The texts FwZ FwV, joined. -/
import Derived.Test.YtmndejlpfmmaiaaDoorZ6
import Derived.ProofKit
import Derived.Lib.SmallJoins
import Derived.SizedLaws
import Derived.OpenShut
import Derived.ShutString
import Derived.ChangeOld
import Derived.Below
import Derived.Deep.SlicePairs
set_option linter.unusedSimpArgs false
set_option linter.unusedVariables false
namespace Go.Proofs.YtmndejlpfmmaiaaDoor.Fw
open Go Go.Proofs.YtmndejlpfmmaiaaDoor.Ma Go.ChangeShapes Go.WideShapes Go.ChangeAt Go.RowKit
def ctx0(w:World):Ctx:=⟨fun _=>0,fun _=>False,fun _=>False,fun _=>none,w⟩
section
variable {H:Type} {enc:TypeId×Value→H} {P:Program} {w:World} {base:Nat} {held:Bool}
theorem spot_none{a:Addr}{v:Value}(h:w.cell? a=some v):a.spot=none∧a.block<w.heap.size:=by
 unfold World.cell? at h
 split at h
 ·rename_i hb
  split at h
  ·cases h
  ·rename_i hs
   exact⟨by cases e:a.spot with
    |none=>rfl
    |some x=>rw[e]at hs;exact absurd rfl hs,(Array.getElem?_eq_some_iff.1 hb).1⟩
 ·cases h
end
section
variable {H:Type} {enc:TypeId×Value→H} {P:Program} {w:World} {base:Nat} {held:Bool}
abbrev NumV:=Bool×List Nat×Bool
end
end Go.Proofs.YtmndejlpfmmaiaaDoor.Fw
