/- The texts FwZ FwV, joined. -/
import Derived.Test.YtmndejlpfmmaiaaDoorZ6
import Derived.ProofKit
import Derived.Lib.SmallJoins
import Derived.SizedLaws
import Derived.OpenShut
import Derived.ShutString
import Derived.ChangeOld
import Derived.Below
import Derived.Deep.SlicePairs
set_option linter.unusedSimpArgs false
set_option linter.unusedVariables false
namespace Go.Proofs.YtmndejlpfmmaiaaDoor.Fw
open Go Go.Proofs.YtmndejlpfmmaiaaDoor.Ma Go.ChangeShapes Go.WideShapes Go.ChangeAt Go.RowKit
def ctx0(w:World):Ctx:=⟨fun _=>0,fun _=>False,fun _=>False,fun _=>none,w⟩
theorem ctx0_ok(w:World):Ok (ctx0 w):=
 ⟨fun _ h=>absurd rfl h,⟨0,fun _ h=>h.elim False.elim False.elim⟩,fun _ _ h _ _=>absurd rfl h,fun _ _ h=>by cases h⟩
theorem ctx0_mut{w:World}{k:Nat}: ¬Mut (ctx0 w) k:=fun⟨_,h,_⟩=>h
theorem below_of_later{w:World}{c:Ctx}(h:Later (ctx0 w) c):Below w.heap.size w c.w:=
 ⟨h.os,h.tape,h.output,h.size,fun k hk=>(h.keep k hk ctx0_mut).1⟩
theorem law_calls{P:Program}{f:FuncId}{args:List AV}(h:PFn P f args (.bool true))(w:World)(vs:Array Value)(hn:vs.size=args.length)(he: ∀i(h:i<args.length)(h':i<vs.size),Enc (ctx0 w) (args[i]) (vs[i])):
 Calls P f vs w fun e w'=>e=.returned (.bool true)∧Below w.heap.size w w':=by
 refine((h (fun _=>none) (fun r _=>r=.bool true) rfl).2 (ctx0 w) vs rfl (ctx0_ok w) hn he).mono ?_
 rintro e w' ⟨c,v,r,rfl,rfl,_,hl,hr,rfl⟩
 cases hr
 exact⟨rfl,below_of_later hl⟩
section
variable {H:Type} {enc:TypeId×Value→H} {P:Program} {w:World} {base:Nat} {held:Bool}
end
section
variable {H:Type} {enc:TypeId×Value→H} {P:Program} {w:World} {base:Nat} {held:Bool}
abbrev NumV:=Bool×List Nat×Bool
end
end Go.Proofs.YtmndejlpfmmaiaaDoor.Fw
