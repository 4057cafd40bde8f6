/- The texts Ac Li Lj Lb Lk Ll Lm In Re Rf Rg Ri Rj Rk Rl Rm Rn Ro Io Rp Rq Rr Rs Rt Ru Rv Rw Ka Kn Kb Nb Sa Sb Sc Sd Se Sf Sh Nd Tb Ya Yb Yc Yd, joined. -/
import Derived.Test.YtanchgkiomfhhaaDoorZ3
import Derived.Test.YtanchgkiomfhhaaDoorProg
/- The looked-up code of each function, and that it is: by a program (wip/tools/ac.py); Lean checks it. -/
namespace Go.Proofs.YtanchgkiomfhhaaDoor.Fw
open Go
set_option maxRecDepth 100000
theorem mixed : Go.Proofs.Tryd.prog.follows .mixedOrders = true := by kernel_rfl
def ac27 : ACode := (.seq (.reg [⟨(some 1), none, (.box 28 0 (.t 0))⟩, ⟨(some 2), none, (.mov (.k (.int .i64 ((0 : Nat) : Int))))⟩] [1]) (.seq (.block 0 (.seq (.reg [⟨(some 4), none, (.fldA 1 (.t 1))⟩, ⟨(some 5), none, (.load none (.t 4))⟩, ⟨(some 6), none, (.len false (.t 5))⟩, ⟨(some 7), none, (.bin .eql (.t 6) (.k (.int .i64 ((0 : Nat) : Int))))⟩, ⟨(some 3), none, (.mov (.t 7))⟩] [1, 3]) (.cond (.t 3) (.seq (.reg [⟨(some 2), none, (.mov (.k (.int .i64 ((0 : Nat) : Int))))⟩] [2]) .ret) (.seq (.reg [⟨(some 9), none, (.fldA 0 (.t 1))⟩, ⟨(some 10), none, (.load none (.t 9))⟩, ⟨(some 8), none, (.mov (.t 10))⟩] [8]) (.cond (.t 8) (.seq (.reg [⟨(some 2), none, (.mov (.k (.int .i64 (-1))))⟩] [2]) .ret) .skip))))) (.seq (.reg [⟨(some 2), none, (.mov (.k (.int .i64 ((1 : Nat) : Int))))⟩] [2]) .ret)))
def rs27 : List RV := [(.t 2)]
theorem co27 : compFn Go.Proofs.Tryd.prog Go.Proofs.Tryd.f27 pl27 = some (ac27, rs27) := by kernel_rfl
theorem enter27 {args : List AV} {H : AHeap} {Q : AV → AHeap → Prop} (hn : args.length ≤ 11) (h : W Go.Proofs.Tryd.prog ac27 (retN rs27 Q) ⟨[], initE args 0, H⟩) : Run Go.Proofs.Tryd.prog 27 args H Q := Run_fn2 mixed Go.Proofs.Tryd.func27 (by kernel_rfl) co27 (n := 11) (by kernel_rfl) hn h
def ac28 : ACode := (.seq (.reg [⟨(some 1), none, (.box 28 0 (.t 0))⟩, ⟨(some 2), none, (.mov (.k (.str ⟨#[]⟩)))⟩] [1, 2]) (.seq (.reg [⟨(some 3), none, (.alloc 103 0 [(.seq 0 [] true)])⟩] [1, 2, 3]) (.seq (.seq (.reg [⟨(some 5), none, (.fldA 0 (.t 1))⟩, ⟨(some 6), none, (.load none (.t 5))⟩] [1, 2, 3, 6]) (.cond (.t 6) (.reg [⟨(some 7), none, (.load none (.t 3))⟩, ⟨(some 8), none, (.bsl [(.int .u8 ((0 : Nat) : Int))] 1 1 [(0, (1, (.k (.int .u8 ((45 : Nat) : Int)))))])⟩, ⟨(some 9), none, (.app 5 1 1 (.t 7) (.t 8))⟩, ⟨none, none, (.store 1 (.t 3) (.t 9))⟩] [1, 2, 3]) .skip)) (.seq (.seq (.reg [⟨(some 10), none, (.fldA 1 (.t 1))⟩, ⟨(some 11), none, (.load none (.t 10))⟩, ⟨(some 12), none, (.call (.k (.fn (.func 132) [] [])) [(.t 11)])⟩] [2, 3, 12]) (.block 0 (.rfn (.t 12) [13] (.reg [⟨(some 4), none, (.mov (.t 13))⟩] [3, 4]) (.block 1 (.reg [⟨(some 14), none, (.load none (.t 3))⟩, ⟨(some 15), none, (.mov (.t 4))⟩, ⟨(some 16), none, (.bin .add (.k (.int .i64 ((48 : Nat) : Int))) (.t 15))⟩, ⟨(some 17), none, (.conv .u8 (.t 16))⟩, ⟨(some 18), none, (.bsl [(.int .u8 ((0 : Nat) : Int))] 1 1 [(0, (1, (.t 17)))])⟩, ⟨(some 19), none, (.app 5 1 1 (.t 14) (.t 18))⟩, ⟨none, none, (.store 1 (.t 3) (.t 19))⟩] []))))) (.seq (.reg [⟨(some 20), none, (.load none (.t 3))⟩, ⟨(some 21), none, (.prim .b2s [(.t 20)])⟩, ⟨(some 2), none, (.mov (.t 21))⟩] [2]) .ret)))))
def rs28 : List RV := [(.t 2)]
theorem co28 : compFn Go.Proofs.Tryd.prog Go.Proofs.Tryd.f28 pl28 = some (ac28, rs28) := by kernel_rfl
theorem enter28 {args : List AV} {H : AHeap} {Q : AV → AHeap → Prop} (hn : args.length ≤ 22) (h : W Go.Proofs.Tryd.prog ac28 (retN rs28 Q) ⟨[], initE args 0, H⟩) : Run Go.Proofs.Tryd.prog 28 args H Q := Run_fn2 mixed Go.Proofs.Tryd.func28 (by kernel_rfl) co28 (n := 22) (by kernel_rfl) hn h
def ac32 : ACode := (.seq (.reg [⟨(some 0), none, (.mov (.k (.bool false)))⟩] []) (.seq (.reg [⟨(some 4), none, (.bsl [(.int .i64 ((0 : Nat) : Int))] 2 1 [(0, (1, (.k (.int .i64 ((1 : Nat) : Int))))), (1, (1, (.k (.int .i64 ((2 : Nat) : Int)))))])⟩, ⟨(some 5), none, (.call (.k (.fn (.func 54) [] [])) [(.t 4)])⟩, ⟨(some 6), none, (.bsl [(.int .i64 ((0 : Nat) : Int))] 2 1 [(0, (1, (.k (.int .i64 ((3 : Nat) : Int))))), (1, (1, (.k (.int .i64 (-4)))))])⟩, ⟨(some 7), none, (.call (.k (.fn (.func 54) [] [])) [(.t 6)])⟩, ⟨(some 8), none, (.call (.k (.fn (.func 37) [] [])) [(.t 5), (.t 7)])⟩, ⟨(some 3), none, (.mov (.t 8))⟩, ⟨(some 9), none, (.ext (.t 3) 0)⟩, ⟨(some 10), none, (.ext (.t 3) 1)⟩, ⟨(some 1), none, (.mov (.t 9))⟩, ⟨(some 2), none, (.mov (.t 10))⟩] [1, 2]) (.seq (.reg [⟨(some 11), none, (.mov (.t 2))⟩, ⟨(some 12), none, (.bin .eql (.t 11) (.k (.int .i64 ((0 : Nat) : Int))))⟩, ⟨(some 13), none, (.mov (.t 12))⟩, ⟨(some 14), (some (13, true)), (.mov (.t 1))⟩, ⟨(some 15), (some (13, true)), (.call (.k (.fn (.func 86) [] [])) [(.t 14)])⟩, ⟨(some 16), (some (13, true)), (.bin .eql (.t 15) (.k (.str ⟨#[91, 52, 32, 45, 50, 93]⟩)))⟩, ⟨(some 17), none, (.pick (.t 13) (.t 16) (.k (.bool false)))⟩, ⟨(some 0), none, (.mov (.t 17))⟩] [0]) .ret)))
def rs32 : List RV := [(.t 0)]
theorem co32 : compFn Go.Proofs.Tryd.prog Go.Proofs.Tryd.f32 pl32 = some (ac32, rs32) := by kernel_rfl
theorem enter32 {args : List AV} {H : AHeap} {Q : AV → AHeap → Prop} (hn : args.length ≤ 18) (h : W Go.Proofs.Tryd.prog ac32 (retN rs32 Q) ⟨[], initE args 0, H⟩) : Run Go.Proofs.Tryd.prog 32 args H Q := Run_fn2 mixed Go.Proofs.Tryd.func32 (by kernel_rfl) co32 (n := 18) (by kernel_rfl) hn h
def ac35 : ACode := (.seq (.reg [⟨(some 4), none, (.alloc 28 0 [(.bool false), (.seq 0 [] true)])⟩] [0, 1, 4]) (.seq (.reg [⟨(some 5), none, (.mov (.t 0))⟩, ⟨(some 6), none, (.mov (.t 1))⟩, ⟨(some 7), none, (.call (.k (.fn (.func 138) [] [])) [(.t 6)])⟩, ⟨(some 8), none, (.call (.k (.fn (.func 137) [] [])) [(.t 5), (.t 7)])⟩, ⟨none, none, (.store 2 (.t 4) (.t 8))⟩] [4]) .ret))
def rs35 : List RV := [(.cell 4 (some 2))]
theorem co35 : compFn Go.Proofs.Tryd.prog Go.Proofs.Tryd.f35 pl35 = some (ac35, rs35) := by kernel_rfl
theorem enter35 {args : List AV} {H : AHeap} {Q : AV → AHeap → Prop} (hn : args.length ≤ 9) (h : W Go.Proofs.Tryd.prog ac35 (retN rs35 Q) ⟨[], initE args 0, H⟩) : Run Go.Proofs.Tryd.prog 35 args H Q := Run_fn2 mixed Go.Proofs.Tryd.func35 (by kernel_rfl) co35 (n := 9) (by kernel_rfl) hn h
def ac37 : ACode := (.seq (.reg [⟨(some 4), none, (.mov (.k (.seq 0 [] true)))⟩, ⟨(some 5), none, (.mov (.k (.int .i64 ((0 : Nat) : Int))))⟩] [0, 1]) (.seq (.reg [⟨(some 6), none, (.mov (.t 0))⟩, ⟨(some 7), none, (.mov (.t 1))⟩, ⟨(some 8), none, (.call (.k (.fn (.func 140) [] [])) [(.t 6), (.t 7), (.k (.fn (.func 121) [] []))])⟩, ⟨(some 9), none, (.ext (.t 8) 0)⟩, ⟨(some 10), none, (.ext (.t 8) 1)⟩, ⟨(some 4), none, (.mov (.t 9))⟩, ⟨(some 5), none, (.mov (.t 10))⟩] [4, 5]) .ret))
def rs37 : List RV := [(.t 4), (.t 5)]
theorem co37 : compFn Go.Proofs.Tryd.prog Go.Proofs.Tryd.f37 pl37 = some (ac37, rs37) := by kernel_rfl
theorem enter37 {args : List AV} {H : AHeap} {Q : AV → AHeap → Prop} (hn : args.length ≤ 11) (h : W Go.Proofs.Tryd.prog ac37 (retN rs37 Q) ⟨[], initE args 0, H⟩) : Run Go.Proofs.Tryd.prog 37 args H Q := Run_fn2 mixed Go.Proofs.Tryd.func37 (by kernel_rfl) co37 (n := 11) (by kernel_rfl) hn h
def ac52 : ACode := (.seq (.reg [⟨(some 2), none, (.mov (.k (.seq 0 [] true)))⟩, ⟨(some 3), none, (.mov (.k (.int .i64 ((0 : Nat) : Int))))⟩] [0]) (.seq (.seq (.reg [⟨(some 4), none, (.mov (.t 0))⟩, ⟨(some 5), none, (.bin .lss (.t 4) (.k (.int .i64 ((0 : Nat) : Int))))⟩, ⟨(some 6), none, (.mov (.t 5))⟩, ⟨(some 7), (some (6, false)), (.mov (.t 0))⟩, ⟨(some 8), (some (6, false)), (.bin .gtr (.t 7) (.k (.int .i64 ((4096 : Nat) : Int))))⟩, ⟨(some 9), none, (.pick (.t 6) (.k (.bool true)) (.t 8))⟩] [0, 9]) (.cond (.t 9) (.seq (.reg [⟨(some 2), none, (.mov (.k (.seq 0 [] true)))⟩, ⟨(some 3), none, (.mov (.k (.int .i64 ((2 : Nat) : Int))))⟩] [2, 3]) .ret) .skip)) (.seq (.reg [⟨(some 10), none, (.mov (.t 0))⟩, ⟨(some 11), none, (.mks 28 2 32 [(.bool false), (.seq 0 [] true)] (.t 10) (.t 10))⟩, ⟨(some 2), none, (.mov (.t 11))⟩, ⟨(some 3), none, (.mov (.k (.int .i64 ((0 : Nat) : Int))))⟩] [2, 3]) .ret)))
def rs52 : List RV := [(.t 2), (.t 3)]
theorem co52 : compFn Go.Proofs.Tryd.prog Go.Proofs.Tryd.f52 pl52 = some (ac52, rs52) := by kernel_rfl
theorem enter52 {args : List AV} {H : AHeap} {Q : AV → AHeap → Prop} (hn : args.length ≤ 12) (h : W Go.Proofs.Tryd.prog ac52 (retN rs52 Q) ⟨[], initE args 0, H⟩) : Run Go.Proofs.Tryd.prog 52 args H Q := Run_fn2 mixed Go.Proofs.Tryd.func52 (by kernel_rfl) co52 (n := 12) (by kernel_rfl) hn h
def ac53 : ACode := (.seq (.reg [⟨(some 4), none, (.mov (.k (.seq 0 [] true)))⟩, ⟨(some 5), none, (.mov (.k (.int .i64 ((0 : Nat) : Int))))⟩] [0, 1]) (.seq (.reg [⟨(some 9), none, (.mov (.t 0))⟩, ⟨(some 10), none, (.call (.k (.fn (.func 52) [] [])) [(.t 9)])⟩, ⟨(some 8), none, (.mov (.t 10))⟩, ⟨(some 11), none, (.ext (.t 8) 0)⟩, ⟨(some 12), none, (.ext (.t 8) 1)⟩, ⟨(some 6), none, (.mov (.t 11))⟩, ⟨(some 7), none, (.mov (.t 12))⟩] [0, 1, 6, 7]) (.seq (.block 0 (.seq (.reg [⟨(some 14), none, (.mov (.t 7))⟩, ⟨(some 15), none, (.bin .neq (.t 14) (.k (.int .i64 ((0 : Nat) : Int))))⟩, ⟨(some 13), none, (.mov (.t 15))⟩] [0, 1, 6, 7, 13]) (.cond (.t 13) (.seq (.reg [⟨(some 16), none, (.mov (.t 7))⟩, ⟨(some 4), none, (.mov (.k (.seq 0 [] true)))⟩, ⟨(some 5), none, (.mov (.t 16))⟩] [4, 5]) .ret) (.seq (.reg [⟨(some 18), none, (.mov (.t 1))⟩, ⟨(some 19), none, (.bin .lss (.t 18) (.k (.int .i64 ((0 : Nat) : Int))))⟩, ⟨(some 20), none, (.mov (.t 19))⟩, ⟨(some 21), (some (20, false)), (.mov (.t 1))⟩, ⟨(some 22), (some (20, false)), (.mov (.t 0))⟩, ⟨(some 23), (some (20, false)), (.bin .geq (.t 21) (.t 22))⟩, ⟨(some 24), none, (.pick (.t 20) (.k (.bool true)) (.t 23))⟩, ⟨(some 17), none, (.mov (.t 24))⟩] [1, 6, 17]) (.cond (.t 17) (.seq (.reg [⟨(some 4), none, (.mov (.k (.seq 0 [] true)))⟩, ⟨(some 5), none, (.mov (.k (.int .i64 ((5 : Nat) : Int))))⟩] [4, 5]) .ret) .skip))))) (.seq (.reg [⟨(some 25), none, (.mov (.t 6))⟩, ⟨(some 26), none, (.mov (.t 1))⟩, ⟨(some 27), none, (.call (.k (.fn (.func 58) [] [])) [(.k (.int .i64 ((1 : Nat) : Int)))])⟩, ⟨(some 28), none, (.idxA 2 (.t 25) (.t 26))⟩, ⟨none, none, (.store 2 (.t 28) (.t 27))⟩] [6]) (.seq (.reg [⟨(some 29), none, (.mov (.t 6))⟩, ⟨(some 4), none, (.mov (.t 29))⟩, ⟨(some 5), none, (.mov (.k (.int .i64 ((0 : Nat) : Int))))⟩] [4, 5]) .ret)))))
def rs53 : List RV := [(.t 4), (.t 5)]
theorem co53 : compFn Go.Proofs.Tryd.prog Go.Proofs.Tryd.f53 pl53 = some (ac53, rs53) := by kernel_rfl
theorem enter53 {args : List AV} {H : AHeap} {Q : AV → AHeap → Prop} (hn : args.length ≤ 30) (h : W Go.Proofs.Tryd.prog ac53 (retN rs53 Q) ⟨[], initE args 0, H⟩) : Run Go.Proofs.Tryd.prog 53 args H Q := Run_fn2 mixed Go.Proofs.Tryd.func53 (by kernel_rfl) co53 (n := 30) (by kernel_rfl) hn h
def ac54 : ACode := (.seq (.reg [⟨(some 2), none, (.mov (.k (.seq 0 [] true)))⟩] [0]) (.seq (.reg [⟨(some 3), none, (.mov (.k (.seq 0 [] true)))⟩] [0, 3]) (.seq (.seq (.reg [⟨(some 6), none, (.mov (.t 0))⟩, ⟨(some 7), none, (.len false (.t 6))⟩, ⟨(some 8), none, (.mov (.k (.int .i64 ((0 : Nat) : Int))))⟩] [3, 6, 7, 8]) (.block 0 (.loop (.seq (.reg [⟨(some 9), none, (.bin .lss (.t 8) (.t 7))⟩] [3, 6, 7, 8, 9]) (.seq (.cond (.t 9) .skip (.exit 0)) (.seq (.block 1 (.seq (.reg [⟨(some 10), none, (.idxA 1 (.t 6) (.t 8))⟩, ⟨(some 11), none, (.load none (.t 10))⟩, ⟨(some 5), none, (.mov (.t 11))⟩] [3, 5, 6, 7, 8]) (.reg [⟨(some 12), none, (.mov (.t 3))⟩, ⟨(some 13), none, (.mov (.t 5))⟩, ⟨(some 14), none, (.call (.k (.fn (.func 58) [] [])) [(.t 13)])⟩, ⟨(some 15), none, (.bsl [(.bool false), (.seq 0 [] true)] 1 2 [(0, (2, (.t 14)))])⟩, ⟨(some 16), none, (.app 28 2 32 (.t 12) (.t 15))⟩, ⟨(some 3), none, (.mov (.t 16))⟩] [3, 6, 7, 8]))) (.reg [⟨(some 17), none, (.bin .add (.t 8) (.k (.int .i64 ((1 : Nat) : Int))))⟩, ⟨(some 8), none, (.mov (.t 17))⟩] [3, 6, 7, 8]))))))) (.seq (.reg [⟨(some 18), none, (.mov (.t 3))⟩, ⟨(some 2), none, (.mov (.t 18))⟩] [2]) .ret))))
def rs54 : List RV := [(.t 2)]
theorem co54 : compFn Go.Proofs.Tryd.prog Go.Proofs.Tryd.f54 pl54 = some (ac54, rs54) := by kernel_rfl
theorem enter54 {args : List AV} {H : AHeap} {Q : AV → AHeap → Prop} (hn : args.length ≤ 19) (h : W Go.Proofs.Tryd.prog ac54 (retN rs54 Q) ⟨[], initE args 0, H⟩) : Run Go.Proofs.Tryd.prog 54 args H Q := Run_fn2 mixed Go.Proofs.Tryd.func54 (by kernel_rfl) co54 (n := 19) (by kernel_rfl) hn h
def ac55 : ACode := (.seq (.reg [⟨(some 1), none, (.box 28 0 (.t 0))⟩, ⟨(some 2), none, (.mov (.k (.int .i64 ((0 : Nat) : Int))))⟩, ⟨(some 3), none, (.mov (.k (.bool false)))⟩] [1]) (.seq (.seq (.reg [⟨(some 7), none, (.fldA 1 (.t 1))⟩, ⟨(some 8), none, (.load none (.t 7))⟩, ⟨(some 9), none, (.len false (.t 8))⟩, ⟨(some 10), none, (.bin .gtr (.t 9) (.k (.int .i64 ((2 : Nat) : Int))))⟩] [1, 10]) (.cond (.t 10) (.seq (.reg [⟨(some 2), none, (.mov (.k (.int .i64 ((0 : Nat) : Int))))⟩, ⟨(some 3), none, (.mov (.k (.bool false)))⟩] [2, 3]) .ret) .skip)) (.seq (.reg [⟨(some 4), none, (.mov (.k (.int .u64 ((0 : Nat) : Int))))⟩] [1, 4]) (.seq (.seq (.reg [⟨(some 11), none, (.fldA 1 (.t 1))⟩, ⟨(some 12), none, (.load none (.t 11))⟩, ⟨(some 13), none, (.len false (.t 12))⟩, ⟨(some 14), none, (.mov (.k (.int .i64 ((0 : Nat) : Int))))⟩] [1, 4, 12, 13, 14]) (.block 0 (.loop (.seq (.reg [⟨(some 15), none, (.bin .lss (.t 14) (.t 13))⟩] [1, 4, 12, 13, 14, 15]) (.seq (.cond (.t 15) .skip (.exit 0)) (.seq (.block 1 (.seq (.reg [⟨(some 16), none, (.mov (.t 14))⟩, ⟨(some 17), none, (.idxA 1 (.t 12) (.t 14))⟩, ⟨(some 18), none, (.load none (.t 17))⟩, ⟨(some 5), none, (.mov (.t 16))⟩, ⟨(some 6), none, (.mov (.t 18))⟩] [1, 4, 5, 6, 12, 13, 14]) (.reg [⟨(some 19), none, (.mov (.t 4))⟩, ⟨(some 20), none, (.mov (.t 6))⟩, ⟨(some 21), none, (.conv .u64 (.t 20))⟩, ⟨(some 22), none, (.mov (.t 5))⟩, ⟨(some 23), none, (.bin .mul (.k (.int .i64 ((32 : Nat) : Int))) (.t 22))⟩, ⟨(some 24), none, (.bin .shl (.t 21) (.t 23))⟩, ⟨(some 25), none, (.bin .or (.t 19) (.t 24))⟩, ⟨(some 4), none, (.mov (.t 25))⟩] [1, 4, 12, 13, 14]))) (.reg [⟨(some 26), none, (.bin .add (.t 14) (.k (.int .i64 ((1 : Nat) : Int))))⟩, ⟨(some 14), none, (.mov (.t 26))⟩] [1, 4, 12, 13, 14]))))))) (.seq (.block 2 (.seq (.reg [⟨(some 28), none, (.fldA 0 (.t 1))⟩, ⟨(some 29), none, (.load none (.t 28))⟩, ⟨(some 30), none, (.mov (.t 29))⟩, ⟨(some 31), (some (30, true)), (.mov (.t 4))⟩, ⟨(some 32), (some (30, true)), (.bin .leq (.t 31) (.k (.int .u64 ((9223372036854775808 : Nat) : Int))))⟩, ⟨(some 33), none, (.pick (.t 30) (.t 32) (.k (.bool false)))⟩, ⟨(some 27), none, (.mov (.t 33))⟩] [1, 4, 27]) (.cond (.t 27) (.seq (.reg [⟨(some 34), none, (.mov (.t 4))⟩, ⟨(some 35), none, (.un .neg (.t 34))⟩, ⟨(some 36), none, (.conv .i64 (.t 35))⟩, ⟨(some 2), none, (.mov (.t 36))⟩, ⟨(some 3), none, (.mov (.k (.bool true)))⟩] [2, 3]) .ret) (.seq (.reg [⟨(some 38), none, (.fldA 0 (.t 1))⟩, ⟨(some 39), none, (.load none (.t 38))⟩, ⟨(some 40), none, (.un .not (.t 39))⟩, ⟨(some 41), none, (.mov (.t 40))⟩, ⟨(some 42), (some (41, true)), (.mov (.t 4))⟩, ⟨(some 43), (some (41, true)), (.bin .lss (.t 42) (.k (.int .u64 ((9223372036854775808 : Nat) : Int))))⟩, ⟨(some 44), none, (.pick (.t 41) (.t 43) (.k (.bool false)))⟩, ⟨(some 37), none, (.mov (.t 44))⟩] [4, 37]) (.cond (.t 37) (.seq (.reg [⟨(some 45), none, (.mov (.t 4))⟩, ⟨(some 46), none, (.conv .i64 (.t 45))⟩, ⟨(some 2), none, (.mov (.t 46))⟩, ⟨(some 3), none, (.mov (.k (.bool true)))⟩] [2, 3]) .ret) .skip))))) (.seq (.reg [⟨(some 2), none, (.mov (.k (.int .i64 ((0 : Nat) : Int))))⟩, ⟨(some 3), none, (.mov (.k (.bool false)))⟩] [2, 3]) .ret))))))
def rs55 : List RV := [(.t 2), (.t 3)]
theorem co55 : compFn Go.Proofs.Tryd.prog Go.Proofs.Tryd.f55 pl55 = some (ac55, rs55) := by kernel_rfl
theorem enter55 {args : List AV} {H : AHeap} {Q : AV → AHeap → Prop} (hn : args.length ≤ 47) (h : W Go.Proofs.Tryd.prog ac55 (retN rs55 Q) ⟨[], initE args 0, H⟩) : Run Go.Proofs.Tryd.prog 55 args H Q := Run_fn2 mixed Go.Proofs.Tryd.func55 (by kernel_rfl) co55 (n := 47) (by kernel_rfl) hn h
def ac56 : ACode := (.seq (.reg [⟨(some 2), none, (.mov (.k (.bool false)))⟩] [0]) (.seq (.seq (.reg [⟨(some 5), none, (.mov (.t 0))⟩, ⟨(some 6), none, (.len false (.t 5))⟩, ⟨(some 7), none, (.mov (.k (.int .i64 ((0 : Nat) : Int))))⟩] [5, 6, 7]) (.block 0 (.loop (.seq (.reg [⟨(some 8), none, (.bin .lss (.t 7) (.t 6))⟩] [5, 6, 7, 8]) (.seq (.cond (.t 8) .skip (.exit 0)) (.seq (.block 1 (.seq (.reg [⟨(some 9), none, (.idxA 2 (.t 5) (.t 7))⟩, ⟨(some 10), none, (.load (some 2) (.t 9))⟩, ⟨(some 4), none, (.alloc 28 0 [(.bool false), (.seq 0 [] true)])⟩, ⟨none, none, (.store 2 (.t 4) (.t 10))⟩] [4, 5, 6, 7]) (.seq (.reg [⟨(some 11), none, (.load (some 2) (.t 4))⟩, ⟨(some 12), none, (.call (.k (.fn (.func 27) [] [])) [(.t 11)])⟩, ⟨(some 13), none, (.bin .neq (.t 12) (.k (.int .i64 ((0 : Nat) : Int))))⟩] [5, 6, 7, 13]) (.cond (.t 13) (.seq (.reg [⟨(some 2), none, (.mov (.k (.bool false)))⟩] [2]) .ret) .skip)))) (.reg [⟨(some 14), none, (.bin .add (.t 7) (.k (.int .i64 ((1 : Nat) : Int))))⟩, ⟨(some 7), none, (.mov (.t 14))⟩] [5, 6, 7]))))))) (.seq (.reg [⟨(some 2), none, (.mov (.k (.bool true)))⟩] [2]) .ret)))
def rs56 : List RV := [(.t 2)]
theorem co56 : compFn Go.Proofs.Tryd.prog Go.Proofs.Tryd.f56 pl56 = some (ac56, rs56) := by kernel_rfl
theorem enter56 {args : List AV} {H : AHeap} {Q : AV → AHeap → Prop} (hn : args.length ≤ 15) (h : W Go.Proofs.Tryd.prog ac56 (retN rs56 Q) ⟨[], initE args 0, H⟩) : Run Go.Proofs.Tryd.prog 56 args H Q := Run_fn2 mixed Go.Proofs.Tryd.func56 (by kernel_rfl) co56 (n := 15) (by kernel_rfl) hn h
def ac57 : ACode := (.seq (.reg [⟨(some 2), none, (.box 28 0 (.t 0))⟩, ⟨(some 3), none, (.box 28 0 (.t 1))⟩, ⟨(some 4), none, (.mov (.k (.int .i64 ((0 : Nat) : Int))))⟩] [2, 3]) (.seq (.block 0 (.seq (.reg [⟨(some 6), none, (.fldA 0 (.t 2))⟩, ⟨(some 7), none, (.load none (.t 6))⟩, ⟨(some 8), none, (.mov (.t 7))⟩, ⟨(some 9), (some (8, true)), (.fldA 0 (.t 3))⟩, ⟨(some 10), (some (8, true)), (.load none (.t 9))⟩, ⟨(some 11), none, (.pick (.t 8) (.t 10) (.k (.bool false)))⟩, ⟨(some 5), none, (.mov (.t 11))⟩] [2, 3, 5]) (.cond (.t 5) (.seq (.reg [⟨(some 12), none, (.fldA 1 (.t 3))⟩, ⟨(some 13), none, (.load none (.t 12))⟩, ⟨(some 14), none, (.fldA 1 (.t 2))⟩, ⟨(some 15), none, (.load none (.t 14))⟩, ⟨(some 16), none, (.call (.k (.fn (.func 148) [] [])) [(.t 13), (.t 15)])⟩, ⟨(some 4), none, (.mov (.t 16))⟩] [4]) .ret) (.seq (.reg [⟨(some 18), none, (.fldA 0 (.t 2))⟩, ⟨(some 19), none, (.load none (.t 18))⟩, ⟨(some 17), none, (.mov (.t 19))⟩] [2, 3, 17]) (.cond (.t 17) (.seq (.reg [⟨(some 4), none, (.mov (.k (.int .i64 (-1))))⟩] [4]) .ret) (.seq (.reg [⟨(some 21), none, (.fldA 0 (.t 3))⟩, ⟨(some 22), none, (.load none (.t 21))⟩, ⟨(some 20), none, (.mov (.t 22))⟩] [2, 3, 20]) (.cond (.t 20) (.seq (.reg [⟨(some 4), none, (.mov (.k (.int .i64 ((1 : Nat) : Int))))⟩] [4]) .ret) .skip))))))) (.seq (.reg [⟨(some 23), none, (.fldA 1 (.t 2))⟩, ⟨(some 24), none, (.load none (.t 23))⟩, ⟨(some 25), none, (.fldA 1 (.t 3))⟩, ⟨(some 26), none, (.load none (.t 25))⟩, ⟨(some 27), none, (.call (.k (.fn (.func 148) [] [])) [(.t 24), (.t 26)])⟩, ⟨(some 4), none, (.mov (.t 27))⟩] [4]) .ret)))
def rs57 : List RV := [(.t 4)]
theorem co57 : compFn Go.Proofs.Tryd.prog Go.Proofs.Tryd.f57 pl57 = some (ac57, rs57) := by kernel_rfl
theorem enter57 {args : List AV} {H : AHeap} {Q : AV → AHeap → Prop} (hn : args.length ≤ 28) (h : W Go.Proofs.Tryd.prog ac57 (retN rs57 Q) ⟨[], initE args 0, H⟩) : Run Go.Proofs.Tryd.prog 57 args H Q := Run_fn2 mixed Go.Proofs.Tryd.func57 (by kernel_rfl) co57 (n := 28) (by kernel_rfl) hn h
def ac58 : ACode := (.seq (.reg [⟨(some 2), none, (.alloc 28 0 [(.bool false), (.seq 0 [] true)])⟩] [0, 2]) (.seq (.reg [⟨(some 4), none, (.mov (.t 0))⟩, ⟨(some 5), none, (.conv .u64 (.t 4))⟩, ⟨(some 3), none, (.mov (.t 5))⟩] [0, 2, 3]) (.seq (.seq (.reg [⟨(some 6), none, (.mov (.t 0))⟩, ⟨(some 7), none, (.bin .lss (.t 6) (.k (.int .i64 ((0 : Nat) : Int))))⟩] [0, 2, 3, 7]) (.cond (.t 7) (.reg [⟨(some 8), none, (.mov (.t 3))⟩, ⟨(some 9), none, (.un .neg (.t 8))⟩, ⟨(some 3), none, (.mov (.t 9))⟩] [0, 2, 3]) .skip)) (.seq (.reg [⟨(some 10), none, (.mov (.t 0))⟩, ⟨(some 11), none, (.bin .lss (.t 10) (.k (.int .i64 ((0 : Nat) : Int))))⟩, ⟨(some 12), none, (.mov (.t 3))⟩, ⟨(some 13), none, (.conv .u32 (.t 12))⟩, ⟨(some 14), none, (.mov (.t 3))⟩, ⟨(some 15), none, (.bin .shr (.t 14) (.k (.int .u64 ((32 : Nat) : Int))))⟩, ⟨(some 16), none, (.conv .u32 (.t 15))⟩, ⟨(some 17), none, (.bsl [(.int .u32 ((0 : Nat) : Int))] 2 1 [(0, (1, (.t 13))), (1, (1, (.t 16)))])⟩, ⟨(some 18), none, (.call (.k (.fn (.func 35) [] [])) [(.t 11), (.t 17)])⟩, ⟨none, none, (.store 2 (.t 2) (.t 18))⟩] [2]) .ret))))
def rs58 : List RV := [(.cell 2 (some 2))]
theorem co58 : compFn Go.Proofs.Tryd.prog Go.Proofs.Tryd.f58 pl58 = some (ac58, rs58) := by kernel_rfl
theorem enter58 {args : List AV} {H : AHeap} {Q : AV → AHeap → Prop} (hn : args.length ≤ 19) (h : W Go.Proofs.Tryd.prog ac58 (retN rs58 Q) ⟨[], initE args 0, H⟩) : Run Go.Proofs.Tryd.prog 58 args H Q := Run_fn2 mixed Go.Proofs.Tryd.func58 (by kernel_rfl) co58 (n := 19) (by kernel_rfl) hn h
def ac86 : ACode := (.seq (.reg [⟨(some 2), none, (.mov (.k (.str ⟨#[]⟩)))⟩] [0]) (.seq (.reg [⟨(some 3), none, (.mov (.k (.seq 0 [] true)))⟩] [0, 3]) (.seq (.seq (.reg [⟨(some 6), none, (.mov (.t 0))⟩, ⟨(some 7), none, (.len false (.t 6))⟩, ⟨(some 8), none, (.mov (.k (.int .i64 ((0 : Nat) : Int))))⟩] [3, 6, 7, 8]) (.block 0 (.loop (.seq (.reg [⟨(some 9), none, (.bin .lss (.t 8) (.t 7))⟩] [3, 6, 7, 8, 9]) (.seq (.cond (.t 9) .skip (.exit 0)) (.seq (.block 1 (.seq (.reg [⟨(some 10), none, (.idxA 2 (.t 6) (.t 8))⟩, ⟨(some 11), none, (.load (some 2) (.t 10))⟩, ⟨(some 5), none, (.alloc 28 0 [(.bool false), (.seq 0 [] true)])⟩, ⟨none, none, (.store 2 (.t 5) (.t 11))⟩] [3, 5, 6, 7, 8]) (.reg [⟨(some 12), none, (.mov (.t 3))⟩, ⟨(some 13), none, (.load (some 2) (.t 5))⟩, ⟨(some 14), none, (.call (.k (.fn (.func 28) [] [])) [(.t 13)])⟩, ⟨(some 15), none, (.bsl [(.str ⟨#[]⟩)] 1 1 [(0, (1, (.t 14)))])⟩, ⟨(some 16), none, (.app 9 1 16 (.t 12) (.t 15))⟩, ⟨(some 3), none, (.mov (.t 16))⟩] [3, 6, 7, 8]))) (.reg [⟨(some 17), none, (.bin .add (.t 8) (.k (.int .i64 ((1 : Nat) : Int))))⟩, ⟨(some 8), none, (.mov (.t 17))⟩] [3, 6, 7, 8]))))))) (.seq (.reg [⟨(some 18), none, (.mov (.t 3))⟩, ⟨(some 19), none, (.call (.k (.fn (.func 168) [] [])) [(.t 18), (.k (.str ⟨#[32]⟩))])⟩, ⟨(some 20), none, (.bin .add (.k (.str ⟨#[91]⟩)) (.t 19))⟩, ⟨(some 21), none, (.bin .add (.t 20) (.k (.str ⟨#[93]⟩)))⟩, ⟨(some 2), none, (.mov (.t 21))⟩] [2]) .ret))))
def rs86 : List RV := [(.t 2)]
theorem co86 : compFn Go.Proofs.Tryd.prog Go.Proofs.Tryd.f86 pl86 = some (ac86, rs86) := by kernel_rfl
theorem enter86 {args : List AV} {H : AHeap} {Q : AV → AHeap → Prop} (hn : args.length ≤ 22) (h : W Go.Proofs.Tryd.prog ac86 (retN rs86 Q) ⟨[], initE args 0, H⟩) : Run Go.Proofs.Tryd.prog 86 args H Q := Run_fn2 mixed Go.Proofs.Tryd.func86 (by kernel_rfl) co86 (n := 22) (by kernel_rfl) hn h
def ac121 : ACode := (.seq (.reg [⟨(some 2), none, (.box 28 0 (.t 0))⟩, ⟨(some 3), none, (.box 28 0 (.t 1))⟩, ⟨(some 4), none, (.alloc 28 0 [(.bool false), (.seq 0 [] true)])⟩] [2, 3, 4]) (.seq (.seq (.reg [⟨(some 7), none, (.fldA 0 (.t 2))⟩, ⟨(some 8), none, (.load none (.t 7))⟩, ⟨(some 9), none, (.fldA 0 (.t 3))⟩, ⟨(some 10), none, (.load none (.t 9))⟩, ⟨(some 11), none, (.binB .eql (.t 8) (.t 10))⟩] [2, 3, 4, 11]) (.cond (.t 11) (.seq (.draw [⟨(some 12), none, (.fldA 0 (.t 2))⟩, ⟨(some 13), none, (.load none (.t 12))⟩, ⟨(some 14), none, (.fldA 1 (.t 2))⟩, ⟨(some 15), none, (.load none (.t 14))⟩, ⟨(some 16), none, (.fldA 1 (.t 3))⟩, ⟨(some 17), none, (.load none (.t 16))⟩, ⟨(some 18), none, (.call (.k (.fn (.func 186) [] [])) [(.t 15), (.t 17)])⟩] [⟨(some 19), none, (.call (.k (.fn (.func 137) [] [])) [(.t 13), (.t 18)])⟩, ⟨none, none, (.store 2 (.t 4) (.t 19))⟩] [0, 0, 3, 3, 15, 15, 3] [4]) .ret) .skip)) (.seq (.seq (.reg [⟨(some 20), none, (.fldA 1 (.t 2))⟩, ⟨(some 21), none, (.load none (.t 20))⟩, ⟨(some 22), none, (.fldA 1 (.t 3))⟩, ⟨(some 23), none, (.load none (.t 22))⟩, ⟨(some 24), none, (.call (.k (.fn (.func 148) [] [])) [(.t 21), (.t 23)])⟩, ⟨(some 25), none, (.bin .lss (.t 24) (.k (.int .i64 ((0 : Nat) : Int))))⟩] [2, 3, 4, 25]) (.cond (.t 25) (.reg [⟨(some 26), none, (.load (some 2) (.t 3))⟩, ⟨(some 27), none, (.load (some 2) (.t 2))⟩, ⟨none, none, (.store 2 (.t 2) (.t 26))⟩, ⟨none, none, (.store 2 (.t 3) (.t 27))⟩] [2, 3, 4]) .skip)) (.seq (.reg [⟨(some 29), none, (.fldA 1 (.t 2))⟩, ⟨(some 30), none, (.load none (.t 29))⟩, ⟨(some 31), none, (.fldA 1 (.t 3))⟩, ⟨(some 32), none, (.load none (.t 31))⟩, ⟨(some 33), none, (.call (.k (.fn (.func 187) [] [])) [(.t 30), (.t 32)])⟩, ⟨(some 28), none, (.mov (.t 33))⟩, ⟨(some 34), none, (.ext (.t 28) 0)⟩, ⟨(some 35), none, (.ext (.t 28) 1)⟩, ⟨(some 5), none, (.mov (.t 34))⟩, ⟨(some 6), none, (.mov (.t 35))⟩] [2, 4, 5]) (.seq (.reg [⟨(some 36), none, (.fldA 0 (.t 2))⟩, ⟨(some 37), none, (.load none (.t 36))⟩, ⟨(some 38), none, (.mov (.t 5))⟩, ⟨(some 39), none, (.call (.k (.fn (.func 137) [] [])) [(.t 37), (.t 38)])⟩, ⟨none, none, (.store 2 (.t 4) (.t 39))⟩] [4]) .ret)))))
def rs121 : List RV := [(.cell 4 (some 2))]
theorem co121 : compFn Go.Proofs.Tryd.prog Go.Proofs.Tryd.f121 pl121 = some (ac121, rs121) := by kernel_rfl
theorem enter121 {args : List AV} {H : AHeap} {Q : AV → AHeap → Prop} (hn : args.length ≤ 40) (h : W Go.Proofs.Tryd.prog ac121 (retN rs121 Q) ⟨[], initE args 0, H⟩) : Run Go.Proofs.Tryd.prog 121 args H Q := Run_fn2 mixed Go.Proofs.Tryd.func121 (by kernel_rfl) co121 (n := 40) (by kernel_rfl) hn h
def ac132 : ACode := (.seq (.reg [⟨(some 2), none, (.mov (.k .nilF))⟩] [0]) (.seq (.reg [⟨(some 4), none, (.mov (.t 0))⟩, ⟨(some 5), none, (.call (.k (.fn (.func 190) [] [])) [(.t 4)])⟩, ⟨(some 3), none, (.alloc 9 0 [(.str ⟨#[]⟩)])⟩, ⟨none, none, (.store 1 (.t 3) (.t 5))⟩] [3]) (.seq (.reg [⟨(some 6), none, (.mkF (.func 191) [] [(.t 3)])⟩, ⟨(some 2), none, (.mov (.t 6))⟩] [2]) .ret)))
def rs132 : List RV := [(.t 2)]
theorem co132 : compFn Go.Proofs.Tryd.prog Go.Proofs.Tryd.f132 pl132 = some (ac132, rs132) := by kernel_rfl
theorem enter132 {args : List AV} {H : AHeap} {Q : AV → AHeap → Prop} (hn : args.length ≤ 7) (h : W Go.Proofs.Tryd.prog ac132 (retN rs132 Q) ⟨[], initE args 0, H⟩) : Run Go.Proofs.Tryd.prog 132 args H Q := Run_fn2 mixed Go.Proofs.Tryd.func132 (by kernel_rfl) co132 (n := 7) (by kernel_rfl) hn h
def ac137 : ACode := (.seq (.reg [⟨(some 4), none, (.alloc 28 0 [(.bool false), (.seq 0 [] true)])⟩] [0, 1, 4]) (.seq (.reg [⟨(some 5), none, (.mov (.t 0))⟩, ⟨(some 6), none, (.mov (.t 5))⟩, ⟨(some 7), (some (6, true)), (.mov (.t 1))⟩, ⟨(some 8), (some (6, true)), (.len false (.t 7))⟩, ⟨(some 9), (some (6, true)), (.bin .gtr (.t 8) (.k (.int .i64 ((0 : Nat) : Int))))⟩, ⟨(some 10), none, (.pick (.t 6) (.t 9) (.k (.bool false)))⟩, ⟨(some 11), none, (.mov (.t 1))⟩, ⟨(some 12), none, (.build [(.bool false), (.seq 0 [] true)] [(0, (1, (.t 10))), (1, (1, (.t 11)))])⟩, ⟨none, none, (.store 2 (.t 4) (.t 12))⟩] [4]) .ret))
def rs137 : List RV := [(.cell 4 (some 2))]
theorem co137 : compFn Go.Proofs.Tryd.prog Go.Proofs.Tryd.f137 pl137 = some (ac137, rs137) := by kernel_rfl
theorem enter137 {args : List AV} {H : AHeap} {Q : AV → AHeap → Prop} (hn : args.length ≤ 13) (h : W Go.Proofs.Tryd.prog ac137 (retN rs137 Q) ⟨[], initE args 0, H⟩) : Run Go.Proofs.Tryd.prog 137 args H Q := Run_fn2 mixed Go.Proofs.Tryd.func137 (by kernel_rfl) co137 (n := 13) (by kernel_rfl) hn h
def ac138 : ACode := (.seq (.reg [⟨(some 2), none, (.mov (.k (.seq 0 [] true)))⟩] [0]) (.seq (.reg [⟨(some 4), none, (.mov (.t 0))⟩, ⟨(some 5), none, (.call (.k (.fn (.func 197) [] [])) [(.t 4)])⟩, ⟨(some 0), none, (.mov (.t 5))⟩] [0]) (.seq (.reg [⟨(some 6), none, (.mov (.t 0))⟩, ⟨(some 7), none, (.len false (.t 6))⟩, ⟨(some 8), none, (.mks 172 1 4 [(.int .u32 ((0 : Nat) : Int))] (.t 7) (.t 7))⟩, ⟨(some 3), none, (.mov (.t 8))⟩] [0, 3]) (.seq (.reg [⟨(some 9), none, (.mov (.t 3))⟩, ⟨(some 10), none, (.mov (.t 0))⟩, ⟨(some 11), none, (.cpy 1 (.t 9) (.t 10))⟩] [3]) (.seq (.reg [⟨(some 12), none, (.mov (.t 3))⟩, ⟨(some 2), none, (.mov (.t 12))⟩] [2]) .ret)))))
def rs138 : List RV := [(.t 2)]
theorem co138 : compFn Go.Proofs.Tryd.prog Go.Proofs.Tryd.f138 pl138 = some (ac138, rs138) := by kernel_rfl
theorem enter138 {args : List AV} {H : AHeap} {Q : AV → AHeap → Prop} (hn : args.length ≤ 13) (h : W Go.Proofs.Tryd.prog ac138 (retN rs138 Q) ⟨[], initE args 0, H⟩) : Run Go.Proofs.Tryd.prog 138 args H Q := Run_fn2 mixed Go.Proofs.Tryd.func138 (by kernel_rfl) co138 (n := 13) (by kernel_rfl) hn h
def ac140 : ACode := (.seq (.reg [⟨(some 4), none, (.box 32 0 (.t 1))⟩, ⟨(some 5), none, (.box 178 0 (.t 2))⟩, ⟨(some 6), none, (.mov (.k (.seq 0 [] true)))⟩, ⟨(some 7), none, (.mov (.k (.int .i64 ((0 : Nat) : Int))))⟩] [0, 4, 5]) (.seq (.seq (.reg [⟨(some 9), none, (.mov (.t 0))⟩, ⟨(some 10), none, (.len false (.t 9))⟩, ⟨(some 11), none, (.load none (.t 4))⟩, ⟨(some 12), none, (.len false (.t 11))⟩, ⟨(some 13), none, (.bin .neq (.t 10) (.t 12))⟩] [0, 4, 5, 13]) (.cond (.t 13) (.seq (.reg [⟨(some 6), none, (.mov (.k (.seq 0 [] true)))⟩, ⟨(some 7), none, (.mov (.k (.int .i64 ((5 : Nat) : Int))))⟩] [6, 7]) .ret) .skip)) (.seq (.reg [⟨(some 8), none, (.alloc 3 0 [(.int .i64 ((0 : Nat) : Int))])⟩, ⟨none, none, (.store 1 (.t 8) (.k (.int .i64 (-1))))⟩] [0, 4, 5, 8]) (.seq (.reg [⟨(some 14), none, (.mov (.t 0))⟩, ⟨(some 15), none, (.mkF (.func 198) [] [(.t 8), (.t 5), (.t 4)])⟩, ⟨(some 16), none, (.call (.k (.fn (.func 144) [] [])) [(.t 14), (.t 15)])⟩, ⟨(some 6), none, (.mov (.t 16))⟩, ⟨(some 7), none, (.mov (.k (.int .i64 ((0 : Nat) : Int))))⟩] [6, 7]) .ret))))
def rs140 : List RV := [(.t 6), (.t 7)]
theorem co140 : compFn Go.Proofs.Tryd.prog Go.Proofs.Tryd.f140 pl140 = some (ac140, rs140) := by kernel_rfl
theorem enter140 {args : List AV} {H : AHeap} {Q : AV → AHeap → Prop} (hn : args.length ≤ 17) (h : W Go.Proofs.Tryd.prog ac140 (retN rs140 Q) ⟨[], initE args 0, H⟩) : Run Go.Proofs.Tryd.prog 140 args H Q := Run_fn2 mixed Go.Proofs.Tryd.func140 (by kernel_rfl) co140 (n := 17) (by kernel_rfl) hn h
def ac144 : ACode := (.seq (.reg [⟨(some 4), none, (.mov (.k (.seq 0 [] true)))⟩] [0, 1]) (.seq (.reg [⟨(some 5), none, (.mov (.k (.seq 0 [] true)))⟩] [0, 1, 5]) (.seq (.seq (.reg [⟨(some 8), none, (.mov (.t 0))⟩, ⟨(some 9), none, (.len false (.t 8))⟩, ⟨(some 10), none, (.mov (.k (.int .i64 ((0 : Nat) : Int))))⟩] [1, 5, 8, 9, 10]) (.block 0 (.loop (.seq (.reg [⟨(some 11), none, (.bin .lss (.t 10) (.t 9))⟩] [1, 5, 8, 9, 10, 11]) (.seq (.cond (.t 11) .skip (.exit 0)) (.seq (.block 1 (.seq (.reg [⟨(some 12), none, (.idxA 2 (.t 8) (.t 10))⟩, ⟨(some 13), none, (.load (some 2) (.t 12))⟩, ⟨(some 7), none, (.alloc 28 0 [(.bool false), (.seq 0 [] true)])⟩, ⟨none, none, (.store 2 (.t 7) (.t 13))⟩] [1, 5, 7, 8, 9, 10]) (.reg [⟨(some 14), none, (.mov (.t 5))⟩, ⟨(some 15), none, (.mov (.t 1))⟩, ⟨(some 16), none, (.load (some 2) (.t 7))⟩, ⟨(some 17), none, (.call (.t 15) [(.t 16)])⟩, ⟨(some 18), none, (.bsl [(.bool false), (.seq 0 [] true)] 1 2 [(0, (2, (.t 17)))])⟩, ⟨(some 19), none, (.app 28 2 32 (.t 14) (.t 18))⟩, ⟨(some 5), none, (.mov (.t 19))⟩] [1, 5, 8, 9, 10]))) (.reg [⟨(some 20), none, (.bin .add (.t 10) (.k (.int .i64 ((1 : Nat) : Int))))⟩, ⟨(some 10), none, (.mov (.t 20))⟩] [1, 5, 8, 9, 10]))))))) (.seq (.reg [⟨(some 21), none, (.mov (.t 5))⟩, ⟨(some 4), none, (.mov (.t 21))⟩] [4]) .ret))))
def rs144 : List RV := [(.t 4)]
theorem co144 : compFn Go.Proofs.Tryd.prog Go.Proofs.Tryd.f144 pl144 = some (ac144, rs144) := by kernel_rfl
theorem enter144 {args : List AV} {H : AHeap} {Q : AV → AHeap → Prop} (hn : args.length ≤ 22) (h : W Go.Proofs.Tryd.prog ac144 (retN rs144 Q) ⟨[], initE args 0, H⟩) : Run Go.Proofs.Tryd.prog 144 args H Q := Run_fn2 mixed Go.Proofs.Tryd.func144 (by kernel_rfl) co144 (n := 22) (by kernel_rfl) hn h
def ac148 : ACode := (.seq (.reg [⟨(some 4), none, (.mov (.k (.int .i64 ((0 : Nat) : Int))))⟩] [0, 1]) (.seq (.reg [⟨(some 6), none, (.mov (.t 0))⟩, ⟨(some 7), none, (.call (.k (.fn (.func 197) [] [])) [(.t 6)])⟩, ⟨(some 8), none, (.mov (.t 1))⟩, ⟨(some 9), none, (.call (.k (.fn (.func 197) [] [])) [(.t 8)])⟩, ⟨(some 0), none, (.mov (.t 7))⟩, ⟨(some 1), none, (.mov (.t 9))⟩] [0, 1]) (.seq (.block 0 (.seq (.reg [⟨(some 11), none, (.mov (.t 0))⟩, ⟨(some 12), none, (.len false (.t 11))⟩, ⟨(some 13), none, (.mov (.t 1))⟩, ⟨(some 14), none, (.len false (.t 13))⟩, ⟨(some 15), none, (.bin .lss (.t 12) (.t 14))⟩, ⟨(some 10), none, (.mov (.t 15))⟩] [0, 1, 10]) (.cond (.t 10) (.seq (.reg [⟨(some 4), none, (.mov (.k (.int .i64 (-1))))⟩] [4]) .ret) (.seq (.reg [⟨(some 17), none, (.mov (.t 0))⟩, ⟨(some 18), none, (.len false (.t 17))⟩, ⟨(some 19), none, (.mov (.t 1))⟩, ⟨(some 20), none, (.len false (.t 19))⟩, ⟨(some 21), none, (.bin .gtr (.t 18) (.t 20))⟩, ⟨(some 16), none, (.mov (.t 21))⟩] [0, 1, 16]) (.cond (.t 16) (.seq (.reg [⟨(some 4), none, (.mov (.k (.int .i64 ((1 : Nat) : Int))))⟩] [4]) .ret) .skip))))) (.seq (.seq (.reg [⟨(some 22), none, (.mov (.t 0))⟩, ⟨(some 23), none, (.len false (.t 22))⟩, ⟨(some 24), none, (.bin .sub (.t 23) (.k (.int .i64 ((1 : Nat) : Int))))⟩, ⟨(some 5), none, (.mov (.t 24))⟩] [0, 1, 5]) (.block 1 (.loop (.seq (.seq (.reg [⟨(some 25), none, (.mov (.t 5))⟩, ⟨(some 26), none, (.bin .geq (.t 25) (.k (.int .i64 ((0 : Nat) : Int))))⟩] [0, 1, 5, 26]) (.cond (.t 26) .skip (.exit 1))) (.seq (.block 2 (.block 3 (.seq (.draw [⟨(some 30), none, (.mov (.t 0))⟩, ⟨(some 31), none, (.mov (.t 5))⟩, ⟨(some 32), none, (.idxA 1 (.t 30) (.t 31))⟩, ⟨(some 33), none, (.load none (.t 32))⟩, ⟨(some 34), none, (.mov (.t 1))⟩, ⟨(some 35), none, (.mov (.t 5))⟩, ⟨(some 36), none, (.idxA 1 (.t 34) (.t 35))⟩, ⟨(some 37), none, (.load none (.t 36))⟩] [⟨(some 38), none, (.bin .lss (.t 33) (.t 37))⟩, ⟨(some 29), none, (.mov (.t 38))⟩] [0, 1, 0, 0, 15, 31, 15, 15] [0, 1, 5, 29]) (.cond (.t 29) (.seq (.reg [⟨(some 4), none, (.mov (.k (.int .i64 (-1))))⟩] [4]) .ret) (.seq (.draw [⟨(some 40), none, (.mov (.t 0))⟩, ⟨(some 41), none, (.mov (.t 5))⟩, ⟨(some 42), none, (.idxA 1 (.t 40) (.t 41))⟩, ⟨(some 43), none, (.load none (.t 42))⟩, ⟨(some 44), none, (.mov (.t 1))⟩, ⟨(some 45), none, (.mov (.t 5))⟩, ⟨(some 46), none, (.idxA 1 (.t 44) (.t 45))⟩, ⟨(some 47), none, (.load none (.t 46))⟩] [⟨(some 48), none, (.bin .gtr (.t 43) (.t 47))⟩, ⟨(some 39), none, (.mov (.t 48))⟩] [0, 1, 0, 0, 15, 31, 15, 15] [0, 1, 5, 39]) (.cond (.t 39) (.seq (.reg [⟨(some 4), none, (.mov (.k (.int .i64 ((1 : Nat) : Int))))⟩] [4]) .ret) .skip)))))) (.reg [⟨(some 27), none, (.mov (.t 5))⟩, ⟨(some 28), none, (.bin .sub (.t 27) (.k (.int .i64 ((1 : Nat) : Int))))⟩, ⟨(some 5), none, (.mov (.t 28))⟩] [0, 1, 5])))))) (.seq (.reg [⟨(some 4), none, (.mov (.k (.int .i64 ((0 : Nat) : Int))))⟩] [4]) .ret)))))
def rs148 : List RV := [(.t 4)]
theorem co148 : compFn Go.Proofs.Tryd.prog Go.Proofs.Tryd.f148 pl148 = some (ac148, rs148) := by kernel_rfl
theorem enter148 {args : List AV} {H : AHeap} {Q : AV → AHeap → Prop} (hn : args.length ≤ 49) (h : W Go.Proofs.Tryd.prog ac148 (retN rs148 Q) ⟨[], initE args 0, H⟩) : Run Go.Proofs.Tryd.prog 148 args H Q := Run_fn2 mixed Go.Proofs.Tryd.func148 (by kernel_rfl) co148 (n := 49) (by kernel_rfl) hn h
def ac168 : ACode := (.seq (.reg [⟨(some 4), none, (.mov (.k (.str ⟨#[]⟩)))⟩] [0, 1]) (.seq (.seq (.reg [⟨(some 11), none, (.mov (.t 0))⟩, ⟨(some 12), none, (.len false (.t 11))⟩] [0, 1, 12]) (.block 0 (.seq (.reg [⟨(some 14), none, (.bin .eql (.t 12) (.k (.int .i64 ((0 : Nat) : Int))))⟩, ⟨(some 13), none, (.mov (.t 14))⟩] [0, 1, 12, 13]) (.cond (.t 13) (.seq (.reg [⟨(some 4), none, (.mov (.k (.str ⟨#[]⟩)))⟩] [4]) .ret) (.seq (.reg [⟨(some 16), none, (.bin .eql (.t 12) (.k (.int .i64 ((1 : Nat) : Int))))⟩, ⟨(some 15), none, (.mov (.t 16))⟩] [0, 1, 15]) (.cond (.t 15) (.seq (.reg [⟨(some 17), none, (.mov (.t 0))⟩, ⟨(some 18), none, (.idxA 1 (.t 17) (.k (.int .i64 ((0 : Nat) : Int))))⟩, ⟨(some 19), none, (.load none (.t 18))⟩, ⟨(some 4), none, (.mov (.t 19))⟩] [4]) .ret) .skip)))))) (.seq (.reg [⟨(some 5), none, (.mov (.k (.int .i64 ((0 : Nat) : Int))))⟩] [0, 1, 5]) (.seq (.seq (.reg [⟨(some 20), none, (.mov (.t 1))⟩, ⟨(some 21), none, (.len true (.t 20))⟩, ⟨(some 22), none, (.bin .gtr (.t 21) (.k (.int .i64 ((0 : Nat) : Int))))⟩] [0, 1, 5, 22]) (.cond (.t 22) (.seq (.seq (.reg [⟨(some 23), none, (.mov (.t 1))⟩, ⟨(some 24), none, (.len true (.t 23))⟩, ⟨(some 25), none, (.mov (.t 0))⟩, ⟨(some 26), none, (.len false (.t 25))⟩, ⟨(some 27), none, (.bin .sub (.t 26) (.k (.int .i64 ((1 : Nat) : Int))))⟩, ⟨(some 28), none, (.bin .quo (.k (.int .i64 ((9223372036854775807 : Nat) : Int))) (.t 27))⟩, ⟨(some 29), none, (.bin .geq (.t 24) (.t 28))⟩] [0, 1, 5, 29]) (.cond (.t 29) .refuse .skip)) (.reg [⟨(some 31), none, (.mov (.t 5))⟩, ⟨(some 32), none, (.mov (.t 1))⟩, ⟨(some 33), none, (.len true (.t 32))⟩, ⟨(some 34), none, (.mov (.t 0))⟩, ⟨(some 35), none, (.len false (.t 34))⟩, ⟨(some 36), none, (.bin .sub (.t 35) (.k (.int .i64 ((1 : Nat) : Int))))⟩, ⟨(some 37), none, (.bin .mul (.t 33) (.t 36))⟩, ⟨(some 38), none, (.bin .add (.t 31) (.t 37))⟩, ⟨(some 5), none, (.mov (.t 38))⟩] [0, 1, 5])) .skip)) (.seq (.seq (.reg [⟨(some 39), none, (.mov (.t 0))⟩, ⟨(some 40), none, (.len false (.t 39))⟩, ⟨(some 41), none, (.mov (.k (.int .i64 ((0 : Nat) : Int))))⟩] [0, 1, 5, 39, 40, 41]) (.block 1 (.loop (.seq (.reg [⟨(some 42), none, (.bin .lss (.t 41) (.t 40))⟩] [0, 1, 5, 39, 40, 41, 42]) (.seq (.cond (.t 42) .skip (.exit 1)) (.seq (.block 2 (.seq (.reg [⟨(some 43), none, (.idxA 1 (.t 39) (.t 41))⟩, ⟨(some 44), none, (.load none (.t 43))⟩, ⟨(some 7), none, (.mov (.t 44))⟩] [0, 1, 5, 7, 39, 40, 41]) (.seq (.seq (.reg [⟨(some 45), none, (.mov (.t 7))⟩, ⟨(some 46), none, (.len true (.t 45))⟩, ⟨(some 47), none, (.mov (.t 5))⟩, ⟨(some 48), none, (.bin .sub (.k (.int .i64 ((9223372036854775807 : Nat) : Int))) (.t 47))⟩, ⟨(some 49), none, (.bin .gtr (.t 46) (.t 48))⟩] [0, 1, 5, 7, 39, 40, 41, 49]) (.cond (.t 49) .refuse .skip)) (.reg [⟨(some 51), none, (.mov (.t 5))⟩, ⟨(some 52), none, (.mov (.t 7))⟩, ⟨(some 53), none, (.len true (.t 52))⟩, ⟨(some 54), none, (.bin .add (.t 51) (.t 53))⟩, ⟨(some 5), none, (.mov (.t 54))⟩] [0, 1, 5, 39, 40, 41])))) (.reg [⟨(some 55), none, (.bin .add (.t 41) (.k (.int .i64 ((1 : Nat) : Int))))⟩, ⟨(some 41), none, (.mov (.t 55))⟩] [0, 1, 5, 39, 40, 41]))))))) (.seq (.reg [⟨(some 8), none, (.alloc 234 0 [.nilP, (.seq 0 [] true)])⟩] [0, 1, 5, 8]) (.seq (.reg [⟨(some 56), none, (.mov (.t 5))⟩, ⟨(some 57), none, (.call (.k (.fn (.func 203) [] [])) [(.t 8), (.t 56)])⟩] [0, 1, 8]) (.seq (.reg [⟨(some 58), none, (.mov (.t 0))⟩, ⟨(some 59), none, (.idxA 1 (.t 58) (.k (.int .i64 ((0 : Nat) : Int))))⟩, ⟨(some 60), none, (.load none (.t 59))⟩, ⟨(some 61), none, (.call (.k (.fn (.func 204) [] [])) [(.t 8), (.t 60)])⟩] [0, 1, 8]) (.seq (.seq (.reg [⟨(some 62), none, (.mov (.t 0))⟩, ⟨(some 63), none, (.slc 1 (.t 62) (some (.k (.int .i64 ((1 : Nat) : Int)))) none none)⟩, ⟨(some 64), none, (.len false (.t 63))⟩, ⟨(some 65), none, (.mov (.k (.int .i64 ((0 : Nat) : Int))))⟩] [1, 8, 63, 64, 65]) (.block 3 (.loop (.seq (.reg [⟨(some 66), none, (.bin .lss (.t 65) (.t 64))⟩] [1, 8, 63, 64, 65, 66]) (.seq (.cond (.t 66) .skip (.exit 3)) (.seq (.block 4 (.seq (.reg [⟨(some 67), none, (.idxA 1 (.t 63) (.t 65))⟩, ⟨(some 68), none, (.load none (.t 67))⟩, ⟨(some 10), none, (.mov (.t 68))⟩] [1, 8, 10, 63, 64, 65]) (.seq (.reg [⟨(some 69), none, (.mov (.t 1))⟩, ⟨(some 70), none, (.call (.k (.fn (.func 204) [] [])) [(.t 8), (.t 69)])⟩] [1, 8, 10, 63, 64, 65]) (.reg [⟨(some 71), none, (.mov (.t 10))⟩, ⟨(some 72), none, (.call (.k (.fn (.func 204) [] [])) [(.t 8), (.t 71)])⟩] [1, 8, 63, 64, 65])))) (.reg [⟨(some 73), none, (.bin .add (.t 65) (.k (.int .i64 ((1 : Nat) : Int))))⟩, ⟨(some 65), none, (.mov (.t 73))⟩] [1, 8, 63, 64, 65]))))))) (.seq (.reg [⟨(some 74), none, (.call (.k (.fn (.func 205) [] [])) [(.t 8)])⟩, ⟨(some 4), none, (.mov (.t 74))⟩] [4]) .ret))))))))))
def rs168 : List RV := [(.t 4)]
theorem co168 : compFn Go.Proofs.Tryd.prog Go.Proofs.Tryd.f168 pl168 = some (ac168, rs168) := by kernel_rfl
theorem enter168 {args : List AV} {H : AHeap} {Q : AV → AHeap → Prop} (hn : args.length ≤ 75) (h : W Go.Proofs.Tryd.prog ac168 (retN rs168 Q) ⟨[], initE args 0, H⟩) : Run Go.Proofs.Tryd.prog 168 args H Q := Run_fn2 mixed Go.Proofs.Tryd.func168 (by kernel_rfl) co168 (n := 75) (by kernel_rfl) hn h
def ac186 : ACode := (.seq (.reg [⟨(some 4), none, (.mov (.k (.seq 0 [] true)))⟩] [0, 1]) (.seq (.seq (.reg [⟨(some 9), none, (.mov (.t 0))⟩, ⟨(some 10), none, (.len false (.t 9))⟩, ⟨(some 11), none, (.mov (.t 1))⟩, ⟨(some 12), none, (.len false (.t 11))⟩, ⟨(some 13), none, (.bin .lss (.t 10) (.t 12))⟩] [0, 1, 13]) (.cond (.t 13) (.reg [⟨(some 14), none, (.mov (.t 1))⟩, ⟨(some 15), none, (.mov (.t 0))⟩, ⟨(some 0), none, (.mov (.t 14))⟩, ⟨(some 1), none, (.mov (.t 15))⟩] [0, 1]) .skip)) (.seq (.reg [⟨(some 16), none, (.mov (.t 0))⟩, ⟨(some 17), none, (.len false (.t 16))⟩, ⟨(some 18), none, (.bin .add (.t 17) (.k (.int .i64 ((1 : Nat) : Int))))⟩, ⟨(some 19), none, (.mks 172 1 4 [(.int .u32 ((0 : Nat) : Int))] (.t 18) (.t 18))⟩, ⟨(some 5), none, (.mov (.t 19))⟩] [0, 1, 5]) (.seq (.reg [⟨(some 6), none, (.mov (.k (.int .u64 ((0 : Nat) : Int))))⟩] [0, 1, 5, 6]) (.seq (.seq (.reg [⟨(some 20), none, (.mov (.t 0))⟩, ⟨(some 21), none, (.len false (.t 20))⟩, ⟨(some 22), none, (.mov (.k (.int .i64 ((0 : Nat) : Int))))⟩] [0, 1, 5, 6, 20, 21, 22]) (.block 0 (.loop (.seq (.reg [⟨(some 23), none, (.bin .lss (.t 22) (.t 21))⟩] [0, 1, 5, 6, 20, 21, 22, 23]) (.seq (.cond (.t 23) .skip (.exit 0)) (.seq (.block 1 (.seq (.reg [⟨(some 24), none, (.mov (.t 22))⟩, ⟨(some 25), none, (.idxA 1 (.t 20) (.t 22))⟩, ⟨(some 26), none, (.load none (.t 25))⟩, ⟨(some 7), none, (.mov (.t 24))⟩, ⟨(some 8), none, (.mov (.t 26))⟩] [0, 1, 5, 6, 7, 8, 20, 21, 22]) (.seq (.reg [⟨(some 27), none, (.mov (.t 6))⟩, ⟨(some 28), none, (.mov (.t 8))⟩, ⟨(some 29), none, (.conv .u64 (.t 28))⟩, ⟨(some 30), none, (.bin .add (.t 27) (.t 29))⟩, ⟨(some 6), none, (.mov (.t 30))⟩] [0, 1, 5, 6, 7, 20, 21, 22]) (.seq (.seq (.reg [⟨(some 31), none, (.mov (.t 7))⟩, ⟨(some 32), none, (.mov (.t 1))⟩, ⟨(some 33), none, (.len false (.t 32))⟩, ⟨(some 34), none, (.bin .lss (.t 31) (.t 33))⟩] [0, 1, 5, 6, 7, 20, 21, 22, 34]) (.cond (.t 34) (.reg [⟨(some 35), none, (.mov (.t 6))⟩, ⟨(some 36), none, (.mov (.t 1))⟩, ⟨(some 37), none, (.mov (.t 7))⟩, ⟨(some 38), none, (.idxA 1 (.t 36) (.t 37))⟩, ⟨(some 39), none, (.load none (.t 38))⟩, ⟨(some 40), none, (.conv .u64 (.t 39))⟩, ⟨(some 41), none, (.bin .add (.t 35) (.t 40))⟩, ⟨(some 6), none, (.mov (.t 41))⟩] [0, 1, 5, 6, 7, 20, 21, 22]) .skip)) (.seq (.reg [⟨(some 42), none, (.mov (.t 5))⟩, ⟨(some 43), none, (.mov (.t 7))⟩, ⟨(some 44), none, (.mov (.t 6))⟩, ⟨(some 45), none, (.conv .u32 (.t 44))⟩, ⟨(some 46), none, (.idxA 1 (.t 42) (.t 43))⟩, ⟨none, none, (.store 1 (.t 46) (.t 45))⟩] [0, 1, 5, 6, 20, 21, 22]) (.reg [⟨(some 47), none, (.mov (.t 6))⟩, ⟨(some 48), none, (.bin .shr (.t 47) (.k (.int .u64 ((32 : Nat) : Int))))⟩, ⟨(some 6), none, (.mov (.t 48))⟩] [0, 1, 5, 6, 20, 21, 22])))))) (.reg [⟨(some 49), none, (.bin .add (.t 22) (.k (.int .i64 ((1 : Nat) : Int))))⟩, ⟨(some 22), none, (.mov (.t 49))⟩] [0, 1, 5, 6, 20, 21, 22]))))))) (.seq (.reg [⟨(some 50), none, (.mov (.t 5))⟩, ⟨(some 51), none, (.mov (.t 0))⟩, ⟨(some 52), none, (.len false (.t 51))⟩, ⟨(some 53), none, (.mov (.t 6))⟩, ⟨(some 54), none, (.conv .u32 (.t 53))⟩, ⟨(some 55), none, (.idxA 1 (.t 50) (.t 52))⟩, ⟨none, none, (.store 1 (.t 55) (.t 54))⟩] [5]) (.seq (.reg [⟨(some 56), none, (.mov (.t 5))⟩, ⟨(some 57), none, (.call (.k (.fn (.func 197) [] [])) [(.t 56)])⟩, ⟨(some 4), none, (.mov (.t 57))⟩] [4]) .ret)))))))
def rs186 : List RV := [(.t 4)]
theorem co186 : compFn Go.Proofs.Tryd.prog Go.Proofs.Tryd.f186 pl186 = some (ac186, rs186) := by kernel_rfl
theorem enter186 {args : List AV} {H : AHeap} {Q : AV → AHeap → Prop} (hn : args.length ≤ 58) (h : W Go.Proofs.Tryd.prog ac186 (retN rs186 Q) ⟨[], initE args 0, H⟩) : Run Go.Proofs.Tryd.prog 186 args H Q := Run_fn2 mixed Go.Proofs.Tryd.func186 (by kernel_rfl) co186 (n := 58) (by kernel_rfl) hn h
def ac187 : ACode := (.seq (.reg [⟨(some 4), none, (.mov (.k (.seq 0 [] true)))⟩, ⟨(some 5), none, (.mov (.k (.int .i64 ((0 : Nat) : Int))))⟩] [0, 1]) (.seq (.seq (.reg [⟨(some 12), none, (.mov (.t 0))⟩, ⟨(some 13), none, (.mov (.t 1))⟩, ⟨(some 14), none, (.call (.k (.fn (.func 148) [] [])) [(.t 12), (.t 13)])⟩, ⟨(some 15), none, (.bin .lss (.t 14) (.k (.int .i64 ((0 : Nat) : Int))))⟩] [0, 1, 15]) (.cond (.t 15) (.seq (.reg [⟨(some 4), none, (.mov (.k (.seq 0 [] true)))⟩, ⟨(some 5), none, (.mov (.k (.int .i64 ((5 : Nat) : Int))))⟩] [4, 5]) .ret) .skip)) (.seq (.reg [⟨(some 16), none, (.mov (.t 0))⟩, ⟨(some 17), none, (.len false (.t 16))⟩, ⟨(some 18), none, (.mks 172 1 4 [(.int .u32 ((0 : Nat) : Int))] (.t 17) (.t 17))⟩, ⟨(some 6), none, (.mov (.t 18))⟩] [0, 1, 6]) (.seq (.reg [⟨(some 7), none, (.mov (.k (.int .u64 ((0 : Nat) : Int))))⟩] [0, 1, 6, 7]) (.seq (.seq (.reg [⟨(some 19), none, (.mov (.t 0))⟩, ⟨(some 20), none, (.len false (.t 19))⟩, ⟨(some 21), none, (.mov (.k (.int .i64 ((0 : Nat) : Int))))⟩] [1, 6, 7, 19, 20, 21]) (.block 0 (.loop (.seq (.reg [⟨(some 22), none, (.bin .lss (.t 21) (.t 20))⟩] [1, 6, 7, 19, 20, 21, 22]) (.seq (.cond (.t 22) .skip (.exit 0)) (.seq (.block 1 (.seq (.reg [⟨(some 23), none, (.mov (.t 21))⟩, ⟨(some 24), none, (.idxA 1 (.t 19) (.t 21))⟩, ⟨(some 25), none, (.load none (.t 24))⟩, ⟨(some 8), none, (.mov (.t 23))⟩, ⟨(some 9), none, (.mov (.t 25))⟩] [1, 6, 7, 8, 9, 19, 20, 21]) (.seq (.reg [⟨(some 26), none, (.mov (.t 7))⟩, ⟨(some 10), none, (.mov (.t 26))⟩] [1, 6, 8, 9, 10, 19, 20, 21]) (.seq (.seq (.reg [⟨(some 27), none, (.mov (.t 8))⟩, ⟨(some 28), none, (.mov (.t 1))⟩, ⟨(some 29), none, (.len false (.t 28))⟩, ⟨(some 30), none, (.bin .lss (.t 27) (.t 29))⟩] [1, 6, 8, 9, 10, 19, 20, 21, 30]) (.cond (.t 30) (.reg [⟨(some 31), none, (.mov (.t 10))⟩, ⟨(some 32), none, (.mov (.t 1))⟩, ⟨(some 33), none, (.mov (.t 8))⟩, ⟨(some 34), none, (.idxA 1 (.t 32) (.t 33))⟩, ⟨(some 35), none, (.load none (.t 34))⟩, ⟨(some 36), none, (.conv .u64 (.t 35))⟩, ⟨(some 37), none, (.bin .add (.t 31) (.t 36))⟩, ⟨(some 10), none, (.mov (.t 37))⟩] [1, 6, 8, 9, 10, 19, 20, 21]) .skip)) (.seq (.reg [⟨(some 38), none, (.mov (.t 9))⟩, ⟨(some 39), none, (.conv .u64 (.t 38))⟩, ⟨(some 40), none, (.mov (.t 10))⟩, ⟨(some 41), none, (.bin .sub (.t 39) (.t 40))⟩, ⟨(some 11), none, (.mov (.t 41))⟩] [1, 6, 8, 11, 19, 20, 21]) (.seq (.reg [⟨(some 42), none, (.mov (.t 6))⟩, ⟨(some 43), none, (.mov (.t 8))⟩, ⟨(some 44), none, (.mov (.t 11))⟩, ⟨(some 45), none, (.conv .u32 (.t 44))⟩, ⟨(some 46), none, (.idxA 1 (.t 42) (.t 43))⟩, ⟨none, none, (.store 1 (.t 46) (.t 45))⟩] [1, 6, 11, 19, 20, 21]) (.reg [⟨(some 47), none, (.mov (.t 11))⟩, ⟨(some 48), none, (.bin .shr (.t 47) (.k (.int .u64 ((32 : Nat) : Int))))⟩, ⟨(some 49), none, (.bin .and (.t 48) (.k (.int .u64 ((1 : Nat) : Int))))⟩, ⟨(some 7), none, (.mov (.t 49))⟩] [1, 6, 7, 19, 20, 21]))))))) (.reg [⟨(some 50), none, (.bin .add (.t 21) (.k (.int .i64 ((1 : Nat) : Int))))⟩, ⟨(some 21), none, (.mov (.t 50))⟩] [1, 6, 7, 19, 20, 21]))))))) (.seq (.reg [⟨(some 51), none, (.mov (.t 6))⟩, ⟨(some 52), none, (.call (.k (.fn (.func 197) [] [])) [(.t 51)])⟩, ⟨(some 4), none, (.mov (.t 52))⟩, ⟨(some 5), none, (.mov (.k (.int .i64 ((0 : Nat) : Int))))⟩] [4, 5]) .ret))))))
def rs187 : List RV := [(.t 4), (.t 5)]
theorem co187 : compFn Go.Proofs.Tryd.prog Go.Proofs.Tryd.f187 pl187 = some (ac187, rs187) := by kernel_rfl
theorem enter187 {args : List AV} {H : AHeap} {Q : AV → AHeap → Prop} (hn : args.length ≤ 53) (h : W Go.Proofs.Tryd.prog ac187 (retN rs187 Q) ⟨[], initE args 0, H⟩) : Run Go.Proofs.Tryd.prog 187 args H Q := Run_fn2 mixed Go.Proofs.Tryd.func187 (by kernel_rfl) co187 (n := 53) (by kernel_rfl) hn h
def ac190 : ACode := (.seq (.reg [⟨(some 2), none, (.mov (.k (.str ⟨#[]⟩)))⟩] [0]) (.seq (.reg [⟨(some 3), none, (.mov (.k (.seq 0 [] true)))⟩] [0, 3]) (.seq (.seq (.reg [⟨(some 14), none, (.mov (.t 0))⟩, ⟨(some 15), none, (.call (.k (.fn (.func 138) [] [])) [(.t 14)])⟩, ⟨(some 4), none, (.mov (.t 15))⟩] [3, 4]) (.block 0 (.loop (.seq (.seq (.reg [⟨(some 16), none, (.mov (.t 4))⟩, ⟨(some 17), none, (.len false (.t 16))⟩, ⟨(some 18), none, (.bin .gtr (.t 17) (.k (.int .i64 ((0 : Nat) : Int))))⟩] [3, 4, 18]) (.cond (.t 18) .skip (.exit 0))) (.block 1 (.seq (.reg [⟨(some 20), none, (.mov (.t 4))⟩, ⟨(some 21), none, (.call (.k (.fn (.func 212) [] [])) [(.t 20), (.k (.int .u32 ((1000000000 : Nat) : Int)))])⟩, ⟨(some 19), none, (.mov (.t 21))⟩, ⟨(some 22), none, (.ext (.t 19) 0)⟩, ⟨(some 23), none, (.ext (.t 19) 1)⟩, ⟨(some 24), none, (.ext (.t 19) 2)⟩, ⟨(some 5), none, (.mov (.t 22))⟩, ⟨(some 6), none, (.mov (.t 23))⟩, ⟨(some 7), none, (.mov (.t 24))⟩] [3, 5, 6]) (.seq (.reg [⟨(some 25), none, (.mov (.t 3))⟩, ⟨(some 26), none, (.mov (.t 6))⟩, ⟨(some 27), none, (.bsl [(.int .u32 ((0 : Nat) : Int))] 1 1 [(0, (1, (.t 26)))])⟩, ⟨(some 28), none, (.app 172 1 4 (.t 25) (.t 27))⟩, ⟨(some 3), none, (.mov (.t 28))⟩] [3, 5]) (.reg [⟨(some 29), none, (.mov (.t 5))⟩, ⟨(some 4), none, (.mov (.t 29))⟩] [3, 4])))))))) (.seq (.seq (.reg [⟨(some 30), none, (.mov (.t 3))⟩, ⟨(some 31), none, (.len false (.t 30))⟩, ⟨(some 32), none, (.bin .eql (.t 31) (.k (.int .i64 ((0 : Nat) : Int))))⟩] [3, 32]) (.cond (.t 32) (.seq (.reg [⟨(some 2), none, (.mov (.k (.str ⟨#[48]⟩)))⟩] [2]) .ret) .skip)) (.seq (.reg [⟨(some 8), none, (.alloc 234 0 [.nilP, (.seq 0 [] true)])⟩] [3, 8]) (.seq (.seq (.reg [⟨(some 33), none, (.mov (.t 3))⟩, ⟨(some 34), none, (.len false (.t 33))⟩, ⟨(some 35), none, (.bin .sub (.t 34) (.k (.int .i64 ((1 : Nat) : Int))))⟩, ⟨(some 9), none, (.mov (.t 35))⟩] [3, 8, 9]) (.block 2 (.loop (.seq (.seq (.reg [⟨(some 36), none, (.mov (.t 9))⟩, ⟨(some 37), none, (.bin .geq (.t 36) (.k (.int .i64 ((0 : Nat) : Int))))⟩] [3, 8, 9, 37]) (.cond (.t 37) .skip (.exit 2))) (.seq (.block 3 (.seq (.reg [⟨(some 10), none, (.alloc 248 1 [(.int .u8 ((0 : Nat) : Int)), (.int .u8 ((0 : Nat) : Int)), (.int .u8 ((0 : Nat) : Int)), (.int .u8 ((0 : Nat) : Int)), (.int .u8 ((0 : Nat) : Int)), (.int .u8 ((0 : Nat) : Int)), (.int .u8 ((0 : Nat) : Int)), (.int .u8 ((0 : Nat) : Int)), (.int .u8 ((0 : Nat) : Int))])⟩] [3, 8, 9, 10]) (.seq (.reg [⟨(some 40), none, (.mov (.t 3))⟩, ⟨(some 41), none, (.mov (.t 9))⟩, ⟨(some 42), none, (.idxA 1 (.t 40) (.t 41))⟩, ⟨(some 43), none, (.load none (.t 42))⟩, ⟨(some 11), none, (.mov (.t 43))⟩] [3, 8, 9, 10, 11]) (.seq (.seq (.reg [⟨(some 12), none, (.mov (.k (.int .i64 ((8 : Nat) : Int))))⟩] [3, 8, 9, 10, 11, 12]) (.block 4 (.loop (.seq (.seq (.reg [⟨(some 44), none, (.mov (.t 12))⟩, ⟨(some 45), none, (.bin .geq (.t 44) (.k (.int .i64 ((0 : Nat) : Int))))⟩] [3, 8, 9, 10, 11, 12, 45]) (.cond (.t 45) .skip (.exit 4))) (.seq (.block 5 (.seq (.reg [⟨(some 48), none, (.mov (.t 12))⟩, ⟨(some 49), none, (.mov (.t 11))⟩, ⟨(some 50), none, (.bin .rem (.t 49) (.k (.int .u32 ((10 : Nat) : Int))))⟩, ⟨(some 51), none, (.bin .add (.k (.int .u32 ((48 : Nat) : Int))) (.t 50))⟩, ⟨(some 52), none, (.conv .u8 (.t 51))⟩, ⟨(some 53), none, (.prim (.idxP 9 1) [(.t 10), (.t 48)])⟩, ⟨none, none, (.store 1 (.t 53) (.t 52))⟩] [3, 8, 9, 10, 11, 12]) (.reg [⟨(some 54), none, (.mov (.t 11))⟩, ⟨(some 55), none, (.bin .quo (.t 54) (.k (.int .u32 ((10 : Nat) : Int))))⟩, ⟨(some 11), none, (.mov (.t 55))⟩] [3, 8, 9, 10, 11, 12]))) (.reg [⟨(some 46), none, (.mov (.t 12))⟩, ⟨(some 47), none, (.bin .sub (.t 46) (.k (.int .i64 ((1 : Nat) : Int))))⟩, ⟨(some 12), none, (.mov (.t 47))⟩] [3, 8, 9, 10, 11, 12])))))) (.seq (.reg [⟨(some 56), none, (.prim (.slcP 9 1) [(.t 10)])⟩, ⟨(some 57), none, (.prim .b2s [(.t 56)])⟩, ⟨(some 13), none, (.mov (.t 57))⟩] [3, 8, 9, 13]) (.seq (.seq (.reg [⟨(some 58), none, (.mov (.t 9))⟩, ⟨(some 59), none, (.mov (.t 3))⟩, ⟨(some 60), none, (.len false (.t 59))⟩, ⟨(some 61), none, (.bin .sub (.t 60) (.k (.int .i64 ((1 : Nat) : Int))))⟩, ⟨(some 62), none, (.bin .eql (.t 58) (.t 61))⟩] [3, 8, 9, 13, 62]) (.cond (.t 62) (.reg [⟨(some 63), none, (.mov (.t 13))⟩, ⟨(some 64), none, (.call (.k (.fn (.func 213) [] [])) [(.t 63), (.k (.str ⟨#[48]⟩))])⟩, ⟨(some 13), none, (.mov (.t 64))⟩] [3, 8, 9, 13]) .skip)) (.reg [⟨(some 65), none, (.mov (.t 13))⟩, ⟨(some 66), none, (.call (.k (.fn (.func 204) [] [])) [(.t 8), (.t 65)])⟩] [3, 8, 9]))))))) (.reg [⟨(some 38), none, (.mov (.t 9))⟩, ⟨(some 39), none, (.bin .sub (.t 38) (.k (.int .i64 ((1 : Nat) : Int))))⟩, ⟨(some 9), none, (.mov (.t 39))⟩] [3, 8, 9])))))) (.seq (.reg [⟨(some 67), none, (.call (.k (.fn (.func 205) [] [])) [(.t 8)])⟩, ⟨(some 2), none, (.mov (.t 67))⟩] [2]) .ret)))))))
def rs190 : List RV := [(.t 2)]
theorem co190 : compFn Go.Proofs.Tryd.prog Go.Proofs.Tryd.f190 pl190 = some (ac190, rs190) := by kernel_rfl
theorem enter190 {args : List AV} {H : AHeap} {Q : AV → AHeap → Prop} (hn : args.length ≤ 68) (h : W Go.Proofs.Tryd.prog ac190 (retN rs190 Q) ⟨[], initE args 0, H⟩) : Run Go.Proofs.Tryd.prog 190 args H Q := Run_fn2 mixed Go.Proofs.Tryd.func190 (by kernel_rfl) co190 (n := 68) (by kernel_rfl) hn h
def ac191 : ACode := (.seq (.reg [⟨(some 5), none, (.load none (.t 1))⟩, ⟨(some 6), none, (.rng (.t 5))⟩] [0, 6]) (.block 0 (.loop (.seq (.reg [⟨(some 7), none, (.nxt (.t 6))⟩, ⟨(some 8), none, (.ext (.t 7) 0)⟩] [0, 6, 7, 8]) (.seq (.cond (.t 8) .skip (.exit 0)) (.block 1 (.seq (.reg [⟨(some 9), none, (.ext (.t 7) 2)⟩, ⟨(some 4), none, (.mov (.t 9))⟩] [0, 4, 6]) (.seq (.reg [⟨(some 10), none, (.mov (.t 0))⟩, ⟨(some 11), none, (.mov (.t 4))⟩, ⟨(some 12), none, (.bin .sub (.t 11) (.k (.int .i32 ((48 : Nat) : Int))))⟩, ⟨(some 13), none, (.conv .i64 (.t 12))⟩, ⟨(some 14), none, (.call (.t 10) [(.t 13)])⟩, ⟨(some 15), none, (.un .not (.t 14))⟩] [0, 6, 15]) (.cond (.t 15) .ret .skip)))))))))
def rs191 : List RV := []
theorem co191 : compFn Go.Proofs.Tryd.prog Go.Proofs.Tryd.f191 pl191 = some (ac191, rs191) := by kernel_rfl
theorem enter191 {args : List AV} {H : AHeap} {Q : AV → AHeap → Prop} (hn : args.length ≤ 16) (h : W Go.Proofs.Tryd.prog ac191 (retN rs191 Q) ⟨[], initE args 0, H⟩) : Run Go.Proofs.Tryd.prog 191 args H Q := Run_fn2 mixed Go.Proofs.Tryd.func191 (by kernel_rfl) co191 (n := 16) (by kernel_rfl) hn h
def ac197 : ACode := (.seq (.reg [⟨(some 2), none, (.mov (.k (.seq 0 [] true)))⟩] [0]) (.seq (.reg [⟨(some 4), none, (.mov (.t 0))⟩, ⟨(some 5), none, (.len false (.t 4))⟩, ⟨(some 3), none, (.mov (.t 5))⟩] [0, 3]) (.seq (.block 0 (.loop (.seq (.seq (.reg [⟨(some 6), none, (.mov (.t 3))⟩, ⟨(some 7), none, (.bin .gtr (.t 6) (.k (.int .i64 ((0 : Nat) : Int))))⟩, ⟨(some 8), none, (.mov (.t 7))⟩, ⟨(some 9), (some (8, true)), (.mov (.t 0))⟩, ⟨(some 10), (some (8, true)), (.mov (.t 3))⟩, ⟨(some 11), (some (8, true)), (.bin .sub (.t 10) (.k (.int .i64 ((1 : Nat) : Int))))⟩, ⟨(some 12), (some (8, true)), (.idxA 1 (.t 9) (.t 11))⟩, ⟨(some 13), (some (8, true)), (.load none (.t 12))⟩, ⟨(some 14), (some (8, true)), (.bin .eql (.t 13) (.k (.int .u32 ((0 : Nat) : Int))))⟩, ⟨(some 15), none, (.pick (.t 8) (.t 14) (.k (.bool false)))⟩] [0, 3, 15]) (.cond (.t 15) .skip (.exit 0))) (.block 1 (.reg [⟨(some 16), none, (.mov (.t 3))⟩, ⟨(some 17), none, (.bin .sub (.t 16) (.k (.int .i64 ((1 : Nat) : Int))))⟩, ⟨(some 3), none, (.mov (.t 17))⟩] [0, 3]))))) (.seq (.reg [⟨(some 18), none, (.mov (.t 0))⟩, ⟨(some 19), none, (.mov (.t 3))⟩, ⟨(some 20), none, (.mov (.t 3))⟩, ⟨(some 21), none, (.slc 1 (.t 18) none (some (.t 19)) (some (.t 20)))⟩, ⟨(some 2), none, (.mov (.t 21))⟩] [2]) .ret))))
def rs197 : List RV := [(.t 2)]
theorem co197 : compFn Go.Proofs.Tryd.prog Go.Proofs.Tryd.f197 pl197 = some (ac197, rs197) := by kernel_rfl
theorem enter197 {args : List AV} {H : AHeap} {Q : AV → AHeap → Prop} (hn : args.length ≤ 22) (h : W Go.Proofs.Tryd.prog ac197 (retN rs197 Q) ⟨[], initE args 0, H⟩) : Run Go.Proofs.Tryd.prog 197 args H Q := Run_fn2 mixed Go.Proofs.Tryd.func197 (by kernel_rfl) co197 (n := 22) (by kernel_rfl) hn h
def ac198 : ACode := (.seq (.reg [⟨(some 4), none, (.box 28 0 (.t 0))⟩, ⟨(some 5), none, (.alloc 28 0 [(.bool false), (.seq 0 [] true)])⟩] [1, 2, 3, 4, 5]) (.seq (.reg [⟨(some 6), none, (.load none (.t 1))⟩, ⟨(some 7), none, (.bin .add (.t 6) (.k (.int .i64 ((1 : Nat) : Int))))⟩, ⟨none, none, (.store 1 (.t 1) (.t 7))⟩] [1, 2, 3, 4, 5]) (.seq (.draw [⟨(some 8), none, (.load none (.t 2))⟩, ⟨(some 9), none, (.load (some 2) (.t 4))⟩, ⟨(some 10), none, (.load none (.t 3))⟩, ⟨(some 11), none, (.load none (.t 1))⟩, ⟨(some 12), none, (.idxA 2 (.t 10) (.t 11))⟩, ⟨(some 13), none, (.load (some 2) (.t 12))⟩] [⟨(some 14), none, (.call (.t 8) [(.t 9), (.t 13)])⟩, ⟨none, none, (.store 2 (.t 5) (.t 14))⟩] [0, 1, 3, 7, 3, 3] [5]) .ret)))
def rs198 : List RV := [(.cell 5 (some 2))]
theorem co198 : compFn Go.Proofs.Tryd.prog Go.Proofs.Tryd.f198 pl198 = some (ac198, rs198) := by kernel_rfl
theorem enter198 {args : List AV} {H : AHeap} {Q : AV → AHeap → Prop} (hn : args.length ≤ 15) (h : W Go.Proofs.Tryd.prog ac198 (retN rs198 Q) ⟨[], initE args 0, H⟩) : Run Go.Proofs.Tryd.prog 198 args H Q := Run_fn2 mixed Go.Proofs.Tryd.func198 (by kernel_rfl) co198 (n := 15) (by kernel_rfl) hn h
def ac204 : ACode := (.seq (.reg [⟨(some 4), none, (.mov (.k (.int .i64 ((0 : Nat) : Int))))⟩, ⟨(some 5), none, (.mov (.k .nilI))⟩] [0, 1]) (.seq (.reg [⟨(some 6), none, (.mov (.t 0))⟩, ⟨(some 7), none, (.call (.k (.fn (.func 215) [] [])) [(.t 6)])⟩] [0, 1]) (.seq (.reg [⟨(some 8), none, (.mov (.t 0))⟩, ⟨(some 9), none, (.mov (.t 0))⟩, ⟨(some 10), none, (.prim .nck [(.t 9)])⟩, ⟨(some 11), none, (.fldA 1 (.t 10))⟩, ⟨(some 12), none, (.load none (.t 11))⟩, ⟨(some 13), none, (.mov (.t 1))⟩, ⟨(some 14), none, (.app 5 1 1 (.t 12) (.t 13))⟩, ⟨(some 15), none, (.prim .nck [(.t 8)])⟩, ⟨(some 16), none, (.fldA 1 (.t 15))⟩, ⟨none, none, (.store 1 (.t 16) (.t 14))⟩] [1]) (.seq (.reg [⟨(some 17), none, (.mov (.t 1))⟩, ⟨(some 18), none, (.len true (.t 17))⟩, ⟨(some 4), none, (.mov (.t 18))⟩, ⟨(some 5), none, (.mov (.k .nilI))⟩] [4, 5]) .ret))))
def rs204 : List RV := [(.t 4), (.t 5)]
theorem co204 : compFn Go.Proofs.Tryd.prog Go.Proofs.Tryd.f204 pl204 = some (ac204, rs204) := by kernel_rfl
theorem enter204 {args : List AV} {H : AHeap} {Q : AV → AHeap → Prop} (hn : args.length ≤ 19) (h : W Go.Proofs.Tryd.prog ac204 (retN rs204 Q) ⟨[], initE args 0, H⟩) : Run Go.Proofs.Tryd.prog 204 args H Q := Run_fn2 mixed Go.Proofs.Tryd.func204 (by kernel_rfl) co204 (n := 19) (by kernel_rfl) hn h
def ac205 : ACode := (.seq (.reg [⟨(some 2), none, (.mov (.k (.str ⟨#[]⟩)))⟩] [0]) (.seq (.draw [⟨(some 3), none, (.mov (.t 0))⟩, ⟨(some 4), none, (.prim .nck [(.t 3)])⟩, ⟨(some 5), none, (.fldA 1 (.t 4))⟩, ⟨(some 6), none, (.load none (.t 5))⟩, ⟨(some 7), none, (.prim .usd [(.t 6)])⟩, ⟨(some 8), none, (.mov (.t 0))⟩, ⟨(some 9), none, (.prim .nck [(.t 8)])⟩, ⟨(some 10), none, (.fldA 1 (.t 9))⟩, ⟨(some 11), none, (.load none (.t 10))⟩, ⟨(some 12), none, (.len false (.t 11))⟩] [⟨(some 13), none, (.ust 5 (.t 7) (.t 12))⟩, ⟨(some 2), none, (.mov (.t 13))⟩] [0, 0, 0, 0, 0, 31, 31, 31, 31, 31] [2]) .ret))
def rs205 : List RV := [(.t 2)]
theorem co205 : compFn Go.Proofs.Tryd.prog Go.Proofs.Tryd.f205 pl205 = some (ac205, rs205) := by kernel_rfl
theorem enter205 {args : List AV} {H : AHeap} {Q : AV → AHeap → Prop} (hn : args.length ≤ 14) (h : W Go.Proofs.Tryd.prog ac205 (retN rs205 Q) ⟨[], initE args 0, H⟩) : Run Go.Proofs.Tryd.prog 205 args H Q := Run_fn2 mixed Go.Proofs.Tryd.func205 (by kernel_rfl) co205 (n := 14) (by kernel_rfl) hn h
def ac212 : ACode := (.seq (.reg [⟨(some 4), none, (.mov (.k (.seq 0 [] true)))⟩, ⟨(some 5), none, (.mov (.k (.int .u32 ((0 : Nat) : Int))))⟩, ⟨(some 6), none, (.mov (.k (.int .i64 ((0 : Nat) : Int))))⟩] [0, 1]) (.seq (.seq (.reg [⟨(some 10), none, (.mov (.t 1))⟩, ⟨(some 11), none, (.bin .eql (.t 10) (.k (.int .u32 ((0 : Nat) : Int))))⟩] [0, 1, 11]) (.cond (.t 11) (.seq (.reg [⟨(some 4), none, (.mov (.k (.seq 0 [] true)))⟩, ⟨(some 5), none, (.mov (.k (.int .u32 ((0 : Nat) : Int))))⟩, ⟨(some 6), none, (.mov (.k (.int .i64 ((2 : Nat) : Int))))⟩] [4, 5, 6]) .ret) .skip)) (.seq (.reg [⟨(some 12), none, (.mov (.t 0))⟩, ⟨(some 13), none, (.len false (.t 12))⟩, ⟨(some 14), none, (.mks 172 1 4 [(.int .u32 ((0 : Nat) : Int))] (.t 13) (.t 13))⟩, ⟨(some 7), none, (.mov (.t 14))⟩] [0, 1, 7]) (.seq (.reg [⟨(some 8), none, (.mov (.k (.int .u64 ((0 : Nat) : Int))))⟩] [0, 1, 7, 8]) (.seq (.seq (.reg [⟨(some 15), none, (.mov (.t 0))⟩, ⟨(some 16), none, (.len false (.t 15))⟩, ⟨(some 17), none, (.bin .sub (.t 16) (.k (.int .i64 ((1 : Nat) : Int))))⟩, ⟨(some 9), none, (.mov (.t 17))⟩] [0, 1, 7, 8, 9]) (.block 0 (.loop (.seq (.seq (.reg [⟨(some 18), none, (.mov (.t 9))⟩, ⟨(some 19), none, (.bin .geq (.t 18) (.k (.int .i64 ((0 : Nat) : Int))))⟩] [0, 1, 7, 8, 9, 19]) (.cond (.t 19) .skip (.exit 0))) (.seq (.block 1 (.seq (.reg [⟨(some 22), none, (.mov (.t 8))⟩, ⟨(some 23), none, (.bin .shl (.t 22) (.k (.int .u64 ((32 : Nat) : Int))))⟩, ⟨(some 24), none, (.mov (.t 0))⟩, ⟨(some 25), none, (.mov (.t 9))⟩, ⟨(some 26), none, (.idxA 1 (.t 24) (.t 25))⟩, ⟨(some 27), none, (.load none (.t 26))⟩, ⟨(some 28), none, (.conv .u64 (.t 27))⟩, ⟨(some 29), none, (.bin .or (.t 23) (.t 28))⟩, ⟨(some 8), none, (.mov (.t 29))⟩] [0, 1, 7, 8, 9]) (.seq (.reg [⟨(some 30), none, (.mov (.t 7))⟩, ⟨(some 31), none, (.mov (.t 9))⟩, ⟨(some 32), none, (.mov (.t 8))⟩, ⟨(some 33), none, (.mov (.t 1))⟩, ⟨(some 34), none, (.conv .u64 (.t 33))⟩, ⟨(some 35), none, (.bin .quo (.t 32) (.t 34))⟩, ⟨(some 36), none, (.conv .u32 (.t 35))⟩, ⟨(some 37), none, (.idxA 1 (.t 30) (.t 31))⟩, ⟨none, none, (.store 1 (.t 37) (.t 36))⟩] [0, 1, 7, 8, 9]) (.reg [⟨(some 38), none, (.mov (.t 8))⟩, ⟨(some 39), none, (.mov (.t 1))⟩, ⟨(some 40), none, (.conv .u64 (.t 39))⟩, ⟨(some 41), none, (.bin .rem (.t 38) (.t 40))⟩, ⟨(some 8), none, (.mov (.t 41))⟩] [0, 1, 7, 8, 9])))) (.reg [⟨(some 20), none, (.mov (.t 9))⟩, ⟨(some 21), none, (.bin .sub (.t 20) (.k (.int .i64 ((1 : Nat) : Int))))⟩, ⟨(some 9), none, (.mov (.t 21))⟩] [0, 1, 7, 8, 9])))))) (.seq (.reg [⟨(some 42), none, (.mov (.t 7))⟩, ⟨(some 43), none, (.call (.k (.fn (.func 197) [] [])) [(.t 42)])⟩, ⟨(some 44), none, (.mov (.t 8))⟩, ⟨(some 45), none, (.conv .u32 (.t 44))⟩, ⟨(some 4), none, (.mov (.t 43))⟩, ⟨(some 5), none, (.mov (.t 45))⟩, ⟨(some 6), none, (.mov (.k (.int .i64 ((0 : Nat) : Int))))⟩] [4, 5, 6]) .ret))))))
def rs212 : List RV := [(.t 4), (.t 5), (.t 6)]
theorem co212 : compFn Go.Proofs.Tryd.prog Go.Proofs.Tryd.f212 pl212 = some (ac212, rs212) := by kernel_rfl
theorem enter212 {args : List AV} {H : AHeap} {Q : AV → AHeap → Prop} (hn : args.length ≤ 46) (h : W Go.Proofs.Tryd.prog ac212 (retN rs212 Q) ⟨[], initE args 0, H⟩) : Run Go.Proofs.Tryd.prog 212 args H Q := Run_fn2 mixed Go.Proofs.Tryd.func212 (by kernel_rfl) co212 (n := 46) (by kernel_rfl) hn h
def ac213 : ACode := (.seq (.reg [⟨(some 4), none, (.mov (.k (.str ⟨#[]⟩)))⟩] [0, 1]) (.seq (.seq (.reg [⟨(some 7), none, (.mov (.t 0))⟩, ⟨(some 8), none, (.bin .eql (.t 7) (.k (.str ⟨#[]⟩)))⟩, ⟨(some 9), none, (.mov (.t 8))⟩, ⟨(some 10), (some (9, false)), (.mov (.t 1))⟩, ⟨(some 11), (some (9, false)), (.bin .eql (.t 10) (.k (.str ⟨#[]⟩)))⟩, ⟨(some 12), none, (.pick (.t 9) (.k (.bool true)) (.t 11))⟩] [0, 1, 12]) (.cond (.t 12) (.seq (.reg [⟨(some 13), none, (.mov (.t 0))⟩, ⟨(some 4), none, (.mov (.t 13))⟩] [4]) .ret) .skip)) (.seq (.seq (.reg [⟨(some 14), none, (.mov (.t 1))⟩, ⟨(some 15), none, (.len true (.t 14))⟩, ⟨(some 16), none, (.bin .eql (.t 15) (.k (.int .i64 ((1 : Nat) : Int))))⟩, ⟨(some 17), none, (.mov (.t 16))⟩, ⟨(some 18), (some (17, true)), (.mov (.t 1))⟩, ⟨(some 19), (some (17, true)), (.idxS (.t 18) (.k (.int .i64 ((0 : Nat) : Int))))⟩, ⟨(some 20), (some (17, true)), (.bin .lss (.t 19) (.k (.int .u8 ((128 : Nat) : Int))))⟩, ⟨(some 21), none, (.pick (.t 17) (.t 20) (.k (.bool false)))⟩] [0, 1, 21]) (.cond (.t 21) (.seq (.reg [⟨(some 22), none, (.mov (.t 0))⟩, ⟨(some 23), none, (.mov (.t 1))⟩, ⟨(some 24), none, (.idxS (.t 23) (.k (.int .i64 ((0 : Nat) : Int))))⟩, ⟨(some 25), none, (.call (.k (.fn (.func 223) [] [])) [(.t 22), (.t 24)])⟩, ⟨(some 4), none, (.mov (.t 25))⟩] [4]) .ret) .skip)) (.seq (.seq (.reg [⟨(some 27), none, (.mov (.t 1))⟩, ⟨(some 28), none, (.call (.k (.fn (.func 224) [] [])) [(.t 27)])⟩, ⟨(some 26), none, (.mov (.t 28))⟩, ⟨(some 29), none, (.ext (.t 26) 0)⟩, ⟨(some 30), none, (.ext (.t 26) 1)⟩, ⟨(some 5), none, (.alloc 258 1 [(.bool false), (.bool false), (.bool false), (.bool false), (.bool false), (.bool false), (.bool false), (.bool false), (.bool false), (.bool false), (.bool false), (.bool false), (.bool false), (.bool false), (.bool false), (.bool false), (.bool false), (.bool false), (.bool false), (.bool false), (.bool false), (.bool false), (.bool false), (.bool false), (.bool false), (.bool false), (.bool false), (.bool false), (.bool false), (.bool false), (.bool false), (.bool false), (.bool false), (.bool false), (.bool false), (.bool false), (.bool false), (.bool false), (.bool false), (.bool false), (.bool false), (.bool false), (.bool false), (.bool false), (.bool false), (.bool false), (.bool false), (.bool false), (.bool false), (.bool false), (.bool false), (.bool false), (.bool false), (.bool false), (.bool false), (.bool false), (.bool false), (.bool false), (.bool false), (.bool false), (.bool false), (.bool false), (.bool false), (.bool false), (.bool false), (.bool false), (.bool false), (.bool false), (.bool false), (.bool false), (.bool false), (.bool false), (.bool false), (.bool false), (.bool false), (.bool false), (.bool false), (.bool false), (.bool false), (.bool false), (.bool false), (.bool false), (.bool false), (.bool false), (.bool false), (.bool false), (.bool false), (.bool false), (.bool false), (.bool false), (.bool false), (.bool false), (.bool false), (.bool false), (.bool false), (.bool false), (.bool false), (.bool false), (.bool false), (.bool false), (.bool false), (.bool false), (.bool false), (.bool false), (.bool false), (.bool false), (.bool false), (.bool false), (.bool false), (.bool false), (.bool false), (.bool false), (.bool false), (.bool false), (.bool false), (.bool false), (.bool false), (.bool false), (.bool false), (.bool false), (.bool false), (.bool false), (.bool false), (.bool false), (.bool false), (.bool false), (.bool false), (.bool false), (.bool false), (.bool false), (.bool false), (.bool false), (.bool false), (.bool false), (.bool false), (.bool false), (.bool false), (.bool false), (.bool false), (.bool false), (.bool false), (.bool false), (.bool false), (.bool false), (.bool false), (.bool false), (.bool false), (.bool false), (.bool false), (.bool false), (.bool false), (.bool false), (.bool false), (.bool false), (.bool false), (.bool false), (.bool false), (.bool false), (.bool false), (.bool false), (.bool false), (.bool false), (.bool false), (.bool false), (.bool false), (.bool false), (.bool false), (.bool false), (.bool false), (.bool false), (.bool false), (.bool false), (.bool false), (.bool false), (.bool false), (.bool false), (.bool false), (.bool false), (.bool false), (.bool false), (.bool false), (.bool false), (.bool false), (.bool false), (.bool false), (.bool false), (.bool false), (.bool false), (.bool false), (.bool false), (.bool false), (.bool false), (.bool false), (.bool false), (.bool false), (.bool false), (.bool false), (.bool false), (.bool false), (.bool false), (.bool false), (.bool false), (.bool false), (.bool false), (.bool false), (.bool false), (.bool false), (.bool false), (.bool false), (.bool false), (.bool false), (.bool false), (.bool false), (.bool false), (.bool false), (.bool false), (.bool false), (.bool false), (.bool false), (.bool false), (.bool false), (.bool false), (.bool false), (.bool false), (.bool false), (.bool false), (.bool false), (.bool false), (.bool false), (.bool false), (.bool false), (.bool false), (.bool false), (.bool false), (.bool false), (.bool false), (.bool false), (.bool false), (.bool false), (.bool false), (.bool false), (.bool false), (.bool false), (.bool false), (.bool false), (.bool false), (.bool false), (.bool false), (.bool false), (.bool false), (.bool false), (.bool false), (.bool false), (.bool false), (.bool false), (.bool false)])⟩, ⟨none, none, (.store 256 (.t 5) (.t 29))⟩, ⟨(some 6), none, (.mov (.t 30))⟩] [0, 1, 5, 6]) (.seq (.reg [⟨(some 31), none, (.mov (.t 6))⟩] [0, 1, 5, 31]) (.cond (.t 31) (.seq (.reg [⟨(some 32), none, (.mov (.t 0))⟩, ⟨(some 33), none, (.call (.k (.fn (.func 225) [] [])) [(.t 32), (.t 5)])⟩, ⟨(some 4), none, (.mov (.t 33))⟩] [4]) .ret) .skip))) (.seq (.reg [⟨(some 34), none, (.mov (.t 0))⟩, ⟨(some 35), none, (.mov (.t 1))⟩, ⟨(some 36), none, (.call (.k (.fn (.func 226) [] [])) [(.t 34), (.t 35)])⟩, ⟨(some 4), none, (.mov (.t 36))⟩] [4]) .ret)))))
def rs213 : List RV := [(.t 4)]
theorem co213 : compFn Go.Proofs.Tryd.prog Go.Proofs.Tryd.f213 pl213 = some (ac213, rs213) := by kernel_rfl
theorem enter213 {args : List AV} {H : AHeap} {Q : AV → AHeap → Prop} (hn : args.length ≤ 37) (h : W Go.Proofs.Tryd.prog ac213 (retN rs213 Q) ⟨[], initE args 0, H⟩) : Run Go.Proofs.Tryd.prog 213 args H Q := Run_fn2 mixed Go.Proofs.Tryd.func213 (by kernel_rfl) co213 (n := 37) (by kernel_rfl) hn h
def ac215 : ACode := (.seq (.reg [⟨(some 2), none, (.mov (.t 0))⟩, ⟨(some 3), none, (.prim .nck [(.t 2)])⟩, ⟨(some 4), none, (.fldA 0 (.t 3))⟩, ⟨(some 5), none, (.load none (.t 4))⟩, ⟨(some 6), none, (.prim (.peq false) [(.t 5), (.k .nilP)])⟩] [0, 6]) (.cond (.t 6) (.reg [⟨(some 7), none, (.mov (.t 0))⟩, ⟨(some 8), none, (.mov (.t 0))⟩, ⟨(some 9), none, (.prim .toU [(.t 8)])⟩, ⟨(some 10), none, (.mov (.t 9))⟩, ⟨(some 11), none, (.prim (.fromU 234 2) [(.t 10)])⟩, ⟨(some 12), none, (.prim .nck [(.t 7)])⟩, ⟨(some 13), none, (.fldA 0 (.t 12))⟩, ⟨none, none, (.store 1 (.t 13) (.t 11))⟩] []) (.seq (.reg [⟨(some 14), none, (.mov (.t 0))⟩, ⟨(some 15), none, (.prim .nck [(.t 14)])⟩, ⟨(some 16), none, (.fldA 0 (.t 15))⟩, ⟨(some 17), none, (.load none (.t 16))⟩, ⟨(some 18), none, (.mov (.t 0))⟩, ⟨(some 19), none, (.prim (.peq true) [(.t 17), (.t 18)])⟩] [19]) (.cond (.t 19) .refuse .skip))))
def rs215 : List RV := []
theorem co215 : compFn Go.Proofs.Tryd.prog Go.Proofs.Tryd.f215 pl215 = some (ac215, rs215) := by kernel_rfl
theorem enter215 {args : List AV} {H : AHeap} {Q : AV → AHeap → Prop} (hn : args.length ≤ 20) (h : W Go.Proofs.Tryd.prog ac215 (retN rs215 Q) ⟨[], initE args 0, H⟩) : Run Go.Proofs.Tryd.prog 215 args H Q := Run_fn2 mixed Go.Proofs.Tryd.func215 (by kernel_rfl) co215 (n := 20) (by kernel_rfl) hn h
def ac223 : ACode := (.seq (.reg [⟨(some 4), none, (.mov (.k (.str ⟨#[]⟩)))⟩] [0, 1]) (.seq (.block 0 (.loop (.seq (.seq (.reg [⟨(some 5), none, (.mov (.t 0))⟩, ⟨(some 6), none, (.len true (.t 5))⟩, ⟨(some 7), none, (.bin .gtr (.t 6) (.k (.int .i64 ((0 : Nat) : Int))))⟩, ⟨(some 8), none, (.mov (.t 7))⟩, ⟨(some 9), (some (8, true)), (.mov (.t 0))⟩, ⟨(some 10), (some (8, true)), (.idxS (.t 9) (.k (.int .i64 ((0 : Nat) : Int))))⟩, ⟨(some 11), (some (8, true)), (.mov (.t 1))⟩, ⟨(some 12), (some (8, true)), (.bin .eql (.t 10) (.t 11))⟩, ⟨(some 13), none, (.pick (.t 8) (.t 12) (.k (.bool false)))⟩] [0, 1, 13]) (.cond (.t 13) .skip (.exit 0))) (.block 1 (.reg [⟨(some 14), none, (.mov (.t 0))⟩, ⟨(some 15), none, (.slcS (.t 14) (some (.k (.int .i64 ((1 : Nat) : Int)))) none)⟩, ⟨(some 0), none, (.mov (.t 15))⟩] [0, 1]))))) (.seq (.reg [⟨(some 16), none, (.mov (.t 0))⟩, ⟨(some 4), none, (.mov (.t 16))⟩] [4]) .ret)))
def rs223 : List RV := [(.t 4)]
theorem co223 : compFn Go.Proofs.Tryd.prog Go.Proofs.Tryd.f223 pl223 = some (ac223, rs223) := by kernel_rfl
theorem enter223 {args : List AV} {H : AHeap} {Q : AV → AHeap → Prop} (hn : args.length ≤ 17) (h : W Go.Proofs.Tryd.prog ac223 (retN rs223 Q) ⟨[], initE args 0, H⟩) : Run Go.Proofs.Tryd.prog 223 args H Q := Run_fn2 mixed Go.Proofs.Tryd.func223 (by kernel_rfl) co223 (n := 17) (by kernel_rfl) hn h
end Go.Proofs.YtanchgkiomfhhaaDoor.Fw

/- What package limb computes: trimming, copies, comparing. -/
namespace Go.Proofs.YtanchgkiomfhhaaDoor.Fw
set_option linter.unusedSimpArgs false
set_option linter.unusedVariables false
open Go Go.Proofs.YtanchgkiomfhhaaDoor.Ma

theorem load_LS0 {H : AHeap} {K : AV → Prop} {l : List Nat} (h : 0 < l.length) : loadW H none (.cptr (U l)) K = K (.int .u32 ((l.getD 0 0 : Nat) : Int)) := by
  have := load_LS (H := H) (K := K) (l := l) (i := 0) h
  rwa [List.drop_zero] at this
theorem digs_len0 {B n : Nat} (hB : 2 ≤ B) : ((digs B n).length = 0) = (n = 0) := by
  rw [List.length_eq_zero_iff]; exact propext (digs_nil hB)
theorem digs_pos_len {B n : Nat} (hB : 2 ≤ B) : (0 < (digs B n).length) = (0 < n) := by
  apply propext
  have := digs_nil (n := n) hB
  cases h : digs B n with
  | nil => have := this.1 h; simp [this]
  | cons x l => rcases Nat.eq_zero_or_pos n with e | e
                · rw [e, digs_zero] at h; cases h
                · simp [e]
theorem trim_fn (l : List Nat) (t : Bool) : PFn Tryd.prog 197 [LS l t] (LS (tr l) true) := by
  intro H Q hq
  refine enter197 (by simp) ?_
  simp (disch := first | assumption | (apply Ap.symm; assumption) | omega | decide | (simp only [Xd] <;> omega)) only [ac197, len_LS, len_own, ↓Xa, Xb, Xc, ↓reduceIte, Nat.reduceLT, Nat.reduceEqDiff, Nat.reduceBEq, Nat.reduceLeDiff, Nat.reduceAdd, Nat.reduceMul]
  intro hl
  refine W_loop (fun n : Nat => ⟨[], [(0, LS l t), (3, .int .i64 n)], H⟩) (fun n => n ≤ l.length ∧ ∀ i, n ≤ i → i < l.length → l.getD i 0 = 0) id l.length (Settle.now rfl) ⟨Nat.le_refl _, fun i h1 h2 => absurd h1 (by omega)⟩ ?_
  rintro n ⟨hn, hz⟩
  have fin : (n = 0 ∨ l.getD (n - 1) 0 ≠ 0) → SetR Q (LS (l.take n) true) H := fun h => by rw [tr_take hn hz h]; exact SetR.now hq
  by_cases h0 : 0 < n
  · by_cases h1 : l.getD (n - 1) 0 = 0
    · simp (disch := first | assumption | (apply Ap.symm; assumption) | omega | decide | (simp only [Xd] <;> omega)) only [h0, h1, len_LS, len_own, ↓Xa, Xb, Xc, ↓reduceIte, Nat.reduceLT, Nat.reduceEqDiff, Nat.reduceBEq, Nat.reduceLeDiff, Nat.reduceAdd, Nat.reduceMul]
      refine Settle.now ⟨n - 1, ?_, ⟨by omega, fun i hi hl' => ?_⟩, rfl⟩
      · show n - 1 < n; omega
      · rcases Nat.lt_or_ge i n with h | h
        · rw [show i = n - 1 by omega]; exact h1
        · exact hz i h hl'
    · simp (disch := first | assumption | (apply Ap.symm; assumption) | omega | decide | (simp only [Xd] <;> omega)) only [h0, h1, len_LS, len_own, ↓Xa, Xb, Xc, ↓reduceIte, Nat.reduceLT, Nat.reduceEqDiff, Nat.reduceBEq, Nat.reduceLeDiff, Nat.reduceAdd, Nat.reduceMul]
      refine Settle.now ?_
      simp (disch := first | assumption | (apply Ap.symm; assumption) | omega | decide | (simp only [Xd] <;> omega)) only [rs197, len_LS, len_own, ↓Xa, Xb, Xc, ↓reduceIte, Nat.reduceLT, Nat.reduceEqDiff, Nat.reduceBEq, Nat.reduceLeDiff, Nat.reduceAdd, Nat.reduceMul]
      exact fin (.inr h1)
  · simp (disch := first | assumption | (apply Ap.symm; assumption) | omega | decide | (simp only [Xd] <;> omega)) only [h0, len_LS, len_own, ↓Xa, Xb, Xc, ↓reduceIte, Nat.reduceLT, Nat.reduceEqDiff, Nat.reduceBEq, Nat.reduceLeDiff, Nat.reduceAdd, Nat.reduceMul]
    refine Settle.now ?_
    simp (disch := first | assumption | (apply Ap.symm; assumption) | omega | decide | (simp only [Xd] <;> omega)) only [rs197, len_LS, len_own, ↓Xa, Xb, Xc, ↓reduceIte, Nat.reduceLT, Nat.reduceEqDiff, Nat.reduceBEq, Nat.reduceLeDiff, Nat.reduceAdd, Nat.reduceMul]
    exact fin (.inl (by omega))

theorem trim_own {l : List Nat} {b ty n : Nat} {t : Bool} {H : AHeap} {Q : AV → AHeap → Prop} (hH : H b = some (.row ty 1 (U l))) (hn : l.length = n) (hq : Q (.own b n 0 (tr l).length true) H) : Run Tryd.prog 197 [.own b n 0 n t] H Q := by
  subst hn
  refine enter197 (by simp) ?_
  simp (disch := first | assumption | (apply Ap.symm; assumption) | omega | decide | (simp only [Xd] <;> omega)) only [ac197, len_LS, len_own, ↓Xa, Xb, Xc, ↓reduceIte, Nat.reduceLT, Nat.reduceEqDiff, Nat.reduceBEq, Nat.reduceLeDiff, Nat.reduceAdd, Nat.reduceMul]
  intro hl
  refine W_loop (fun n : Nat => ⟨[], [(0, .own b l.length 0 l.length t), (3, .int .i64 n)], H⟩) (fun n => n ≤ l.length ∧ ∀ i, n ≤ i → i < l.length → l.getD i 0 = 0) id l.length (Settle.now rfl) ⟨Nat.le_refl _, fun i h1 h2 => absurd h1 (by omega)⟩ ?_
  rintro n ⟨hn, hz⟩
  have fin : (n = 0 ∨ l.getD (n - 1) 0 ≠ 0) → SetR Q (.own b l.length 0 n true) H := fun h => by
    have := congrArg List.length (tr_take hn hz h)
    rw [List.length_take, Nat.min_eq_left hn] at this
    rw [this]; exact SetR.now hq
  by_cases h0 : 0 < n
  · by_cases h1 : l.getD (n - 1) 0 = 0
    · simp (disch := first | assumption | (apply Ap.symm; assumption) | omega | decide | (simp only [Xd] <;> omega)) only [h0, h1, hH, len_LS, len_own, ↓Xa, Xb, Xc, ↓reduceIte, Nat.reduceLT, Nat.reduceEqDiff, Nat.reduceBEq, Nat.reduceLeDiff, Nat.reduceAdd, Nat.reduceMul]
      refine Settle.now ⟨n - 1, ?_, ⟨by omega, fun i hi hl' => ?_⟩, rfl⟩
      · show n - 1 < n; omega
      · rcases Nat.lt_or_ge i n with h | h
        · rw [show i = n - 1 by omega]; exact h1
        · exact hz i h hl'
    · simp (disch := first | assumption | (apply Ap.symm; assumption) | omega | decide | (simp only [Xd] <;> omega)) only [h0, h1, hH, len_LS, len_own, ↓Xa, Xb, Xc, ↓reduceIte, Nat.reduceLT, Nat.reduceEqDiff, Nat.reduceBEq, Nat.reduceLeDiff, Nat.reduceAdd, Nat.reduceMul]
      refine Settle.now ?_
      simp (disch := first | assumption | (apply Ap.symm; assumption) | omega | decide | (simp only [Xd] <;> omega)) only [rs197, hH, len_LS, len_own, ↓Xa, Xb, Xc, ↓reduceIte, Nat.reduceLT, Nat.reduceEqDiff, Nat.reduceBEq, Nat.reduceLeDiff, Nat.reduceAdd, Nat.reduceMul]
      exact fin (.inr h1)
  · simp (disch := first | assumption | (apply Ap.symm; assumption) | omega | decide | (simp only [Xd] <;> omega)) only [h0, hH, len_LS, len_own, ↓Xa, Xb, Xc, ↓reduceIte, Nat.reduceLT, Nat.reduceEqDiff, Nat.reduceBEq, Nat.reduceLeDiff, Nat.reduceAdd, Nat.reduceMul]
    refine Settle.now ?_
    simp (disch := first | assumption | (apply Ap.symm; assumption) | omega | decide | (simp only [Xd] <;> omega)) only [rs197, hH, len_LS, len_own, ↓Xa, Xb, Xc, ↓reduceIte, Nat.reduceLT, Nat.reduceEqDiff, Nat.reduceBEq, Nat.reduceLeDiff, Nat.reduceAdd, Nat.reduceMul]
    exact fin (.inl (by omega))
theorem trim_call {l : List Nat} {b ty n : Nat} {t : Bool} {H : AHeap} {K : AV → AHeap → Prop} (hH : H b = some (.row ty 1 (U l))) (hn : l.length = n) (k : K (.own b n 0 (tr l).length true) H) : callW Tryd.prog (.fn (.func 197) [] []) [.own b n 0 n t] H K := by
  simpa [callW] using trim_own (t := t) hH hn k
theorem frz_tr {l : List Nat} {b n : Nat} (hn : l.length = n) : frz b 1 (U l) (.own b n 0 (tr l).length true) = LS (tr l) true := by
  subst hn
  have h1 := tr_len l
  obtain ⟨k, h2⟩ := tr_pre l
  have h3 : (U l).take (tr l).length = U (tr l) := by
    rw [← U_take]; congr 1
    generalize tr l = x at *
    rw [h2]; simp
  simp [frz, frz2, frz1, LS, h1, h3]
theorem fin_tr {l : List Nat} {b ty n : Nat} {H : AHeap} {Q : AV → AHeap → Prop} (hb : H b = none) (hn : l.length = n) (hq : Q (LS (tr l) true) H) : SetR Q (.own b n 0 (tr l).length true) (H.upd b (some (.row ty 1 (U l)))) := by
  refine SetR.frz b (upd_same _ _ _) ?_
  rw [frz_tr hn, upd_upd, upd_back _ hb]
  exact SetR.now hq

theorem frz2_tr {l : List Nat} {b n : Nat} (hn : l.length = n) : frz2 b 1 (U l) (.own b n 0 (tr l).length true) = LS (tr l) true := frz_tr hn
theorem frz2_int {b es : Nat} {c : List AV} {k : IntKind} {n : Int} : frz2 b es c (.int k n) = .int k n := rfl
theorem fin_tr2 {l : List Nat} {b ty n : Nat} {H : AHeap} {Q : AV → AHeap → Prop} {k : IntKind} {m : Int} (hb : H b = none) (hn : l.length = n) (hq : Q (.tup [LS (tr l) true, .int k m]) H) : SetR Q (.tup [.own b n 0 (tr l).length true, .int k m]) (H.upd b (some (.row ty 1 (U l)))) := by
  refine SetR.frz b (upd_same _ _ _) ?_
  rw [upd_upd, upd_back _ hb, frz, List.map_cons, List.map_cons, List.map_nil, frz2_tr hn, frz2_int]
  exact SetR.now hq
theorem fin_tr3 {l : List Nat} {b ty n : Nat} {H : AHeap} {Q : AV → AHeap → Prop} {k k' : IntKind} {m m' : Int} (hb : H b = none) (hn : l.length = n) (hq : Q (.tup [LS (tr l) true, .int k m, .int k' m']) H) : SetR Q (.tup [.own b n 0 (tr l).length true, .int k m, .int k' m']) (H.upd b (some (.row ty 1 (U l)))) := by
  refine SetR.frz b (upd_same _ _ _) ?_
  rw [upd_upd, upd_back _ hb, frz, List.map_cons, List.map_cons, List.map_cons, List.map_nil, frz2_tr hn, frz2_int, frz2_int]
  exact SetR.now hq

theorem norm_fn {l : List Nat} (t : Bool) (hl : l.length ≤ 70368744177664) : PFn Tryd.prog 138 [LS l t] (LS (tr l) true) := by
  intro H Q hq
  refine enter138 (by simp) ?_
  simp (disch := first | assumption | (apply Ap.symm; assumption) | omega | decide | (simp only [Xd] <;> omega)) only [ac138, len_LS, len_own, ↓Xa, Xb, Xc, ↓reduceIte, Nat.reduceLT, Nat.reduceEqDiff, Nat.reduceBEq, Nat.reduceLeDiff, Nat.reduceAdd, Nat.reduceMul]
  refine (trim_fn l t).call ?_
  have h1 := tr_len l
  simp (disch := first | assumption | (apply Ap.symm; assumption) | omega | decide | (simp only [Xd] <;> omega)) only [len_LS, len_own, ↓Xa, Xb, Xc, ↓reduceIte, Nat.reduceLT, Nat.reduceEqDiff, Nat.reduceBEq, Nat.reduceLeDiff, Nat.reduceAdd, Nat.reduceMul]
  intro h2
  refine newU_i fun b hb => ?_
  simp (disch := first | assumption | (apply Ap.symm; assumption) | omega | decide | (simp only [Xd] <;> omega)) only [len_LS, len_own, ↓Xa, Xb, Xc, ↓reduceIte, Nat.reduceLT, Nat.reduceEqDiff, Nat.reduceBEq, Nat.reduceLeDiff, Nat.reduceAdd, Nat.reduceMul]
  refine cpy_U (upd_same _ _ _) (by simp) rfl ?_
  simp (disch := first | assumption | (apply Ap.symm; assumption) | omega | decide | (simp only [Xd] <;> omega)) only [rs138, len_LS, len_own, ↓Xa, Xb, Xc, ↓reduceIte, Nat.reduceLT, Nat.reduceEqDiff, Nat.reduceBEq, Nat.reduceLeDiff, Nat.reduceAdd, Nat.reduceMul]
  refine SetR.frz b (upd_same _ _ _) ?_
  rw [upd_upd, upd_back _ hb]
  have e : frz b 1 (U (tr l)) (.own b (tr l).length 0 (tr l).length true) = LS (tr l) true := by simp [frz, frz2, frz1, LS, List.take_of_length_le]
  rw [e]; exact SetR.now hq

def cmpZ (a b : Nat) : Int := if a < b then -1 else if b < a then ((1 : Nat) : Int) else ((0 : Nat) : Int)

theorem cmp_fn {a b : List Nat} (ta tb : Bool) (ha : Lim 4294967296 a) (hb : Lim 4294967296 b) : PFn Tryd.prog 148 [LS a ta, LS b tb] (.int .i64 (cmpZ (val 4294967296 a) (val 4294967296 b))) := by
  intro H Q hq
  refine enter148 (by simp) ?_
  simp (disch := first | assumption | (apply Ap.symm; assumption) | omega | decide | (simp only [Xd] <;> omega)) only [ac148, len_LS, len_own, ↓Xa, Xb, Xc, ↓reduceIte, Nat.reduceLT, Nat.reduceEqDiff, Nat.reduceBEq, Nat.reduceLeDiff, Nat.reduceAdd, Nat.reduceMul]
  refine (trim_fn a ta).call ?_
  simp (disch := first | assumption | (apply Ap.symm; assumption) | omega | decide | (simp only [Xd] <;> omega)) only [len_LS, len_own, ↓Xa, Xb, Xc, ↓reduceIte, Nat.reduceLT, Nat.reduceEqDiff, Nat.reduceBEq, Nat.reduceLeDiff, Nat.reduceAdd, Nat.reduceMul]
  refine (trim_fn b tb).call ?_
  rw [tr_digs (by omega) ha, tr_digs (by omega) hb]
  generalize val 4294967296 a = m at *
  generalize val 4294967296 b = n at *
  have hx := lim_digs (B := 4294967296) (by omega) m
  have hy := lim_digs (B := 4294967296) (by omega) n
  have vx := val_digs (B := 4294967296) (by omega) m
  have vy := val_digs (B := 4294967296) (by omega) n
  have lt1 := digs_lt_len (B := 4294967296) (a := m) (b := n) (by omega)
  have lt2 := digs_lt_len (B := 4294967296) (a := n) (b := m) (by omega)
  generalize digs 4294967296 m = x at *
  generalize digs 4294967296 n = y at *
  have less : m < n → SetR Q (.int .i64 (-1)) H := fun h => by
    have : cmpZ m n = -1 := by simp [cmpZ, h]
    rw [← this]; exact SetR.now hq
  have more : n < m → SetR Q (.int .i64 ((1 : Nat) : Int)) H := fun h => by
    have : cmpZ m n = ((1 : Nat) : Int) := by simp [cmpZ, h, Nat.not_lt_of_lt h]
    rw [← this]; exact SetR.now hq
  by_cases c1 : x.length < y.length
  · simp (disch := first | assumption | (apply Ap.symm; assumption) | omega | decide | (simp only [Xd] <;> omega)) only [c1, rs148, len_LS, len_own, ↓Xa, Xb, Xc, ↓reduceIte, Nat.reduceLT, Nat.reduceEqDiff, Nat.reduceBEq, Nat.reduceLeDiff, Nat.reduceAdd, Nat.reduceMul]
    intro _ _
    exact less (lt1 c1)
  by_cases c2 : y.length < x.length
  · simp (disch := first | assumption | (apply Ap.symm; assumption) | omega | decide | (simp only [Xd] <;> omega)) only [c1, c2, rs148, len_LS, len_own, ↓Xa, Xb, Xc, ↓reduceIte, Nat.reduceLT, Nat.reduceEqDiff, Nat.reduceBEq, Nat.reduceLeDiff, Nat.reduceAdd, Nat.reduceMul]
    intro _ _ _ _
    exact more (lt2 c2)
  simp (disch := first | assumption | (apply Ap.symm; assumption) | omega | decide | (simp only [Xd] <;> omega)) only [c1, c2, len_LS, len_own, ↓Xa, Xb, Xc, ↓reduceIte, Nat.reduceLT, Nat.reduceEqDiff, Nat.reduceBEq, Nat.reduceLeDiff, Nat.reduceAdd, Nat.reduceMul]
  intro l1 l2
  intros
  simp (disch := first | assumption | (apply Ap.symm; assumption) | omega | decide | (simp only [Xd] <;> omega)) only [len_LS, len_own, ↓Xa, Xb, Xc, ↓reduceIte, Nat.reduceLT, Nat.reduceEqDiff, Nat.reduceBEq, Nat.reduceLeDiff, Nat.reduceAdd, Nat.reduceMul]
  have hlen : x.length = y.length := by omega
  refine W_loop (fun k : Nat => ⟨[], [(0, LS x true), (1, LS y true), (5, .int .i64 (dn k))], H⟩) (fun k => k ≤ x.length ∧ x.drop k = y.drop k) id x.length (Settle.now rfl) ⟨Nat.le_refl _, by rw [List.drop_of_length_le (Nat.le_refl _), List.drop_of_length_le (by omega)]⟩ ?_
  rintro k ⟨hk, hd⟩
  cases k with
  | zero =>
    simp (disch := first | assumption | (apply Ap.symm; assumption) | omega | decide | (simp only [Xd] <;> omega)) only [len_LS, len_own, ↓Xa, Xb, Xc, ↓reduceIte, Nat.reduceLT, Nat.reduceEqDiff, Nat.reduceBEq, Nat.reduceLeDiff, Nat.reduceAdd, Nat.reduceMul]
    refine Settle.now ?_
    simp (disch := first | assumption | (apply Ap.symm; assumption) | omega | decide | (simp only [Xd] <;> omega)) only [rs148, len_LS, len_own, ↓Xa, Xb, Xc, ↓reduceIte, Nat.reduceLT, Nat.reduceEqDiff, Nat.reduceBEq, Nat.reduceLeDiff, Nat.reduceAdd, Nat.reduceMul]
    have e : m = n := by rw [← vx, ← vy]; rw [List.drop_zero, List.drop_zero] at hd; rw [hd]
    have : cmpZ m n = ((0 : Nat) : Int) := by simp [cmpZ, e]
    rw [← this]; exact SetR.now hq
  | succ k =>
    by_cases d1 : x.getD k 0 < y.getD k 0
    · simp (disch := first | assumption | (apply Ap.symm; assumption) | omega | decide | (simp only [Xd] <;> omega)) only [d1, rs148, len_LS, len_own, ↓Xa, Xb, Xc, ↓reduceIte, Nat.reduceLT, Nat.reduceEqDiff, Nat.reduceBEq, Nat.reduceLeDiff, Nat.reduceAdd, Nat.reduceMul]
      exact less (by rw [← vx, ← vy]; exact val_lt_high hx (by omega) k (by omega) hlen hd d1)
    by_cases d2 : y.getD k 0 < x.getD k 0
    · simp (disch := first | assumption | (apply Ap.symm; assumption) | omega | decide | (simp only [Xd] <;> omega)) only [d1, d2, rs148, len_LS, len_own, ↓Xa, Xb, Xc, ↓reduceIte, Nat.reduceLT, Nat.reduceEqDiff, Nat.reduceBEq, Nat.reduceLeDiff, Nat.reduceAdd, Nat.reduceMul]
      exact more (by rw [← vx, ← vy]; exact val_lt_high hy (by omega) k (by omega) hlen.symm hd.symm d2)
    simp (disch := first | assumption | (apply Ap.symm; assumption) | omega | decide | (simp only [Xd] <;> omega)) only [d1, d2, len_LS, len_own, ↓Xa, Xb, Xc, ↓reduceIte, Nat.reduceLT, Nat.reduceEqDiff, Nat.reduceBEq, Nat.reduceLeDiff, Nat.reduceAdd, Nat.reduceMul]
    refine Settle.now ⟨k, Nat.lt_succ_self k, ⟨by omega, ?_⟩, rfl⟩
    rw [List.drop_eq_getElem_cons (by omega), List.drop_eq_getElem_cons (i := k) (l := y) (by omega), hd]
    congr 1
    have e1 : x.getD k 0 = x[k] := by simp [List.getD_eq_getElem?_getD, List.getElem?_eq_getElem (show k < x.length by omega)]
    have e2 : y.getD k 0 = y[k] := by simp [List.getD_eq_getElem?_getD, List.getElem?_eq_getElem (show k < y.length by omega)]
    omega
end Go.Proofs.YtanchgkiomfhhaaDoor.Fw

/- What package limb computes: sums, differences, products, quotients by one limb. -/
namespace Go.Proofs.YtanchgkiomfhhaaDoor.Fw
set_option linter.unusedSimpArgs false
set_option linter.unusedVariables false
open Go Go.Proofs.YtanchgkiomfhhaaDoor.Ma
set_option maxRecDepth 20000

theorem add_tail {a b : List Nat} {ta tb : Bool} {H : AHeap} {Q : AV → AHeap → Prop} (hab : b.length ≤ a.length) (ha : Lim 4294967296 a) (hb : Lim 4294967296 b) (hl : a.length ≤ 1099511627776)
    (hq : Q (LS (digs 4294967296 (val 4294967296 a + val 4294967296 b)) true) H) : W Tryd.prog (hold (sndC (sndC ac186))) (retN rs186 Q) ⟨[], [(0, LS a ta), (1, LS b tb)], H⟩ := by
  simp (disch := first | assumption | (apply Ap.symm; assumption) | omega | decide | (simp only [Xd] <;> omega)) only [ac186, hold, sndC, ↓Xa, Xb, Xc, ↓reduceIte, Nat.reduceLT, Nat.reduceEqDiff, Nat.reduceBEq, Nat.reduceLeDiff, Nat.reduceAdd, Nat.reduceMul]
  refine newU_i fun o ho => ?_
  simp (disch := first | assumption | (apply Ap.symm; assumption) | omega | decide | (simp only [Xd] <;> omega)) only [↓Xa, Xb, Xc, ↓reduceIte, Nat.reduceLT, Nat.reduceEqDiff, Nat.reduceBEq, Nat.reduceLeDiff, Nat.reduceAdd, Nat.reduceMul]
  refine W_loop (fun p : Nat × Nat × List Nat => ⟨[], [(0, LS a ta), (1, LS b tb), (5, .own o (a.length + 1) 0 (a.length + 1) true), (6, .int .u64 p.2.1), (20, LS a ta), (21, .int .i64 a.length), (22, .int .i64 p.1)],
      H.upd o (some (.row 172 1 (U (p.2.2 ++ List.replicate (a.length + 1 - p.1) 0))))⟩)
    (fun p => p.1 ≤ a.length ∧ AddI a b p.1 p.2.1 p.2.2) (fun p => a.length - p.1) (0, 0, []) (Settle.now rfl) ⟨by simp, AddI.zero a b⟩ ?_
  rintro ⟨i, c, done⟩ ⟨h1, h2⟩
  dsimp only at h1 h2 ⊢
  have hdl := h2.1
  have hc := h2.2.2.1
  by_cases hi : i < a.length
  · have hx := ha.getD (by omega) i
    have hy := hb.getD (by omega) i
    by_cases hj : i < b.length
    · simp (disch := first | assumption | (apply Ap.symm; assumption) | omega | decide | (simp only [Xd] <;> omega)) only [hi, hj, ↓Xa, Xb, Xc, ↓reduceIte, Nat.reduceLT, Nat.reduceEqDiff, Nat.reduceBEq, Nat.reduceLeDiff, Nat.reduceAdd, Nat.reduceMul]
      refine Settle.now ⟨(i + 1, _, done ++ [_]), by dsimp only; omega, ⟨by dsimp only; omega, h2.step ha hb rfl⟩, ?_⟩
      rw [set_zeros' _ _ _ _ hdl (by omega)]
    · simp (disch := first | assumption | (apply Ap.symm; assumption) | omega | decide | (simp only [Xd] <;> omega)) only [hi, hj, ↓Xa, Xb, Xc, ↓reduceIte, Nat.reduceLT, Nat.reduceEqDiff, Nat.reduceBEq, Nat.reduceLeDiff, Nat.reduceAdd, Nat.reduceMul]
      have := getD_beyond (show b.length ≤ i by omega)
      refine Settle.now ⟨(i + 1, _, done ++ [_]), by dsimp only; omega, ⟨by dsimp only; omega, h2.step ha hb (s := c + a.getD i 0) (by omega)⟩, ?_⟩
      rw [set_zeros' _ _ _ _ hdl (by omega)]
  · obtain rfl : i = a.length := by omega
    simp (disch := first | assumption | (apply Ap.symm; assumption) | omega | decide | (simp only [Xd] <;> omega)) only [hi, ↓Xa, Xb, Xc, ↓reduceIte, Nat.reduceLT, Nat.reduceEqDiff, Nat.reduceBEq, Nat.reduceLeDiff, Nat.reduceAdd, Nat.reduceMul]
    refine Settle.now ?_
    simp (disch := first | assumption | (apply Ap.symm; assumption) | omega | decide | (simp only [Xd] <;> omega)) only [↓Xa, Xb, Xc, ↓reduceIte, Nat.reduceLT, Nat.reduceEqDiff, Nat.reduceBEq, Nat.reduceLeDiff, Nat.reduceAdd, Nat.reduceMul]
    rw [set_zeros _ _ _ _ hdl (by omega), show a.length + 1 - a.length - 1 = 0 by omega, List.replicate_zero, List.append_nil]
    refine trim_call (upd_same _ _ _) (by simp [hdl]) ?_
    simp (disch := first | assumption | (apply Ap.symm; assumption) | omega | decide | (simp only [Xd] <;> omega)) only [rs186, ↓Xa, Xb, Xc, ↓reduceIte, Nat.reduceLT, Nat.reduceEqDiff, Nat.reduceBEq, Nat.reduceLeDiff, Nat.reduceAdd, Nat.reduceMul]
    exact fin_tr ho (by simp [hdl]) (by rw [h2.end hab]; exact hq)

theorem add_fn {a b : List Nat} (ta tb : Bool) (ha : Lim 4294967296 a) (hb : Lim 4294967296 b) (hla : a.length ≤ 1099511627776) (hlb : b.length ≤ 1099511627776) : PFn Tryd.prog 186 [LS a ta, LS b tb] (LS (digs 4294967296 (val 4294967296 a + val 4294967296 b)) true) := by
  intro H Q hq
  refine enter186 (by simp) ?_
  rw [show ac186 = .seq (fstC ac186) (.seq (fstC (sndC ac186)) (hold (sndC (sndC ac186)))) from rfl]
  by_cases c : a.length < b.length
  · simp (disch := first | assumption | (apply Ap.symm; assumption) | omega | decide | (simp only [Xd] <;> omega)) only [c, fstC, sndC, ac186, ↓Xa, Xb, Xc, ↓reduceIte, Nat.reduceLT, Nat.reduceEqDiff, Nat.reduceBEq, Nat.reduceLeDiff, Nat.reduceAdd, Nat.reduceMul]
    exact add_tail (by omega) hb ha hlb (by rw [Nat.add_comm]; exact hq)
  · simp (disch := first | assumption | (apply Ap.symm; assumption) | omega | decide | (simp only [Xd] <;> omega)) only [c, fstC, sndC, ac186, ↓Xa, Xb, Xc, ↓reduceIte, Nat.reduceLT, Nat.reduceEqDiff, Nat.reduceBEq, Nat.reduceLeDiff, Nat.reduceAdd, Nat.reduceMul]
    exact add_tail (by omega) ha hb hla hq

theorem sub_fn {a b : List Nat} (ta tb : Bool) (ha : Lim 4294967296 a) (hb : Lim 4294967296 b) (hab : val 4294967296 b ≤ val 4294967296 a) (hl : a.length ≤ 1099511627776) (hlb : b.length ≤ 1099511627776) :
    PFn Tryd.prog 187 [LS a ta, LS b tb] (.tup [LS (digs 4294967296 (val 4294967296 a - val 4294967296 b)) true, .int .i64 ((0 : Nat) : Int)]) := by
  intro H Q hq
  refine enter187 (by simp) ?_
  simp (disch := first | assumption | (apply Ap.symm; assumption) | omega | decide | (simp only [Xd] <;> omega)) only [ac187, ↓Xa, Xb, Xc, ↓reduceIte, Nat.reduceLT, Nat.reduceEqDiff, Nat.reduceBEq, Nat.reduceLeDiff, Nat.reduceAdd, Nat.reduceMul]
  refine (cmp_fn ta tb ha hb).call ?_
  have hc : ∃ n : Nat, cmpZ (val 4294967296 a) (val 4294967296 b) = (n : Int) := by
    by_cases e : val 4294967296 b < val 4294967296 a
    · exact ⟨1, by simp [cmpZ, e, Nat.not_lt_of_lt e]⟩
    · exact ⟨0, by simp [cmpZ, show val 4294967296 a = val 4294967296 b by omega]⟩
  obtain ⟨n, hc⟩ := hc
  simp (disch := first | assumption | (apply Ap.symm; assumption) | omega | decide | (simp only [Xd] <;> omega)) only [hc, ↓Xa, Xb, Xc, ↓reduceIte, Nat.reduceLT, Nat.reduceEqDiff, Nat.reduceBEq, Nat.reduceLeDiff, Nat.reduceAdd, Nat.reduceMul]
  refine newU_i fun o ho => ?_
  simp (disch := first | assumption | (apply Ap.symm; assumption) | omega | decide | (simp only [Xd] <;> omega)) only [↓Xa, Xb, Xc, ↓reduceIte, Nat.reduceLT, Nat.reduceEqDiff, Nat.reduceBEq, Nat.reduceLeDiff, Nat.reduceAdd, Nat.reduceMul]
  refine W_loop (fun p : Nat × Nat × List Nat => ⟨[], [(1, LS b tb), (6, .own o a.length 0 a.length true), (7, .int .u64 p.2.1), (19, LS a ta), (20, .int .i64 a.length), (21, .int .i64 p.1)],
      H.upd o (some (.row 172 1 (U (p.2.2 ++ List.replicate (a.length - p.1) 0))))⟩)
    (fun p => p.1 ≤ a.length ∧ SubI a b p.1 p.2.1 p.2.2) (fun p => a.length - p.1) (0, 0, []) (Settle.now rfl) ⟨by simp, SubI.zero a b⟩ ?_
  rintro ⟨i, c, done⟩ ⟨h1, h2⟩
  dsimp only at h1 h2 ⊢
  have hdl := h2.1
  have hc := h2.2.2.1
  by_cases hi : i < a.length
  · have hx := ha.getD (by omega) i
    have hy := hb.getD (by omega) i
    by_cases hj : i < b.length
    · simp (disch := first | assumption | (apply Ap.symm; assumption) | omega | decide | (simp only [Xd] <;> omega)) only [hi, hj, ↓Xa, Xb, Xc, ↓reduceIte, Nat.reduceLT, Nat.reduceEqDiff, Nat.reduceBEq, Nat.reduceLeDiff, Nat.reduceAdd, Nat.reduceMul]
      refine Settle.now ⟨(i + 1, _, done ++ [_]), by dsimp only; omega, ⟨by dsimp only; omega, h2.step ha hb rfl rfl⟩, ?_⟩
      rw [set_zeros' _ _ _ _ hdl (by omega)]
    · simp (disch := first | assumption | (apply Ap.symm; assumption) | omega | decide | (simp only [Xd] <;> omega)) only [hi, hj, ↓Xa, Xb, Xc, ↓reduceIte, Nat.reduceLT, Nat.reduceEqDiff, Nat.reduceBEq, Nat.reduceLeDiff, Nat.reduceAdd, Nat.reduceMul]
      have := getD_beyond (show b.length ≤ i by omega)
      refine Settle.now ⟨(i + 1, _, done ++ [_]), by dsimp only; omega, ⟨by dsimp only; omega, h2.step ha hb (y := c) (by omega) rfl⟩, ?_⟩
      rw [set_zeros' _ _ _ _ hdl (by omega)]
  · obtain rfl : i = a.length := by omega
    simp (disch := first | assumption | (apply Ap.symm; assumption) | omega | decide | (simp only [Xd] <;> omega)) only [hi, ↓Xa, Xb, Xc, ↓reduceIte, Nat.reduceLT, Nat.reduceEqDiff, Nat.reduceBEq, Nat.reduceLeDiff, Nat.reduceAdd, Nat.reduceMul]
    refine Settle.now ?_
    simp (disch := first | assumption | (apply Ap.symm; assumption) | omega | decide | (simp only [Xd] <;> omega)) only [Nat.sub_self, List.replicate_zero, ↓Xa, Xb, Xc, ↓reduceIte, Nat.reduceLT, Nat.reduceEqDiff, Nat.reduceBEq, Nat.reduceLeDiff, Nat.reduceAdd, Nat.reduceMul]
    refine trim_call (upd_same _ _ _) hdl ?_
    simp (disch := first | assumption | (apply Ap.symm; assumption) | omega | decide | (simp only [Xd] <;> omega)) only [rs187, ↓Xa, Xb, Xc, ↓reduceIte, Nat.reduceLT, Nat.reduceEqDiff, Nat.reduceBEq, Nat.reduceLeDiff, Nat.reduceAdd, Nat.reduceMul]
    exact fin_tr2 ho hdl (by rw [h2.end ha hab]; exact hq)

theorem divsmall_fn {a : List Nat} {d : Nat} (ta : Bool) (ha : Lim 4294967296 a) (hd : 0 < d) (hd' : d < 4294967296) (hla : a.length ≤ 1099511627776) :
    PFn Tryd.prog 212 [LS a ta, .int .u32 (d : Nat)] (.tup [LS (digs 4294967296 (val 4294967296 a / d)) true, .int .u32 ((val 4294967296 a % d : Nat) : Int), .int .i64 ((0 : Nat) : Int)]) := by
  intro H Q hq
  refine enter212 (by simp) ?_
  have hne : (d = 0) = False := by simp; omega
  simp (disch := first | assumption | (apply Ap.symm; assumption) | omega | decide | (simp only [Xd] <;> omega)) only [ac212, hne, ↓Xa, Xb, Xc, ↓reduceIte, Nat.reduceLT, Nat.reduceEqDiff, Nat.reduceBEq, Nat.reduceLeDiff, Nat.reduceAdd, Nat.reduceMul]
  refine newU_i fun o ho => ?_
  simp (disch := first | assumption | (apply Ap.symm; assumption) | omega | decide | (simp only [Xd] <;> omega)) only [↓Xa, Xb, Xc, ↓reduceIte, Nat.reduceLT, Nat.reduceEqDiff, Nat.reduceBEq, Nat.reduceLeDiff, Nat.reduceAdd, Nat.reduceMul]
  refine W_loop (fun p : Nat × Nat × List Nat => ⟨[], [(0, LS a ta), (1, .int .u32 (d : Nat)), (7, .own o a.length 0 a.length true), (8, .int .u64 p.2.1), (9, .int .i64 (dn p.1))],
      H.upd o (some (.row 172 1 (U p.2.2)))⟩)
    (fun p => p.1 ≤ a.length ∧ DivI a d p.1 p.2.1 p.2.2) (fun p => p.1) (a.length, 0, List.replicate a.length 0) (Settle.now rfl) ⟨by simp, DivI.zero a hd⟩ ?_
  rintro ⟨k, r, out⟩ ⟨h1, h2⟩
  dsimp only at h1 h2 ⊢
  have hol := h2.1
  have hr := h2.2.2.1
  cases k with
  | zero =>
    simp (disch := first | assumption | (apply Ap.symm; assumption) | omega | decide | (simp only [Xd] <;> omega)) only [↓Xa, Xb, Xc, ↓reduceIte, Nat.reduceLT, Nat.reduceEqDiff, Nat.reduceBEq, Nat.reduceLeDiff, Nat.reduceAdd, Nat.reduceMul]
    refine Settle.now ?_
    simp (disch := first | assumption | (apply Ap.symm; assumption) | omega | decide | (simp only [Xd] <;> omega)) only [↓Xa, Xb, Xc, ↓reduceIte, Nat.reduceLT, Nat.reduceEqDiff, Nat.reduceBEq, Nat.reduceLeDiff, Nat.reduceAdd, Nat.reduceMul]
    refine trim_call (upd_same _ _ _) hol ?_
    simp (disch := first | assumption | (apply Ap.symm; assumption) | omega | decide | (simp only [Xd] <;> omega)) only [rs212, ↓Xa, Xb, Xc, ↓reduceIte, Nat.reduceLT, Nat.reduceEqDiff, Nat.reduceBEq, Nat.reduceLeDiff, Nat.reduceAdd, Nat.reduceMul]
    rw [h2.end.2]
    exact fin_tr3 ho hol (by rw [h2.end.1]; exact hq)
  | succ k =>
    have hx := ha.getD (by omega) k
    have hs : r * 2 ^ 32 + a.getD k 0 < 18446744073709551616 := by omega
    have hq : (r * 2 ^ 32 + a.getD k 0) / d < 18446744073709551616 := Nat.lt_of_le_of_lt (Nat.div_le_self _ _) hs
    simp (disch := first | assumption | (apply Ap.symm; assumption) | omega | decide | (simp only [Xd] <;> omega)) only [hne, ne_eq, ↓Xa, Xb, Xc, ↓reduceIte, Nat.reduceLT, Nat.reduceEqDiff, Nat.reduceBEq, Nat.reduceLeDiff, Nat.reduceAdd, Nat.reduceMul]
    refine Settle.now ⟨(k, _, _), by dsimp only; omega, ⟨by dsimp only; omega, h2.step (by omega) ha hd' rfl⟩, rfl⟩
end Go.Proofs.YtanchgkiomfhhaaDoor.Fw

/- Binary digits of limbs. -/
namespace Go.Proofs.YtanchgkiomfhhaaDoor.Fw
set_option linter.unusedSimpArgs false
set_option linter.unusedVariables false
open Go Go.Proofs.YtanchgkiomfhhaaDoor.Ma
set_option maxRecDepth 20000

end Go.Proofs.YtanchgkiomfhhaaDoor.Fw

/- What package limb computes: shifts. -/
namespace Go.Proofs.YtanchgkiomfhhaaDoor.Fw
set_option linter.unusedSimpArgs false
set_option linter.unusedVariables false
open Go Go.Proofs.YtanchgkiomfhhaaDoor.Ma
set_option maxRecDepth 20000

end Go.Proofs.YtanchgkiomfhhaaDoor.Fw

/- What package limb computes: a quotient's digit. -/
namespace Go.Proofs.YtanchgkiomfhhaaDoor.Fw
set_option linter.unusedSimpArgs false
set_option linter.unusedVariables false
open Go Go.Proofs.YtanchgkiomfhhaaDoor.Ma
set_option maxRecDepth 20000

section
variable {H : AHeap} {b ty off L n : Nat} {ti : Bool} {pre u post : List Nat}
def scC : ACode → ACode
  | .scope0 c => c
  | x => x
end
end Go.Proofs.YtanchgkiomfhhaaDoor.Fw

/- What package limb computes: quotients and remainders. -/
namespace Go.Proofs.YtanchgkiomfhhaaDoor.Fw
set_option linter.unusedSimpArgs false
set_option linter.unusedVariables false
open Go Go.Proofs.YtanchgkiomfhhaaDoor.Ma
set_option maxRecDepth 20000

end Go.Proofs.YtanchgkiomfhhaaDoor.Fw

/- What package integer computes: making, signs, comparing, sums, products. -/
namespace Go.Proofs.YtanchgkiomfhhaaDoor.Fw
set_option linter.unusedSimpArgs false
set_option linter.unusedVariables false
open Go Go.Proofs.YtanchgkiomfhhaaDoor.Ma
set_option maxRecDepth 20000

def IntA (z : Int) : AV := .agg [.bool (decide (z < 0)), LS (digs 4294967296 z.natAbs) true]
def sg (neg : Bool) (n : Nat) : Int := if neg then -(n : Int) else n
theorem sg_abs (neg : Bool) (n : Nat) : (sg neg n).natAbs = n := by cases neg <;> simp [sg]
theorem sg_neg (neg : Bool) (n : Nat) : decide (sg neg n < 0) = (neg && decide (0 < n)) := by cases neg <;> simp [sg] <;> omega
theorem IntA_sg (neg : Bool) (n : Nat) : IntA (sg neg n) = .agg [.bool (neg && decide (0 < (digs 4294967296 n).length)), LS (digs 4294967296 n) true] := by
  simp only [IntA, sg_abs, sg_neg, digs_pos_len (B := 4294967296) (n := n) (by omega)]

def IntB (z : Int) : AV := .bool (decide (z < 0))
def IntD (z : Int) : AV := LS (digs 4294967296 z.natAbs) true
theorem IntA_eq {z : Int} : IntA z = .agg [IntB z, IntD z] := id rfl
theorem cells_IntA {z : Int} : (IntA z).cells = some [IntB z, IntD z] := id rfl
theorem fold_IntA {z : Int} : AV.agg [IntB z, IntD z] = IntA z := id rfl
theorem made_fn (neg : Bool) (n : Nat) (hl : (digs 4294967296 n).length ≤ 1099511627776) : PFn Tryd.prog 137 [.bool neg, LS (digs 4294967296 n) true] (IntA (sg neg n)) := by
  intro H Q hq
  refine enter137 (by simp) ?_
  rw [IntA_sg] at hq
  simp (disch := first | assumption | (apply Ap.symm; assumption) | omega | decide | (simp only [Xd] <;> omega)) only [ac137, ↓Xa, Xb, Xc, ↓reduceIte, Nat.reduceLT, Nat.reduceEqDiff, Nat.reduceBEq, Nat.reduceLeDiff, Nat.reduceAdd, Nat.reduceMul]
  refine alloc_i fun p hp => ?_
  cases neg
  · simp (disch := first | assumption | (apply Ap.symm; assumption) | omega | decide | (simp only [Xd] <;> omega)) only [rs137, ↓Xa, Xb, Xc, ↓reduceIte, Nat.reduceLT, Nat.reduceEqDiff, Nat.reduceBEq, Nat.reduceLeDiff, Nat.reduceAdd, Nat.reduceMul]
    exact SetR.dropTo ((Le.refl H).upd hp) (SetR.now hq)
  · simp (disch := first | assumption | (apply Ap.symm; assumption) | omega | decide | (simp only [Xd] <;> omega)) only [rs137, ↓Xa, Xb, Xc, ↓reduceIte, Nat.reduceLT, Nat.reduceEqDiff, Nat.reduceBEq, Nat.reduceLeDiff, Nat.reduceAdd, Nat.reduceMul]
    exact SetR.dropTo ((Le.refl H).upd hp) (SetR.now hq)

def Bd (k : Nat) (z : Int) : Prop := z.natAbs < 4294967296 ^ k
theorem Bd.len {k : Nat} {z : Int} (h : Bd k z) : (digs 4294967296 z.natAbs).length ≤ k := digs_len (by omega) k _ h
theorem Bd.mono {k k' : Nat} {z : Int} (h : Bd k z) (hk : k ≤ k') : Bd k' z := Nat.lt_of_lt_of_le h (Nat.pow_le_pow_right (by omega) hk)
theorem Bd.neg {k : Nat} {z : Int} (h : Bd k z) : Bd k (-z) := by unfold Bd at *; omega
theorem Bd.sgn {k n : Nat} {b : Bool} (h : n < 4294967296 ^ k) : Bd k (sg b n) := by unfold Bd; rw [sg_abs]; exact h
theorem Bd.abs {k : Nat} {z : Int} (h : Bd k z) : Bd k (z.natAbs : Int) := by unfold Bd at *; omega
theorem Bd.add {k : Nat} {x y : Int} (h : Bd k x) (h' : Bd k y) : Bd (k + 1) (x + y) := by
  unfold Bd at *; rw [Nat.pow_succ]; omega
theorem Bd.sub {k : Nat} {x y : Int} (h : Bd k x) (h' : Bd k y) : Bd (k + 1) (x - y) := by
  unfold Bd at *; rw [Nat.pow_succ]; omega
theorem Bd.mul {k k' : Nat} {x y : Int} (h : Bd k x) (h' : Bd k' y) : Bd (k + k') (x * y) := by
  unfold Bd at *; rw [Int.natAbs_mul, Nat.pow_add]
  exact Nat.mul_lt_mul_of_lt_of_lt h h'
theorem Bd.zero (k : Nat) : Bd k 0 := by unfold Bd; exact Nat.pow_pos (by omega)
theorem Bd.i64 {n : Int} (h : -9223372036854775808 ≤ n ∧ n < 9223372036854775808) : Bd 2 n := by unfold Bd; omega

theorem make_fn {l : List Nat} (neg t : Bool) (hl : Lim 4294967296 l) (hn : l.length ≤ 1099511627776) : PFn Tryd.prog 35 [.bool neg, LS l t] (IntA (sg neg (val 4294967296 l))) := by
  intro H Q hq
  refine enter35 (by simp) ?_
  simp (disch := first | assumption | (apply Ap.symm; assumption) | omega | decide | (simp only [Xd] <;> omega)) only [ac35, ↓Xa, Xb, Xc, ↓reduceIte, Nat.reduceLT, Nat.reduceEqDiff, Nat.reduceBEq, Nat.reduceLeDiff, Nat.reduceAdd, Nat.reduceMul]
  refine alloc_i fun p hp => ?_
  simp (disch := first | assumption | (apply Ap.symm; assumption) | omega | decide | (simp only [Xd] <;> omega)) only [↓Xa, Xb, Xc, ↓reduceIte, Nat.reduceLT, Nat.reduceEqDiff, Nat.reduceBEq, Nat.reduceLeDiff, Nat.reduceAdd, Nat.reduceMul]
  refine (norm_fn t (by omega)).call ?_
  rw [tr_digs (by omega) hl]
  simp (disch := first | assumption | (apply Ap.symm; assumption) | omega | decide | (simp only [Xd] <;> omega)) only [↓Xa, Xb, Xc, ↓reduceIte, Nat.reduceLT, Nat.reduceEqDiff, Nat.reduceBEq, Nat.reduceLeDiff, Nat.reduceAdd, Nat.reduceMul]
  refine (made_fn neg _ (by have := tr_len l; rw [tr_digs (by omega) hl] at this; omega)).call ?_
  simp (disch := first | assumption | (apply Ap.symm; assumption) | omega | decide | (simp only [Xd] <;> omega)) only [rs35, IntA, ↓Xa, Xb, Xc, ↓reduceIte, Nat.reduceLT, Nat.reduceEqDiff, Nat.reduceBEq, Nat.reduceLeDiff, Nat.reduceAdd, Nat.reduceMul]
  exact SetR.dropTo ((Le.refl H).upd hp) (SetR.now hq)

theorem of_fn {n : Int} (hn : -9223372036854775808 ≤ n ∧ n < 9223372036854775808) : PFn Tryd.prog 58 [.int .i64 n] (IntA n) := by
  intro H Q hq
  refine enter58 (by simp) ?_
  have v2 : ∀ u : Nat, u < 18446744073709551616 → val 4294967296 [u % 4294967296, u / 2 ^ 32] = u := by
    intro u hu; simp only [val]; omega
  have l2 : ∀ u : Nat, u < 18446744073709551616 → Lim 4294967296 [u % 4294967296, u / 2 ^ 32] := fun u hu => Lim.cons (Nat.mod_lt _ (by omega)) (Lim.one (by omega))
  simp (disch := first | assumption | (apply Ap.symm; assumption) | omega | decide | (simp only [Xd] <;> omega)) only [ac58, ↓Xa, Xb, Xc, ↓reduceIte, Nat.reduceLT, Nat.reduceEqDiff, Nat.reduceBEq, Nat.reduceLeDiff, Nat.reduceAdd, Nat.reduceMul]
  refine alloc_i fun p hp => ?_
  have key' : ∀ (u : Nat) (neg : Bool), u < 18446744073709551616 → sg neg u = n → ∀ {H K}, K (IntA n) H → callW Tryd.prog (.fn (.func 35) [] []) [.bool neg, .seq 2 [.int .u32 ((u % 4294967296 : Nat) : Int), .int .u32 ((u / 2 ^ 32 : Nat) : Int)] true] H K := by
    intro u neg hu hs H K hk
    have := make_fn neg true (l2 u hu) (by simp)
    rw [v2 u hu, hs] at this
    exact this.call hk
  by_cases h0 : n < 0
  · obtain ⟨m, rfl⟩ : ∃ m : Nat, n = -(m : Int) := ⟨n.natAbs, by omega⟩
    have c1 : ∀ K, convW .u64 (.int .i64 (-(m : Int))) K ↔ K (.int .u64 ((18446744073709551616 - m : Nat) : Int)) := fun K => by
      simp only [convW, wmod_u64]; rw [show (-(m : Int)) % 18446744073709551616 = ((18446744073709551616 - m : Nat) : Int) by omega]
    have c2 : ∀ K, unW .neg (.int .u64 ((18446744073709551616 - m : Nat) : Int)) K ↔ K (.int .u64 (m : Int)) := fun K => by
      simp only [unW, wmod_u64]; rw [show (0 - ((18446744073709551616 - m : Nat) : Int)) % 18446744073709551616 = (m : Int) by omega]
    have c3 : ∀ K, binW .lss (.int .i64 (-(m : Int))) (.int .i64 ((0 : Nat) : Int)) K ↔ K (.bool true) := fun K => by
      simp only [binW, binInt, true_and]; rw [decide_eq_true (by omega)]
    simp (disch := first | assumption | (apply Ap.symm; assumption) | omega | decide | (simp only [Xd] <;> omega)) only [c1, c2, c3, ↓Xa, Xb, Xc, ↓reduceIte, Nat.reduceLT, Nat.reduceEqDiff, Nat.reduceBEq, Nat.reduceLeDiff, Nat.reduceAdd, Nat.reduceMul]
    refine key' m true (by omega) (by simp [sg]) ?_
    simp (disch := first | assumption | (apply Ap.symm; assumption) | omega | decide | (simp only [Xd] <;> omega)) only [rs58, IntA, ↓Xa, Xb, Xc, ↓reduceIte, Nat.reduceLT, Nat.reduceEqDiff, Nat.reduceBEq, Nat.reduceLeDiff, Nat.reduceAdd, Nat.reduceMul]
    exact SetR.dropTo ((Le.refl H).upd hp) (SetR.now hq)
  · obtain ⟨m, rfl⟩ : ∃ m : Nat, n = (m : Int) := ⟨n.natAbs, by omega⟩
    simp (disch := first | assumption | (apply Ap.symm; assumption) | omega | decide | (simp only [Xd] <;> omega)) only [↓Xa, Xb, Xc, ↓reduceIte, Nat.reduceLT, Nat.reduceEqDiff, Nat.reduceBEq, Nat.reduceLeDiff, Nat.reduceAdd, Nat.reduceMul]
    refine key' m false (by omega) (by simp [sg]) ?_
    simp (disch := first | assumption | (apply Ap.symm; assumption) | omega | decide | (simp only [Xd] <;> omega)) only [rs58, IntA, ↓Xa, Xb, Xc, ↓reduceIte, Nat.reduceLT, Nat.reduceEqDiff, Nat.reduceBEq, Nat.reduceLeDiff, Nat.reduceAdd, Nat.reduceMul]
    exact SetR.dropTo ((Le.refl H).upd hp) (SetR.now hq)

def sgnI (x : Int) : Int := if x = 0 then ((0 : Nat) : Int) else if x < 0 then -1 else ((1 : Nat) : Int)
theorem sign_fn {x : Int} {k : Nat} (hx : Bd k x) (hk : k ≤ 549755813888) : PFn Tryd.prog 27 [IntA x] (.int .i64 (sgnI x)) := by
  intro H Q hq
  have hl := hx.len
  have h0 := digs_len0 (B := 4294967296) (n := x.natAbs) (by omega)
  refine enter27 (by simp) ?_
  simp (disch := first | assumption | (apply Ap.symm; assumption) | omega | decide | (simp only [Xd] <;> omega)) only [ac27, IntA, ↓Xa, Xb, Xc, ↓reduceIte, Nat.reduceLT, Nat.reduceEqDiff, Nat.reduceBEq, Nat.reduceLeDiff, Nat.reduceAdd, Nat.reduceMul]
  refine alloc_i fun p hp => ?_
  by_cases hz : x = 0
  · have h1 : (digs 4294967296 x.natAbs).length = 0 := by rw [h0]; omega
    simp (disch := first | assumption | (apply Ap.symm; assumption) | omega | decide | (simp only [Xd] <;> omega)) only [rs27, h1, ↓Xa, Xb, Xc, ↓reduceIte, Nat.reduceLT, Nat.reduceEqDiff, Nat.reduceBEq, Nat.reduceLeDiff, Nat.reduceAdd, Nat.reduceMul]
    refine SetR.dropTo ((Le.refl H).upd hp) (SetR.now ?_)
    simpa [sgnI, hz] using hq
  · have h1 : ((digs 4294967296 x.natAbs).length = 0) = False := by rw [h0]; simp; omega
    by_cases hn : x < 0
    · simp (disch := first | assumption | (apply Ap.symm; assumption) | omega | decide | (simp only [Xd] <;> omega)) only [rs27, h1, hn, ↓Xa, Xb, Xc, ↓reduceIte, Nat.reduceLT, Nat.reduceEqDiff, Nat.reduceBEq, Nat.reduceLeDiff, Nat.reduceAdd, Nat.reduceMul]
      refine SetR.dropTo ((Le.refl H).upd hp) (SetR.now ?_)
      simpa [sgnI, hz, hn] using hq
    · simp (disch := first | assumption | (apply Ap.symm; assumption) | omega | decide | (simp only [Xd] <;> omega)) only [rs27, h1, hn, ↓Xa, Xb, Xc, ↓reduceIte, Nat.reduceLT, Nat.reduceEqDiff, Nat.reduceBEq, Nat.reduceLeDiff, Nat.reduceAdd, Nat.reduceMul]
      refine SetR.dropTo ((Le.refl H).upd hp) (SetR.now ?_)
      simpa [sgnI, hz, hn] using hq

def cmpI (x y : Int) : Int := if x < y then -1 else if y < x then ((1 : Nat) : Int) else ((0 : Nat) : Int)
theorem cmpi_fn {x y : Int} {k k' : Nat} (hx : Bd k x) (hk : k ≤ 549755813888) (hy : Bd k' y) (hk' : k' ≤ 549755813888) : PFn Tryd.prog 57 [IntA x, IntA y] (.int .i64 (cmpI x y)) := by
  intro H Q hq
  have hl := hx.len
  have hl' := hy.len
  have vx := val_digs (B := 4294967296) (by omega) x.natAbs
  have vy := val_digs (B := 4294967296) (by omega) y.natAbs
  have lx := lim_digs (B := 4294967296) (by omega) x.natAbs
  have ly := lim_digs (B := 4294967296) (by omega) y.natAbs
  refine enter57 (by simp) ?_
  simp (disch := first | assumption | (apply Ap.symm; assumption) | omega | decide | (simp only [Xd] <;> omega)) only [ac57, IntA, ↓Xa, Xb, Xc, ↓reduceIte, Nat.reduceLT, Nat.reduceEqDiff, Nat.reduceBEq, Nat.reduceLeDiff, Nat.reduceAdd, Nat.reduceMul]
  refine alloc_i fun p hp => ?_
  simp (disch := first | assumption | (apply Ap.symm; assumption) | omega | decide | (simp only [Xd] <;> omega)) only [↓Xa, Xb, Xc, ↓reduceIte, Nat.reduceLT, Nat.reduceEqDiff, Nat.reduceBEq, Nat.reduceLeDiff, Nat.reduceAdd, Nat.reduceMul]
  refine alloc_i fun p2 hp2 => ?_
  have hne := (upd_none.1 hp2).1
  have fin : ∀ v, cmpI x y = v → SetR Q (.int .i64 v) ((H.upd p (some (.row 28 0 [.bool (decide (x < 0)), LS (digs 4294967296 x.natAbs) true]))).upd p2 (some (.row 28 0 [.bool (decide (y < 0)), LS (digs 4294967296 y.natAbs) true]))) := fun v hv => SetR.dropTo (((Le.refl H).upd hp).upd hp2) (SetR.now (hv ▸ hq))
  by_cases hn : x < 0
  · by_cases hn' : y < 0
    · simp (disch := first | assumption | (apply Ap.symm; assumption) | omega | decide | (simp only [Xd] <;> omega)) only [hn, hn', ↓Xa, Xb, Xc, ↓reduceIte, Nat.reduceLT, Nat.reduceEqDiff, Nat.reduceBEq, Nat.reduceLeDiff, Nat.reduceAdd, Nat.reduceMul]
      refine (cmp_fn true true ly lx).call ?_
      rw [vx, vy]
      have : cmpI x y = cmpZ y.natAbs x.natAbs := by unfold cmpI cmpZ; split <;> split <;> first | rfl | omega | (split <;> first | rfl | omega | (split <;> first | rfl | omega))
      simp only [hn, hn', decide_true] at fin
      simp (disch := first | assumption | (apply Ap.symm; assumption) | omega | decide | (simp only [Xd] <;> omega)) only [rs57, ↓Xa, Xb, Xc, ↓reduceIte, Nat.reduceLT, Nat.reduceEqDiff, Nat.reduceBEq, Nat.reduceLeDiff, Nat.reduceAdd, Nat.reduceMul]
      exact fin _ this
    · simp (disch := first | assumption | (apply Ap.symm; assumption) | omega | decide | (simp only [Xd] <;> omega)) only [hn, hn', rs57, ↓Xa, Xb, Xc, ↓reduceIte, Nat.reduceLT, Nat.reduceEqDiff, Nat.reduceBEq, Nat.reduceLeDiff, Nat.reduceAdd, Nat.reduceMul]
      simp only [hn, hn', decide_true, decide_false] at fin
      exact fin _ (by unfold cmpI; rw [if_pos (by omega)])
  · by_cases hn' : y < 0
    · simp (disch := first | assumption | (apply Ap.symm; assumption) | omega | decide | (simp only [Xd] <;> omega)) only [hn, hn', rs57, ↓Xa, Xb, Xc, ↓reduceIte, Nat.reduceLT, Nat.reduceEqDiff, Nat.reduceBEq, Nat.reduceLeDiff, Nat.reduceAdd, Nat.reduceMul]
      simp only [hn, hn', decide_true, decide_false] at fin
      exact fin _ (by unfold cmpI; rw [if_neg (by omega), if_pos (by omega)])
    · simp (disch := first | assumption | (apply Ap.symm; assumption) | omega | decide | (simp only [Xd] <;> omega)) only [hn, hn', ↓Xa, Xb, Xc, ↓reduceIte, Nat.reduceLT, Nat.reduceEqDiff, Nat.reduceBEq, Nat.reduceLeDiff, Nat.reduceAdd, Nat.reduceMul]
      refine (cmp_fn true true lx ly).call ?_
      rw [vx, vy]
      have : cmpI x y = cmpZ x.natAbs y.natAbs := by unfold cmpI cmpZ; split <;> split <;> first | rfl | omega | (split <;> first | rfl | omega | (split <;> first | rfl | omega))
      simp only [hn, hn', decide_false] at fin
      simp (disch := first | assumption | (apply Ap.symm; assumption) | omega | decide | (simp only [Xd] <;> omega)) only [rs57, ↓Xa, Xb, Xc, ↓reduceIte, Nat.reduceLT, Nat.reduceEqDiff, Nat.reduceBEq, Nat.reduceLeDiff, Nat.reduceAdd, Nat.reduceMul]
      exact fin _ this

theorem addi_fn {x y : Int} {k k' : Nat} (hx : Bd k x) (hk : k ≤ 549755813888) (hy : Bd k' y) (hk' : k' ≤ 549755813888) : PFn Tryd.prog 121 [IntA x, IntA y] (IntA (x + y)) := by
  intro H Q hq
  have hl := hx.len
  have hl' := hy.len
  have vx := val_digs (B := 4294967296) (by omega) x.natAbs
  have vy := val_digs (B := 4294967296) (by omega) y.natAbs
  have lx := lim_digs (B := 4294967296) (by omega) x.natAbs
  have ly := lim_digs (B := 4294967296) (by omega) y.natAbs
  have hxm := hx.mono (Nat.le_max_left k k')
  have hym := hy.mono (Nat.le_max_right k k')
  refine enter121 (by simp) ?_
  simp (disch := first | assumption | (apply Ap.symm; assumption) | omega | decide | (simp only [Xd] <;> omega)) only [ac121, IntA, ↓Xa, Xb, Xc, ↓reduceIte, Nat.reduceLT, Nat.reduceEqDiff, Nat.reduceBEq, Nat.reduceLeDiff, Nat.reduceAdd, Nat.reduceMul]
  refine alloc_i fun p hp => ?_
  simp (disch := first | assumption | (apply Ap.symm; assumption) | omega | decide | (simp only [Xd] <;> omega)) only [↓Xa, Xb, Xc, ↓reduceIte, Nat.reduceLT, Nat.reduceEqDiff, Nat.reduceBEq, Nat.reduceLeDiff, Nat.reduceAdd, Nat.reduceMul]
  refine alloc_i fun p2 hp2 => ?_
  simp (disch := first | assumption | (apply Ap.symm; assumption) | omega | decide | (simp only [Xd] <;> omega)) only [↓Xa, Xb, Xc, ↓reduceIte, Nat.reduceLT, Nat.reduceEqDiff, Nat.reduceBEq, Nat.reduceLeDiff, Nat.reduceAdd, Nat.reduceMul]
  refine alloc_i fun p3 hp3 => ?_
  have hne := (upd_none.1 hp2).1
  have hne3 := (upd_none.1 hp3).1
  have hne4 := (upd_none.1 (upd_none.1 hp3).2).1
  by_cases hs : decide (x < 0) = decide (y < 0)
  · have hsb : (decide (x < 0) == decide (y < 0)) = true := by rw [hs]; simp
    simp (disch := first | assumption | (apply Ap.symm; assumption) | omega | decide | (simp only [Xd] <;> omega)) only [hsb, ↓Xa, Xb, Xc, ↓reduceIte, Nat.reduceLT, Nat.reduceEqDiff, Nat.reduceBEq, Nat.reduceLeDiff, Nat.reduceAdd, Nat.reduceMul]
    refine PFn.dcall (add_fn true true lx ly (by omega) (by omega)) ?_
    rw [vx, vy]
    simp (disch := first | assumption | (apply Ap.symm; assumption) | omega | decide | (simp only [Xd] <;> omega)) only [↓Xa, Xb, Xc, ↓reduceIte, Nat.reduceLT, Nat.reduceEqDiff, Nat.reduceBEq, Nat.reduceLeDiff, Nat.reduceAdd, Nat.reduceMul]
    have hb : Bd (max k k' + 1) (sg (decide (x < 0)) (x.natAbs + y.natAbs)) := Bd.sgn (by unfold Bd at hxm hym; rw [Nat.pow_succ]; omega)
    have hb' := hb.len
    rw [sg_abs] at hb'
    refine (made_fn _ _ (by omega)).call ?_
    simp (disch := first | assumption | (apply Ap.symm; assumption) | omega | decide | (simp only [Xd] <;> omega)) only [rs121, IntA, ↓Xa, Xb, Xc, ↓reduceIte, Nat.reduceLT, Nat.reduceEqDiff, Nat.reduceBEq, Nat.reduceLeDiff, Nat.reduceAdd, Nat.reduceMul]
    have e : x + y = sg (decide (x < 0)) (x.natAbs + y.natAbs) := by
      have := decide_eq_decide.1 hs
      unfold sg; by_cases h : x < 0 <;> simp [h] <;> omega
    rw [e] at hq
    exact SetR.dropTo ((((Le.refl H).upd hp).upd hp2).upd hp3) (SetR.now hq)
  · have hsb : (decide (x < 0) == decide (y < 0)) = false := by simpa using hs
    have hs' : ¬ ((x < 0) ↔ (y < 0)) := fun h => hs (decide_eq_decide.2 h)
    simp (disch := first | assumption | (apply Ap.symm; assumption) | omega | decide | (simp only [Xd] <;> omega)) only [hsb, ↓Xa, Xb, Xc, ↓reduceIte, Nat.reduceLT, Nat.reduceEqDiff, Nat.reduceBEq, Nat.reduceLeDiff, Nat.reduceAdd, Nat.reduceMul]
    refine (cmp_fn true true lx ly).call ?_
    rw [vx, vy]
    by_cases hc : x.natAbs < y.natAbs
    · have c3 : ∀ K, binW .lss (.int .i64 (cmpZ x.natAbs y.natAbs)) (.int .i64 ((0 : Nat) : Int)) K ↔ K (.bool true) := fun K => by
        simp [binW, binInt, cmpZ, hc]
      simp (disch := first | assumption | (apply Ap.symm; assumption) | omega | decide | (simp only [Xd] <;> omega)) only [c3, ↓Xa, Xb, Xc, ↓reduceIte, Nat.reduceLT, Nat.reduceEqDiff, Nat.reduceBEq, Nat.reduceLeDiff, Nat.reduceAdd, Nat.reduceMul]
      refine (sub_fn true true ly lx (by rw [vx, vy]; omega) (by omega) (by omega)).call ?_
      rw [vx, vy]
      simp (disch := first | assumption | (apply Ap.symm; assumption) | omega | decide | (simp only [Xd] <;> omega)) only [↓Xa, Xb, Xc, ↓reduceIte, Nat.reduceLT, Nat.reduceEqDiff, Nat.reduceBEq, Nat.reduceLeDiff, Nat.reduceAdd, Nat.reduceMul]
      have hb : Bd k' (sg (decide (y < 0)) (y.natAbs - x.natAbs)) := Bd.sgn (by unfold Bd at hy; omega)
      have hb' := hb.len
      rw [sg_abs] at hb'
      refine (made_fn _ _ (by omega)).call ?_
      simp (disch := first | assumption | (apply Ap.symm; assumption) | omega | decide | (simp only [Xd] <;> omega)) only [rs121, IntA, ↓Xa, Xb, Xc, ↓reduceIte, Nat.reduceLT, Nat.reduceEqDiff, Nat.reduceBEq, Nat.reduceLeDiff, Nat.reduceAdd, Nat.reduceMul]
      have e : x + y = sg (decide (y < 0)) (y.natAbs - x.natAbs) := by
        unfold sg; by_cases h : y < 0 <;> simp [h] <;> omega
      rw [e] at hq
      exact SetR.dropTo ((((Le.refl H).updB hp).updB (upd_none.1 hp2).2).updB (upd_none.1 (upd_none.1 hp3).2).2) (SetR.now hq)
    · have c3 : ∀ K, binW .lss (.int .i64 (cmpZ x.natAbs y.natAbs)) (.int .i64 ((0 : Nat) : Int)) K ↔ K (.bool false) := fun K => by
        have : ¬ (cmpZ x.natAbs y.natAbs < 0) := by unfold cmpZ; rw [if_neg hc]; split <;> omega
        simp [binW, binInt]; rw [decide_eq_false this]
      simp (disch := first | assumption | (apply Ap.symm; assumption) | omega | decide | (simp only [Xd] <;> omega)) only [c3, ↓Xa, Xb, Xc, ↓reduceIte, Nat.reduceLT, Nat.reduceEqDiff, Nat.reduceBEq, Nat.reduceLeDiff, Nat.reduceAdd, Nat.reduceMul]
      refine (sub_fn true true lx ly (by rw [vx, vy]; omega) (by omega) (by omega)).call ?_
      rw [vx, vy]
      simp (disch := first | assumption | (apply Ap.symm; assumption) | omega | decide | (simp only [Xd] <;> omega)) only [↓Xa, Xb, Xc, ↓reduceIte, Nat.reduceLT, Nat.reduceEqDiff, Nat.reduceBEq, Nat.reduceLeDiff, Nat.reduceAdd, Nat.reduceMul]
      have hb : Bd k (sg (decide (x < 0)) (x.natAbs - y.natAbs)) := Bd.sgn (by unfold Bd at hx; omega)
      have hb' := hb.len
      rw [sg_abs] at hb'
      refine (made_fn _ _ (by omega)).call ?_
      simp (disch := first | assumption | (apply Ap.symm; assumption) | omega | decide | (simp only [Xd] <;> omega)) only [rs121, IntA, ↓Xa, Xb, Xc, ↓reduceIte, Nat.reduceLT, Nat.reduceEqDiff, Nat.reduceBEq, Nat.reduceLeDiff, Nat.reduceAdd, Nat.reduceMul]
      have e : x + y = sg (decide (x < 0)) (x.natAbs - y.natAbs) := by
        unfold sg; by_cases h : x < 0 <;> simp [h] <;> omega
      rw [e] at hq
      exact SetR.dropTo ((((Le.refl H).upd hp).upd hp2).upd hp3) (SetR.now hq)

end Go.Proofs.YtanchgkiomfhhaaDoor.Fw

/- What the reference computes of whole numbers: digits to the base 65536. -/
namespace Go.Proofs.YtanchgkiomfhhaaDoor.Fw
set_option linter.unusedSimpArgs false
set_option linter.unusedVariables false
open Go Go.Proofs.YtanchgkiomfhhaaDoor.Ma
set_option maxRecDepth 20000

def RefA (z : Int) (t : Bool) : AV := .agg [.bool (decide (z < 0)), LS (digs 65536 z.natAbs) t]
end Go.Proofs.YtanchgkiomfhhaaDoor.Fw

/- What the reference computes of whole numbers: signs, comparing, sums, products. -/
namespace Go.Proofs.YtanchgkiomfhhaaDoor.Fw
set_option linter.unusedSimpArgs false
set_option linter.unusedVariables false
open Go Go.Proofs.YtanchgkiomfhhaaDoor.Ma
set_option maxRecDepth 20000

end Go.Proofs.YtanchgkiomfhhaaDoor.Fw

/- What the reference computes of whole numbers: sums, differences, products. -/
namespace Go.Proofs.YtanchgkiomfhhaaDoor.Fw
set_option linter.unusedSimpArgs false
set_option linter.unusedVariables false
open Go Go.Proofs.YtanchgkiomfhhaaDoor.Ma
set_option maxRecDepth 20000

end Go.Proofs.YtanchgkiomfhhaaDoor.Fw

/- The laws' own helpers: one number in both, numbers that are too long, one answer that is fixed. -/
namespace Go.Proofs.YtanchgkiomfhhaaDoor.Fw
set_option linter.unusedSimpArgs false
set_option linter.unusedVariables false
open Go Go.Proofs.YtanchgkiomfhhaaDoor.Ma
set_option maxRecDepth 20000

def NumA (q : Bool × List Nat × Bool) : AV := .agg [.bool q.1, LS q.2.1 q.2.2]
def NumC : List (Bool × List Nat × Bool) → List AV
  | [] => []
  | q :: r => .bool q.1 :: LS q.2.1 q.2.2 :: NumC r
def fits (x : Int) : Bool := decide (-9223372036854775808 ≤ x ∧ x < 9223372036854775808)
def smallV (x : Int) : Int := if fits x then x else ((0 : Nat) : Int)
theorem small_fn {x : Int} {k : Nat} (hx : Bd k x) (hk : k ≤ 549755813888) : PFn Tryd.prog 55 [IntA x] (.tup [.int .i64 (smallV x), .bool (fits x)]) := by
  intro H Q hq
  have hl := hx.len
  have vx := val_digs (B := 4294967296) (by omega) x.natAbs
  have lx := lim_digs (B := 4294967296) (by omega) x.natAbs
  refine enter55 (by simp) ?_
  simp (disch := first | assumption | (apply Ap.symm; assumption) | omega | decide | (simp only [Xd] <;> omega)) only [ac55, IntA, ↓Xa, Xb, Xc, ↓reduceIte, Nat.reduceLT, Nat.reduceEqDiff, Nat.reduceBEq, Nat.reduceLeDiff, Nat.reduceAdd, Nat.reduceMul]
  refine alloc_i fun p hp => ?_
  have le' : ∀ {x}, Le H (H.upd p x) := (Le.refl H).upd hp
  generalize hX : digs 4294967296 x.natAbs = X at *
  have zero : fits x = false → SetR Q (.tup [.int .i64 ((0 : Nat) : Int), .bool false]) (H.upd p (some (.row 28 0 [.bool (decide (x < 0)), LS X true]))) := fun h => by
    refine SetR.dropTo le' (SetR.now ?_)
    simpa [smallV, h] using hq
  by_cases h2 : 2 < X.length
  · simp (disch := first | assumption | (apply Ap.symm; assumption) | omega | decide | (simp only [Xd] <;> omega)) only [h2, rs55, ↓Xa, Xb, Xc, ↓reduceIte, Nat.reduceLT, Nat.reduceEqDiff, Nat.reduceBEq, Nat.reduceLeDiff, Nat.reduceAdd, Nat.reduceMul]
    refine zero (decide_eq_false fun hf => ?_)
    have : (digs 4294967296 x.natAbs).length ≤ 2 := digs_len (by omega) 2 _ (by omega)
    rw [hX] at this; omega
  · have hv : val 4294967296 X < 18446744073709551616 := by
      have := val_lt lx
      have h3 : (4294967296 : Nat) ^ X.length ≤ 4294967296 ^ 2 := Nat.pow_le_pow_right (by omega) (by omega)
      omega
    simp (disch := first | assumption | (apply Ap.symm; assumption) | omega | decide | (simp only [Xd] <;> omega)) only [h2, ↓Xa, Xb, Xc, ↓reduceIte, Nat.reduceLT, Nat.reduceEqDiff, Nat.reduceBEq, Nat.reduceLeDiff, Nat.reduceAdd, Nat.reduceMul]
    have or0 : ∀ {b : Nat} {K : AV → Prop} (_ : b < 4294967296), binW .or (.int .u64 ((0 : Nat) : Int)) (.int .u64 (b : Int)) K ↔ K (.int .u64 (b : Int)) := fun {b K} hb => by
      rw [bin_or .u64 (by simp [IntKind.bits]) (by simp [IntKind.bits]; omega), Nat.zero_or, wn_u64 (by omega)]
    have shl0 : ∀ {a : Nat} {K : AV → Prop} (_ : a < 4294967296), binW .shl (.int .u64 (a : Int)) (.int .i64 ((0 : Nat) : Int)) K ↔ K (.int .u64 (a : Int)) := fun {a K} ha => by
      rw [bin_shl64 _ _ (by omega), Nat.pow_zero, Nat.mul_one, wn_u64 (by omega)]
    refine W_loop (fun i : Nat => ⟨[], [(1, .ptr p 2 0), (4, .int .u64 ((val 4294967296 (X.take i) : Nat) : Int)), (12, LS X true), (13, .int .i64 X.length), (14, .int .i64 i)], _⟩) (fun i => i ≤ X.length) (fun i => X.length - i) 0 (Settle.now rfl) (by simp) ?_
    intro i h1
    by_cases hi : i < X.length
    · have hxi := lx.getD (by omega) i
      have hi2 : i = 0 ∨ i = 1 := by omega
      rcases hi2 with rfl | rfl
      · have e : val 4294967296 (X.take (0 + 1)) = X.getD 0 0 := by rw [val_take]; simp [val]
        rw [show val 4294967296 (X.take 0) = 0 by simp [val]]
        simp (disch := first | assumption | (apply Ap.symm; assumption) | omega | decide | (simp only [Xd] <;> omega)) only [hi, or0, shl0, load_LS0, Nat.mul_zero, ↓Xa, Xb, Xc, ↓reduceIte, Nat.reduceLT, Nat.reduceEqDiff, Nat.reduceBEq, Nat.reduceLeDiff, Nat.reduceAdd, Nat.reduceMul]
        refine Settle.now ⟨0 + 1, by omega, by omega, ?_⟩
        rw [e]
      · have e : val 4294967296 (X.take (1 + 1)) = X.getD 0 0 + X.getD 1 0 * 2 ^ 32 := by rw [val_take, val_take]; simp [val]; omega
        have hx0 := lx.getD (by omega) 0
        rw [show val 4294967296 (X.take 1) = X.getD 0 0 by rw [show 1 = 0 + 1 from rfl, val_take]; simp [val]]
        simp (disch := first | assumption | (apply Ap.symm; assumption) | omega | decide | (simp only [Xd] <;> omega)) only [hi, Nat.mul_one, bin_or64', ↓Xa, Xb, Xc, ↓reduceIte, Nat.reduceLT, Nat.reduceEqDiff, Nat.reduceBEq, Nat.reduceLeDiff, Nat.reduceAdd, Nat.reduceMul]
        refine Settle.now ?_
        refine ⟨2, by omega, by omega, ?_⟩
        rw [show val 4294967296 (X.take 2) = _ from e]
    · have e : val 4294967296 (X.take i) = x.natAbs := by rw [val_take_all _ _ _ (by omega), vx]
      rw [e]
      rw [vx] at hv
      simp (disch := first | assumption | (apply Ap.symm; assumption) | omega | decide | (simp only [Xd] <;> omega)) only [hi, ↓Xa, Xb, Xc, ↓reduceIte, Nat.reduceLT, Nat.reduceEqDiff, Nat.reduceBEq, Nat.reduceLeDiff, Nat.reduceAdd, Nat.reduceMul]
      refine Settle.now ?_
      by_cases hn : x < 0
      · by_cases hf : x.natAbs ≤ 9223372036854775808
        · have f : fits x = true := decide_eq_true (by omega)
          have c1 : ∀ K, unW .neg (.int .u64 ((x.natAbs : Nat) : Int)) K ↔ K (.int .u64 ((18446744073709551616 - x.natAbs : Nat) : Int)) := fun K => by
            simp only [unW, wmod_u64]; rw [show (0 - ((x.natAbs : Nat) : Int)) % 18446744073709551616 = ((18446744073709551616 - x.natAbs : Nat) : Int) by omega]
          have c2 : ∀ K, convW .i64 (.int .u64 ((18446744073709551616 - x.natAbs : Nat) : Int)) K ↔ K (.int .i64 x) := fun K => by
            have : IntKind.i64.wrap ((18446744073709551616 - x.natAbs : Nat) : Int) = x := by
              unfold IntKind.wrap; simp only [IntKind.bits, IntKind.signed, Bool.true_and, decide_eq_true_eq, ge_iff_le]; split <;> omega
            simp only [convW, this]
          simp (disch := first | assumption | (apply Ap.symm; assumption) | omega | decide | (simp only [Xd] <;> omega)) only [hn, hf, c1, c2, rs55, ↓Xa, Xb, Xc, ↓reduceIte, Nat.reduceLT, Nat.reduceEqDiff, Nat.reduceBEq, Nat.reduceLeDiff, Nat.reduceAdd, Nat.reduceMul]
          refine SetR.dropTo le' (SetR.now ?_)
          simpa [smallV, f] using hq
        · have f : fits x = false := decide_eq_false (by omega)
          simp (disch := first | assumption | (apply Ap.symm; assumption) | omega | decide | (simp only [Xd] <;> omega)) only [hn, hf, rs55, ↓Xa, Xb, Xc, ↓reduceIte, Nat.reduceLT, Nat.reduceEqDiff, Nat.reduceBEq, Nat.reduceLeDiff, Nat.reduceAdd, Nat.reduceMul]
          simp only [hn, decide_true] at zero
          exact zero f
      · by_cases hf : x.natAbs < 9223372036854775808
        · have f : fits x = true := decide_eq_true (by omega)
          have e3 : ((x.natAbs : Nat) : Int) = x := by omega
          simp (disch := first | assumption | (apply Ap.symm; assumption) | omega | decide | (simp only [Xd] <;> omega)) only [hn, hf, rs55, ↓Xa, Xb, Xc, ↓reduceIte, Nat.reduceLT, Nat.reduceEqDiff, Nat.reduceBEq, Nat.reduceLeDiff, Nat.reduceAdd, Nat.reduceMul]
          refine SetR.dropTo le' (SetR.now ?_)
          simpa [smallV, f, e3] using hq
        · have f : fits x = false := decide_eq_false (by omega)
          simp (disch := first | assumption | (apply Ap.symm; assumption) | omega | decide | (simp only [Xd] <;> omega)) only [hn, hf, rs55, ↓Xa, Xb, Xc, ↓reduceIte, Nat.reduceLT, Nat.reduceEqDiff, Nat.reduceBEq, Nat.reduceLeDiff, Nat.reduceAdd, Nat.reduceMul]
          simp only [hn, decide_false] at zero
          exact zero f
end Go.Proofs.YtanchgkiomfhhaaDoor.Fw

/- The law of sums, as what its code computes: true. -/
namespace Go.Proofs.YtanchgkiomfhhaaDoor.Fw
set_option linter.unusedSimpArgs false
set_option linter.unusedVariables false
open Go Go.Proofs.YtanchgkiomfhhaaDoor.Ma
set_option maxRecDepth 20000

theorem eql_self {k : IntKind} {n : Int} {K : AV → Prop} : binW .eql (.int k n) (.int k n) K ↔ K (.bool true) := by simp [binW, binInt]

end Go.Proofs.YtanchgkiomfhhaaDoor.Fw

/- Sums and products of rows of whole numbers. -/
namespace Go.Proofs.YtanchgkiomfhhaaDoor.Fw
set_option linter.unusedSimpArgs false
set_option linter.unusedVariables false
open Go Go.Proofs.YtanchgkiomfhhaaDoor.Ma
set_option maxRecDepth 20000

def IntC : List Int → List AV
  | [] => []
  | z :: r => .bool (decide (z < 0)) :: LS (digs 4294967296 z.natAbs) true :: IntC r
section
variable {l : List Int} {t : Bool} {H : AHeap} {K : AV → Prop}
end
end Go.Proofs.YtanchgkiomfhhaaDoor.Fw

/- The ring's law, as what its code computes: true. -/
namespace Go.Proofs.YtanchgkiomfhhaaDoor.Fw
set_option linter.unusedSimpArgs false
set_option linter.unusedVariables false
open Go Go.Proofs.YtanchgkiomfhhaaDoor.Ma
set_option maxRecDepth 20000

end Go.Proofs.YtanchgkiomfhhaaDoor.Fw

/- Binary digits; powers. -/
namespace Go.Proofs.YtanchgkiomfhhaaDoor.Fw
set_option linter.unusedSimpArgs false
set_option linter.unusedVariables false
open Go Go.Proofs.YtanchgkiomfhhaaDoor.Ma
set_option maxRecDepth 20000

theorem sgn_neq0 {x : Int} {K : AV → Prop} : binW .neq (.int .i64 (sgnI x)) (.int .i64 ((0 : Nat) : Int)) K ↔ K (.bool (!decide (x = 0))) := by
  have : (sgnI x = ((0 : Nat) : Int)) ↔ x = 0 := by unfold sgnI; split <;> simp_all; split <;> omega
  simp only [binW, binInt, true_and, this]
end Go.Proofs.YtanchgkiomfhhaaDoor.Fw

/- Powers, as the program and the reference have them. -/
namespace Go.Proofs.YtanchgkiomfhhaaDoor.Fw
set_option linter.unusedSimpArgs false
set_option linter.unusedVariables false
open Go Go.Proofs.YtanchgkiomfhhaaDoor.Ma
set_option maxRecDepth 20000

end Go.Proofs.YtanchgkiomfhhaaDoor.Fw

/- The law of powers, as what its code computes: true. -/
namespace Go.Proofs.YtanchgkiomfhhaaDoor.Fw
set_option linter.unusedSimpArgs false
set_option linter.unusedVariables false
open Go Go.Proofs.YtanchgkiomfhhaaDoor.Ma
set_option maxRecDepth 20000

def RefB (z : Int) : AV := .bool (decide (z < 0))
def RefD (z : Int) : AV := LS (digs 65536 z.natAbs) false
theorem Bd.blen {z : Int} {k : Nat} (h : Bd k z) : Ma.blen z.natAbs ≤ 32 * k := by rw [blen_le, Nat.pow_mul]; exact h
end Go.Proofs.YtanchgkiomfhhaaDoor.Fw

/- Quotients and remainders of whole numbers, as the program has them. -/
namespace Go.Proofs.YtanchgkiomfhhaaDoor.Fw
set_option linter.unusedSimpArgs false
set_option linter.unusedVariables false
open Go Go.Proofs.YtanchgkiomfhhaaDoor.Ma
set_option maxRecDepth 20000

end Go.Proofs.YtanchgkiomfhhaaDoor.Fw

/- What the reference computes on rows of one's own: comparing, taking away, striking high noughts. -/
namespace Go.Proofs.YtanchgkiomfhhaaDoor.Fw
set_option linter.unusedSimpArgs false
set_option linter.unusedVariables false
open Go Go.Proofs.YtanchgkiomfhhaaDoor.Ma
set_option maxRecDepth 20000

end Go.Proofs.YtanchgkiomfhhaaDoor.Fw

/- The reference's division: a bit of a number; division by one digit. -/
namespace Go.Proofs.YtanchgkiomfhhaaDoor.Fw
set_option linter.unusedSimpArgs false
set_option linter.unusedVariables false
open Go Go.Proofs.YtanchgkiomfhhaaDoor.Ma
set_option maxRecDepth 20000

end Go.Proofs.YtanchgkiomfhhaaDoor.Fw

/- The reference's division, bit by bit. -/
namespace Go.Proofs.YtanchgkiomfhhaaDoor.Fw
set_option linter.unusedSimpArgs false
set_option linter.unusedVariables false
open Go Go.Proofs.YtanchgkiomfhhaaDoor.Ma
set_option maxRecDepth 20000

structure LongK (A V M : Nat) (ql : List Nat) : Prop where
  hM : M ≤ blen A
  qlen : ql.length = (digs 65536 A).length
  qlim : Lim 65536 ql
  qval : val 65536 ql = A / 2 ^ M / V * 2 ^ M

end Go.Proofs.YtanchgkiomfhhaaDoor.Fw

/- Quotients and remainders of whole numbers, as the reference has them. -/
namespace Go.Proofs.YtanchgkiomfhhaaDoor.Fw
set_option linter.unusedSimpArgs false
set_option linter.unusedVariables false
open Go Go.Proofs.YtanchgkiomfhhaaDoor.Ma
set_option maxRecDepth 20000

end Go.Proofs.YtanchgkiomfhhaaDoor.Fw

/- The law of quotients, as what its code computes: true. -/
namespace Go.Proofs.YtanchgkiomfhhaaDoor.Fw
set_option linter.unusedSimpArgs false
set_option linter.unusedVariables false
open Go Go.Proofs.YtanchgkiomfhhaaDoor.Ma
set_option maxRecDepth 20000

end Go.Proofs.YtanchgkiomfhhaaDoor.Fw

/- The greatest common divisor, as the reference and as the program have it. -/
namespace Go.Proofs.YtanchgkiomfhhaaDoor.Fw
set_option linter.unusedSimpArgs false
set_option linter.unusedVariables false
open Go Go.Proofs.YtanchgkiomfhhaaDoor.Ma
set_option maxRecDepth 20000

end Go.Proofs.YtanchgkiomfhhaaDoor.Fw

/- How the greatest common divisor is put together, as the program finds it. -/
namespace Go.Proofs.YtanchgkiomfhhaaDoor.Fw
set_option linter.unusedSimpArgs false
set_option linter.unusedVariables false
open Go Go.Proofs.YtanchgkiomfhhaaDoor.Ma
set_option maxRecDepth 20000

theorem Bd.le {x y : Int} {k : Nat} (h : Bd k y) (hl : x.natAbs ≤ y.natAbs) : Bd k x := Nat.lt_of_le_of_lt hl h
theorem Bd.ediv {x y : Int} {k : Nat} (h : Bd k x) : Bd k (x / y) := h.le (Int.natAbs_ediv_le_natAbs x y)
end Go.Proofs.YtanchgkiomfhhaaDoor.Fw

/- The law of the greatest common divisor, as what its code computes: true. -/
namespace Go.Proofs.YtanchgkiomfhhaaDoor.Fw
set_option linter.unusedSimpArgs false
set_option linter.unusedVariables false
open Go Go.Proofs.YtanchgkiomfhhaaDoor.Ma
set_option maxRecDepth 20000

def BezF (x y u v : Int) : Prop := u * x + v * y = (Int.gcd x y : Int) ∧ (y = 0 → u = sgnI x ∧ v = 0) ∧ (y ≠ 0 → 0 ≤ u ∧ u < (y.natAbs : Int) / (Int.gcd x y : Int))
end Go.Proofs.YtanchgkiomfhhaaDoor.Fw

/- Rows of whole numbers: frozen or owned, read alike. -/
namespace Go.Proofs.YtanchgkiomfhhaaDoor.Fw
set_option linter.unusedSimpArgs false
set_option linter.unusedVariables false
open Go Go.Proofs.YtanchgkiomfhhaaDoor.Ma
set_option maxRecDepth 20000

def IC (zs : List Int) : List AV := zs.flatMap fun z => [IntB z, IntD z]
theorem IC_len (zs : List Int) : (IC zs).length = zs.length * 2 := by
  induction zs with
  | nil => rfl
  | cons a l ih => simp only [IC, List.flatMap_cons, List.length_append, List.length_cons, List.length_nil] at *; omega
theorem IC_snoc (zs : List Int) (z : Int) : IC (zs ++ [z]) = IC zs ++ [IntB z, IntD z] := by simp [IC, List.flatMap_append]
theorem IC_drop : ∀ (l : List Int) (i : Nat) (h : i < l.length), (IC l).drop (i * 2) = IntB (l[i]) :: IntD (l[i]) :: (IC l).drop (i * 2 + 2)
  | a :: l, 0, _ => rfl
  | a :: l, i + 1, h => by
    have := IC_drop l i (by simpa using h)
    rw [show (i + 1) * 2 = i * 2 + 2 by omega]
    show ((IntB a :: IntD a :: IC l).drop (i * 2 + 2)) = _
    simp only [List.drop_succ_cons, List.getElem_cons_succ]
    rw [this]
    show _ = _ :: _ :: ((IntB a :: IntD a :: IC l).drop (i * 2 + 2 + 2))
    simp only [List.drop_succ_cons]
def RowI (H : AHeap) (x : AV) (zs : List Int) : Prop :=
  (∃ t, x = .seq zs.length (IC zs) t) ∨ ∃ b ty t, x = .own b (zs.length * 2) 0 zs.length t ∧ H b = some (.row ty 2 (IC zs))
theorem RowI.le {H H' : AHeap} {x : AV} {zs : List Int} (h : RowI H x zs) (hl : Le H H') : RowI H' x zs := by
  rcases h with h | ⟨b, ty, t, e, hb⟩
  · exact .inl h
  · exact .inr ⟨b, ty, t, e, hl b _ hb⟩
theorem RowI.nil {H : AHeap} : RowI H (.seq 0 [] true) [] := .inl ⟨true, rfl⟩
theorem RowI.grown {H0 H : AHeap} {ty : TypeId} {x : AV} {zs : List Int} (h : growC H0 ty 2 zs.length (IC zs) x H) : RowI H x zs := by
  rcases h with ⟨h1, h2, rfl, rfl⟩ | ⟨h1, h2, b, hb, rfl, rfl⟩
  · have : zs = [] := List.length_eq_zero_iff.1 h1
    subst this; exact RowI.nil
  · exact .inr ⟨b, ty, false, rfl, upd_same _ _ _⟩
theorem RowI.len {H : AHeap} {x : AV} {zs : List Int} (h : RowI H x zs) (hn : zs.length < 9223372036854775808) {K : AV → Prop} : lenW false x K = K (.int .i64 ((zs.length : Nat) : Int)) := by
  rcases h with ⟨t, rfl⟩ | ⟨b, ty, t, rfl, hb⟩ <;> simp [lenW, hn]
theorem RowI.get {H : AHeap} {x : AV} {zs : List Int} (h : RowI H x zs) {i : Nat} (hi : i < zs.length) : ∃ p, (∀ {k : IntKind} {K : AV → Prop}, (liveS H x ∧ idxAW 2 x (.int k (i : Int)) K) ↔ K p) ∧ ∀ {K : AV → Prop}, loadW H (some 2) p K ↔ K (IntA (zs[i])) := by
  rcases h with ⟨t, rfl⟩ | ⟨b, ty, t, rfl, hb⟩
  · refine ⟨.cptr ((IC zs).drop (i * 2)), fun {k K} => ?_, fun {K} => ?_⟩
    · simp [liveS, idxAW, IC_len, hi]
    · simp only [loadW, cellsAt, IC_drop zs i hi]; simp [IntA_eq]
  · have hl := IC_len zs
    refine ⟨.ptr b (zs.length * 2) (i * 2), fun {k K} => ?_, fun {K} => ?_⟩
    · simp [liveS, idxAW, hb, hl, hi]
    · simp only [loadW, cellsAt, hb, IC_drop zs i hi]
      simp [IntA_eq, hl]
      omega
end Go.Proofs.YtanchgkiomfhhaaDoor.Fw

/- Rows of whole numbers: plain laws. -/
namespace Go.Proofs.YtanchgkiomfhhaaDoor.Fw
set_option linter.unusedSimpArgs false
set_option linter.unusedVariables false
open Go Go.Proofs.YtanchgkiomfhhaaDoor.Ma

def cmpL : List Int → List Int → Int
  | x :: xs, y :: ys => if cmpI x y = 0 then cmpL xs ys else cmpI x y
  | _, _ => 0
def cmpR (zs ws : List Int) : Int := if zs.length < ws.length then -1 else if ws.length < zs.length then ((1 : Nat) : Int) else cmpL zs ws
def widS (w x : Int) : Int := if w < (x.natAbs : Int) then (x.natAbs : Int) else w
def widF (w : Int) (zs : List Int) : Int := zs.foldl widS w
theorem Bd.widS {k : Nat} {w x : Int} (hw : Bd k w) (hx : Bd k x) : Bd k (widS w x) := by
  unfold Fw.widS
  split
  · exact hx.abs
  · exact hw
theorem Bd.widF {k : Nat} : ∀ {zs : List Int} {w : Int}, Bd k w → (∀ z, z ∈ zs → Bd k z) → Bd k (widF w zs)
  | [], _, h, _ => h
  | z :: zs, w, h, h2 => Bd.widF (zs := zs) (h.widS (h2 z (by simp))) fun y hy => h2 y (by simp [hy])
def gcdF (g : Nat) (zs : List Int) : Nat := zs.foldl (fun g x => Int.gcd (g : Int) x) g
def contN (zs : List Int) : Nat := gcdF 0 zs
theorem Bd.gcdF {k : Nat} : ∀ {zs : List Int} {g : Nat}, Bd k (g : Int) → (∀ z, z ∈ zs → Bd k z) → Bd k ((gcdF g zs : Nat) : Int)
  | [], _, h, _ => h
  | z :: zs, g, h, h2 => by
    refine Bd.gcdF (zs := zs) (g := Int.gcd (g : Int) z) ?_ fun y hy => h2 y (by simp [hy])
    have hz := h2 z (by simp)
    unfold Bd at *
    by_cases hg : g = 0
    · subst hg
      rw [show Int.gcd ((0 : Nat) : Int) z = z.natAbs by simp [Int.gcd]]
      simpa using hz
    · have : Int.gcd (g : Int) z ≤ g := Nat.le_of_dvd (by omega) (Int.ofNat_dvd.1 (Int.gcd_dvd_left (g : Int) z))
      simp only [Int.natAbs_natCast] at h ⊢
      omega
def primG (zs : List Int) : Int := match zs.find? (fun z => decide (z ≠ 0)) with
  | some z => if z < 0 then -((contN zs : Nat) : Int) else ((contN zs : Nat) : Int)
  | none => 0
def primR (zs : List Int) : List Int := zs.map (· / primG zs)
def zipI (f : Int → Int → Int) (zs ws : List Int) : List Int := List.zipWith f zs ws
def dotF (s : Int) (zs ws : List Int) : Int := (zipI (· * ·) zs ws).foldl (· + ·) s
end Go.Proofs.YtanchgkiomfhhaaDoor.Fw

/- Rows of whole numbers: what package row's functions answer. -/
namespace Go.Proofs.YtanchgkiomfhhaaDoor.Fw
set_option linter.unusedSimpArgs false
set_option linter.unusedVariables false
open Go Go.Proofs.YtanchgkiomfhhaaDoor.Ma
set_option maxRecDepth 20000

theorem rowz_run {H : AHeap} {Q : AV → AHeap → Prop} {x : AV} {zs : List Int} {k : Nat} (hx : RowI H x zs) (hb : ∀ z, z ∈ zs → Bd k z) (hk : k ≤ 1000000) (hn : zs.length < 4611686018427387904) (hq : Q (.bool (zs.all fun z => decide (z = 0))) H) :
    Run Tryd.prog 56 [x] H Q := by
  have hn' : zs.length < 9223372036854775808 := by omega
  have hlen : ∀ {K : AV → Prop}, lenW false x K = K (.int .i64 ((zs.length : Nat) : Int)) := fun {K} => hx.len hn'
  refine enter56 (by simp) ?_
  simp (disch := first | assumption | (apply Ap.symm; assumption) | omega | decide | (simp only [Xd] <;> omega)) only [ac56, hlen, ↓Xa, Xb, Xc, ↓reduceIte, Nat.reduceLT, Nat.reduceEqDiff, Nat.reduceBEq, Nat.reduceLeDiff, Nat.reduceAdd, Nat.reduceMul]
  refine W_loop (fun s : Nat × AHeap => ⟨[], [(5, x), (6, .int .i64 (zs.length : Int)), (7, .int .i64 s.1)], s.2⟩) (fun s => s.1 ≤ zs.length ∧ Le H s.2 ∧ ∀ j (h : j < zs.length), j < s.1 → zs[j] = 0) (fun s => zs.length - s.1) (0, H) (Settle.now rfl) ⟨Nat.zero_le _, Le.refl H, fun j _ h => absurd h (Nat.not_lt_zero j)⟩ ?_
  rintro ⟨i, G⟩ ⟨h1, hG, hz⟩
  dsimp only at h1 hG hz ⊢
  by_cases hi : i < zs.length
  · obtain ⟨p, e1, e2⟩ := (hx.le hG).get hi
    simp (disch := first | assumption | (apply Ap.symm; assumption) | omega | decide | (simp only [Xd] <;> omega)) only [hi, e1, e2, ↓Xa, Xb, Xc, ↓reduceIte, Nat.reduceLT, Nat.reduceEqDiff, Nat.reduceBEq, Nat.reduceLeDiff, Nat.reduceAdd, Nat.reduceMul]
    refine alloc_i fun q hq1 => ?_
    simp (disch := first | assumption | (apply Ap.symm; assumption) | omega | decide | (simp only [Xd] <;> omega)) only [cells_IntA, fold_IntA, ↓Xa, Xb, Xc, ↓reduceIte, Nat.reduceLT, Nat.reduceEqDiff, Nat.reduceBEq, Nat.reduceLeDiff, Nat.reduceAdd, Nat.reduceMul]
    refine (sign_fn (hb _ (List.getElem_mem hi)) (by omega)).call ?_
    by_cases h0 : zs[i] = 0
    · simp (disch := first | assumption | (apply Ap.symm; assumption) | omega | decide | (simp only [Xd] <;> omega)) only [sgn_neq0, h0, ↓Xa, Xb, Xc, ↓reduceIte, Nat.reduceLT, Nat.reduceEqDiff, Nat.reduceBEq, Nat.reduceLeDiff, Nat.reduceAdd, Nat.reduceMul]
      refine Settle.now ⟨(i + 1, _), by dsimp only; omega, ⟨by dsimp only; omega, hG.updB (hG.none hq1), fun j h h2 => ?_⟩, rfl⟩
      dsimp only at h2
      by_cases e : j = i
      · subst e; exact h0
      · exact hz j h (by omega)
    · simp (disch := first | assumption | (apply Ap.symm; assumption) | omega | decide | (simp only [Xd] <;> omega)) only [sgn_neq0, h0, rs56, ↓Xa, Xb, Xc, ↓reduceIte, Nat.reduceLT, Nat.reduceEqDiff, Nat.reduceBEq, Nat.reduceLeDiff, Nat.reduceAdd, Nat.reduceMul]
      have e : (zs.all fun z => decide (z = 0)) = false := List.all_eq_false.2 ⟨zs[i], List.getElem_mem hi, by simpa using h0⟩
      rw [e] at hq
      exact SetR.dropTo (hG.updB (hG.none hq1)) (SetR.now hq)
  · simp (disch := first | assumption | (apply Ap.symm; assumption) | omega | decide | (simp only [Xd] <;> omega)) only [hi, ↓Xa, Xb, Xc, ↓reduceIte, Nat.reduceLT, Nat.reduceEqDiff, Nat.reduceBEq, Nat.reduceLeDiff, Nat.reduceAdd, Nat.reduceMul]
    refine Settle.now ?_
    simp (disch := first | assumption | (apply Ap.symm; assumption) | omega | decide | (simp only [Xd] <;> omega)) only [rs56, ↓Xa, Xb, Xc, ↓reduceIte, Nat.reduceLT, Nat.reduceEqDiff, Nat.reduceBEq, Nat.reduceLeDiff, Nat.reduceAdd, Nat.reduceMul]
    have e : (zs.all fun z => decide (z = 0)) = true := List.all_eq_true.2 fun z h => by
      obtain ⟨j, hj, rfl⟩ := List.getElem_of_mem h
      exact decide_eq_true (hz j hj (by omega))
    rw [e] at hq
    exact SetR.dropTo hG (SetR.now hq)
end Go.Proofs.YtanchgkiomfhhaaDoor.Fw

/- Decimal digits as bytes; a number's text, nine digits at a time. -/
namespace Go.Proofs.YtanchgkiomfhhaaDoor.Ma
set_option linter.unusedSimpArgs false
set_option linter.unusedVariables false

def chr (d : Nat) : UInt8 := UInt8.ofNat (48 + d)
theorem chr_nat {d : Nat} (h : d < 10) : (chr d).toNat = 48 + d := by unfold chr; rw [UInt8.toNat_ofNat']; omega
def dec (n : Nat) : List UInt8 := (digs 10 n).reverse.map chr
def wide (k n : Nat) : List UInt8 := (pad 10 n k).reverse.map chr
theorem dec_zero : dec 0 = [] := by simp [dec, digs_zero]
theorem wide_len {k n : Nat} (h : n < 10 ^ k) : (wide k n).length = k := by
  simp only [wide, List.length_map, List.length_reverse]
  exact pad_len (digs_len (by omega) k n h)
theorem dec_len {k n : Nat} (h : n < 10 ^ k) : (dec n).length ≤ k := by
  simp only [dec, List.length_map, List.length_reverse]
  exact digs_len (by omega) k n h
theorem last_append {l m : List Nat} (h : m ≠ []) : (l ++ m).getD ((l ++ m).length - 1) 0 = m.getD (m.length - 1) 0 := by
  have : 0 < m.length := List.length_pos_iff.2 h
  rw [List.getD_eq_getElem?_getD, List.getD_eq_getElem?_getD, List.length_append, List.getElem?_append_right (by omega)]
  congr 2; omega
theorem dec_app {k p m : Nat} (hp : p < 10 ^ k) (hm : 0 < m) : dec (p + 10 ^ k * m) = dec m ++ wide k p := by
  have hne : digs 10 m ≠ [] := fun e => by have := (digs_nil (B := 10) (by omega)).1 e; omega
  have hlen := pad_len (digs_len (B := 10) (by omega) k p hp)
  have e : digs 10 (p + 10 ^ k * m) = pad 10 p k ++ digs 10 m := by
    have h1 : Lim 10 (pad 10 p k ++ digs 10 m) := (pad_lim (by omega)).append (lim_digs (by omega) m)
    have h2 := digs_of (B := 10) (by omega) h1 (.inr (by rw [last_append hne]; exact digs_last (by omega) hm))
    rw [h2, val_append, pad_val (by omega), val_digs (by omega), hlen]
  simp only [dec, e, wide, List.reverse_append, List.map_append]
theorem wide_succ {j q : Nat} (h : q < 10 ^ (j + 1)) : wide (j + 1) q = chr (q / 10 ^ j) :: wide j (q % 10 ^ j) := by
  have hp : 0 < 10 ^ j := Nat.pow_pos (by omega)
  have hlt : q % 10 ^ j < 10 ^ j := Nat.mod_lt _ hp
  have hd : q / 10 ^ j < 10 := Nat.div_lt_of_lt_mul (by rw [Nat.pow_succ] at h; omega)
  have hlen := pad_len (digs_len (B := 10) (by omega) j _ hlt)
  have e : pad 10 q (j + 1) = pad 10 (q % 10 ^ j) j ++ [q / 10 ^ j] := by
    have h1 : Lim 10 (pad 10 (q % 10 ^ j) j ++ [q / 10 ^ j]) := (pad_lim (by omega)).append (Lim.one hd)
    have h2 := pad_of (B := 10) (by omega) h1
    rw [val_append, pad_val (by omega), hlen, val_one, List.length_append, hlen, Nat.mod_add_div] at h2
    exact h2.symm
  simp only [wide, e, List.reverse_append, List.map_append, List.reverse_singleton, List.map_cons, List.map_nil, List.singleton_append]
theorem wide_step {j p : Nat} : wide (j + 1) (p % 10 ^ (j + 1)) = chr (p / 10 ^ j % 10) :: wide j (p % 10 ^ j) := by
  have hp : 0 < 10 ^ (j + 1) := Nat.pow_pos (by omega)
  rw [wide_succ (Nat.mod_lt _ hp)]
  have e1 : p % 10 ^ (j + 1) / 10 ^ j = p / 10 ^ j % 10 := by rw [Nat.pow_succ, Nat.mod_mul_right_div_self]
  have e2 : p % 10 ^ (j + 1) % 10 ^ j = p % 10 ^ j := by rw [Nat.pow_succ]; exact Nat.mod_mod_of_dvd _ (Nat.dvd_mul_right _ _)
  rw [e1, e2]
theorem chr_48 {d : Nat} (h : d < 10) : (chr d = 48) ↔ d = 0 := by
  constructor
  · intro e
    have := congrArg UInt8.toNat e
    rw [chr_nat h] at this
    simp at this; omega
  · rintro rfl; rfl
theorem wide_trim {k p : Nat} : (wide k p).dropWhile (· == 48) = dec p := by
  have e : wide k p = List.replicate (k - (digs 10 p).length) 48 ++ dec p := by
    simp only [wide, pad, dec, List.reverse_append, List.map_append, List.reverse_replicate, List.map_replicate]
    rfl
  rw [e]
  have h : ∀ n (l : List UInt8), (List.replicate n 48 ++ l).dropWhile (· == 48) = l.dropWhile (· == 48) := by
    intro n
    induction n with
    | zero => intro l; simp
    | succ n ih => intro l; rw [List.replicate_succ, List.cons_append, List.dropWhile_cons]; simp [ih]
  rw [h]
  rcases Nat.eq_zero_or_pos p with hp | hp
  · subst hp; rw [dec_zero]; rfl
  · have hl := digs_last (B := 10) (by omega) hp
    have hne : digs 10 p ≠ [] := fun e => by have := (digs_nil (B := 10) (by omega)).1 e; omega
    obtain ⟨l, x, hx⟩ : ∃ l x, digs 10 p = l ++ [x] := ⟨_, _, (List.dropLast_concat_getLast hne).symm⟩
    have hx0 : x ≠ 0 := by
      rw [hx, last_append (by simp)] at hl
      simpa using hl
    have hx10 : x < 10 := lim_digs (B := 10) (by omega) p x (by rw [hx]; simp)
    have hd : dec p = chr x :: l.reverse.map chr := by simp [dec, hx]
    rw [hd, List.dropWhile_cons]
    have : (chr x == 48) = false := by
      rw [beq_eq_false_iff_ne]; exact fun h => hx0 ((chr_48 hx10).1 h)
    rw [this]; rfl

/-! ### a number, nine digits at a time -/
theorem digs_drop_pos {B n k : Nat} (hB : 2 ≤ B) (hk : k < (digs B n).length) : 0 < val B ((digs B n).drop k) := by
  have hn : 0 < n := by
    rcases Nat.eq_zero_or_pos n with h | h
    · subst h; rw [digs_zero] at hk; simp at hk
    · exact h
  have hl := digs_last hB hn
  have h1 : Lim B ((digs B n).drop k) := (lim_digs hB n).drop k
  have h2 : ((digs B n).drop k).getD (((digs B n).drop k).length - 1) 0 ≠ 0 := by
    rw [List.length_drop, List.getD_eq_getElem?_getD, List.getElem?_drop, ← List.getD_eq_getElem?_getD]
    have : k + ((digs B n).length - k - 1) = (digs B n).length - 1 := by omega
    rw [this]; exact hl
  have h3 := digs_of hB h1 (.inr h2)
  rcases Nat.eq_zero_or_pos (val B ((digs B n).drop k)) with h | h
  · rw [h, digs_zero] at h3
    have := congrArg List.length h3
    simp at this; omega
  · exact h
def decT (n : Nat) : List UInt8 := if n = 0 then [48] else dec n
theorem dec_pos {n : Nat} (h : 0 < n) : dec n ≠ [] := by
  intro e
  have : (digs 10 n) = [] := by simpa [dec] using e
  have := (digs_nil (B := 10) (by omega)).1 this
  omega
theorem piece_step {n k p : Nat} (hk : k < (digs 1000000000 n).length) (hp : p = (digs 1000000000 n).getD k 0) :
    p < 1000000000 ∧ dec (val 1000000000 ((digs 1000000000 n).drop k)) = dec (val 1000000000 ((digs 1000000000 n).drop (k + 1))) ++ (if k + 1 = (digs 1000000000 n).length then dec p else wide 9 p) := by
  have hlt : p < 1000000000 := hp ▸ (lim_digs (B := 1000000000) (by omega) n).getD (by omega) k
  refine ⟨hlt, ?_⟩
  rw [val_drop 1000000000 hk, ← hp]
  by_cases h : k + 1 = (digs 1000000000 n).length
  · rw [if_pos h, List.drop_of_length_le (by omega)]
    simp [val, dec_zero]
  · rw [if_neg h]
    have := digs_drop_pos (B := 1000000000) (n := n) (k := k + 1) (by omega) (by omega)
    exact dec_app (k := 9) hlt this
end Go.Proofs.YtanchgkiomfhhaaDoor.Ma

/- Slices held equal; strings without noughts ahead; the builder of strings. -/
namespace Go.Proofs.YtanchgkiomfhhaaDoor.Fw
set_option linter.unusedSimpArgs false
set_option linter.unusedVariables false
open Go Go.Proofs.YtanchgkiomfhhaaDoor.Ma
set_option maxRecDepth 20000

end Go.Proofs.YtanchgkiomfhhaaDoor.Fw

/- Strings: as lists of bytes; without noughts ahead; the builder of strings. -/
namespace Go.Proofs.YtanchgkiomfhhaaDoor.Fw
set_option linter.unusedSimpArgs false
set_option linter.unusedVariables false
open Go Go.Proofs.YtanchgkiomfhhaaDoor.Ma
set_option maxRecDepth 20000

def Sx (l : List UInt8) : AV := .str ⟨l.toArray⟩
theorem str_Sx {l : List UInt8} : AV.str ⟨l.toArray⟩ = Sx l := id rfl
theorem size_Sx {l : List UInt8} : (⟨l.toArray⟩ : ByteArray).size = l.length := by simp [ByteArray.size]
section
variable {K : AV → Prop} {K2 : AV → AHeap → Prop} {KD : AV → List Nat → Option (Nat × ABlk) → Prop} {l m : List UInt8} {k k' : IntKind} {H : AHeap}
theorem len_Sx : lenW true (Sx l) K = K (.int .i64 ((l.length : Nat) : Int)) := by simp only [Sx, lenW, size_Sx]
theorem idx_Sx {i : Nat} (h : i < l.length) : idxSW (Sx l) (.int k (i : Int)) K = K (.int .u8 (((l.getD i 0).toNat : Nat) : Int)) := by
  simp [Sx, idxSW, byteAt, size_Sx, h]
theorem extract_Sx {a b : Nat} : (⟨l.toArray⟩ : ByteArray).extract a b = ⟨((l.drop a).take (b - a)).toArray⟩ := by
  apply ByteArray.ext
  rw [ByteArray.data_extract]
  simp [List.extract_toArray]
theorem slc_SxL {a : Nat} (hb : a ≤ l.length) : slcSW (Sx l) (some (.int k (a : Int))) none K = K (Sx (l.drop a)) := by
  have h1 : (0 : Int) ≤ (a : Int) ∧ (a : Int) ≤ ((l.length : Nat) : Int) := by omega
  have e : (l.drop a).take (l.length - a) = l.drop a := List.take_of_length_le (by simp)
  simp [Sx, slcSW, optI, size_Sx, h1, extract_Sx, e]
theorem beq_dec {a b : List UInt8} : (a == b) = decide (a = b) := by by_cases h : a = b <;> simp [h]
theorem eql_Sx : binW .eql (Sx l) (Sx m) K = K (.bool (decide (l = m))) := by
  simp only [Sx, binW, binStr, ByteArray.toList_eq, List.toList_toArray, beq_dec]
theorem add_Sx (h : l.length + m.length ≤ 9223372036854775807) : binW .add (Sx l) (Sx m) K = K (Sx (l ++ m)) := by
  have e : (⟨l.toArray⟩ : ByteArray) ++ ⟨m.toArray⟩ = ⟨(l ++ m).toArray⟩ := by
    apply ByteArray.ext; simp
  have h' : (l.length : Int) + (m.length : Int) ≤ 9223372036854775807 := by omega
  simp [Sx, binW, binStr, size_Sx, e, h']
  intro _; exact h
theorem cells_Sx : (Sx l).cells = some [Sx l] := id rfl
theorem app_S0 {ty : Nat} (h0 : 0 < l.length) (hb : l.length ≤ 70368744177664) (kk : ∀ b, H b = none → K2 (.own b l.length 0 l.length false) (H.upd b (some (.row ty 1 (Bt l))))) : appV H ty 1 1 (.seq 0 [] true) (Sx l) K2 := .inl <| by
  have hal : (Bt l).all AV.cell = true := by
    rw [List.all_eq_true]; intro x hx
    obtain ⟨b, _, rfl⟩ := List.mem_map.1 hx; rfl
  refine ⟨rfl, ?_⟩
  show (bytesA ⟨l.toArray⟩).all AV.cell = true ∧ _
  rw [bytesA_eq, size_Sx]
  refine ⟨hal, rfl, rfl, by omega, by omega, fun e => by omega, fun _ b hb' => ?_⟩
  simpa using kk b hb'
theorem app_S1 {ty b : Nat} {t : Bool} {o : List UInt8} (hH : H b = some (.row ty 1 (Bt o))) (hb : o.length + l.length ≤ 70368744177664) (kk : K2 (.own b (o ++ l).length 0 (o ++ l).length false) (H.upd b (some (.row ty 1 (Bt (o ++ l)))))) : appV H ty 1 1 (.own b o.length 0 o.length t) (Sx l) K2 := .inl <| by
  have hal : (Bt l).all AV.cell = true := by
    rw [List.all_eq_true]; intro x hx
    obtain ⟨b, _, rfl⟩ := List.mem_map.1 hx; rfl
  refine ⟨rfl, ?_⟩
  show (bytesA ⟨l.toArray⟩).all AV.cell = true ∧ _
  rw [bytesA_eq, size_Sx]
  refine ⟨hal, ?_⟩
  dsimp only
  rw [hH]
  refine ⟨Bt_len, rfl, by omega, rfl, rfl, by omega, by omega, ?_⟩
  have e : Bt o ++ Bt l = Bt (o ++ l) := by simp [Bt]
  rw [List.length_append] at kk
  rw [Nat.mul_one, e]
  exact kk
end
theorem trimB_fn {l : List UInt8} {c : UInt8} (hl : l.length < 9223372036854775808) : PFn Tryd.prog 223 [Sx l, .int .u8 ((c.toNat : Nat) : Int)] (Sx (l.dropWhile (· == c))) := by
  intro H Q hq
  refine enter223 (by simp) ?_
  simp (disch := first | assumption | (apply Ap.symm; assumption) | omega | decide | (simp only [Xd] <;> omega)) only [ac223, ↓Xa, Xb, Xc, ↓reduceIte, Nat.reduceLT, Nat.reduceEqDiff, Nat.reduceBEq, Nat.reduceLeDiff, Nat.reduceAdd, Nat.reduceMul]
  refine W_loop (fun m : List UInt8 => ⟨[], [(0, Sx m), (1, .int .u8 ((c.toNat : Nat) : Int))], _⟩) (fun m => m.length ≤ l.length ∧ m.dropWhile (· == c) = l.dropWhile (· == c)) (fun m => m.length) l (Settle.now rfl) ⟨Nat.le_refl _, rfl⟩ ?_
  rintro m ⟨hm, h1⟩
  cases m with
  | nil =>
    simp (disch := first | assumption | (apply Ap.symm; assumption) | omega | decide | (simp only [Xd] <;> omega)) only [len_Sx, List.length_nil, ↓Xa, Xb, Xc, ↓reduceIte, Nat.reduceLT, Nat.reduceEqDiff, Nat.reduceBEq, Nat.reduceLeDiff, Nat.reduceAdd, Nat.reduceMul]
    refine Settle.now ?_
    simp (disch := first | assumption | (apply Ap.symm; assumption) | omega | decide | (simp only [Xd] <;> omega)) only [rs223, ↓Xa, Xb, Xc, ↓reduceIte, Nat.reduceLT, Nat.reduceEqDiff, Nat.reduceBEq, Nat.reduceLeDiff, Nat.reduceAdd, Nat.reduceMul]
    rw [← h1] at hq
    exact SetR.now hq
  | cons x m =>
    have hpos : 0 < m.length + 1 := Nat.succ_pos _
    have e : (x :: m).getD 0 0 = x := rfl
    have hm' : m.length + 1 ≤ l.length := hm
    rw [List.dropWhile_cons] at h1
    by_cases hx : x = c
    · have hb : (x == c) = true := by simp [hx]
      have hx' : x.toNat = c.toNat := by rw [hx]
      rw [if_pos hb] at h1
      simp (disch := first | assumption | (apply Ap.symm; assumption) | omega | decide | (simp only [Xd] <;> omega)) only [len_Sx, hpos, idx_Sx, e, hx', slc_SxL, List.drop_succ_cons, List.drop_zero, ↓Xa, Xb, Xc, ↓reduceIte, Nat.reduceLT, Nat.reduceEqDiff, Nat.reduceBEq, Nat.reduceLeDiff, Nat.reduceAdd, Nat.reduceMul]
      exact Settle.now ⟨m, by simp, ⟨by omega, h1⟩, rfl⟩
    · have hb : ¬ (x == c) = true := by simp [hx]
      have hx' : ¬ x.toNat = c.toNat := fun h => hx (UInt8.toNat_inj.1 h)
      rw [if_neg hb] at h1
      simp (disch := first | assumption | (apply Ap.symm; assumption) | omega | decide | (simp only [Xd] <;> omega)) only [len_Sx, hpos, idx_Sx, e, hx', ↓Xa, Xb, Xc, ↓reduceIte, Nat.reduceLT, Nat.reduceEqDiff, Nat.reduceBEq, Nat.reduceLeDiff, Nat.reduceAdd, Nat.reduceMul]
      refine Settle.now ?_
      simp (disch := first | assumption | (apply Ap.symm; assumption) | omega | decide | (simp only [Xd] <;> omega)) only [rs223, ↓Xa, Xb, Xc, ↓reduceIte, Nat.reduceLT, Nat.reduceEqDiff, Nat.reduceBEq, Nat.reduceLeDiff, Nat.reduceAdd, Nat.reduceMul]
      rw [← h1] at hq
      exact SetR.now hq
theorem trimL_fn {l : List UInt8} {c : UInt8} (hl : l.length < 9223372036854775808) (hc : c.toNat < 128) : PFn Tryd.prog 213 [Sx l, Sx [c]] (Sx (l.dropWhile (· == c))) := by
  intro H Q hq
  refine enter213 (by simp) ?_
  have e : ([c] : List UInt8).getD 0 0 = c := rfl
  have h1 : ([c] = ([] : List UInt8)) = False := by simp
  have h2 : 0 < ([c] : List UInt8).length := by simp
  cases l with
  | nil =>
    simp (disch := first | assumption | (apply Ap.symm; assumption) | omega | decide | (simp only [Xd] <;> omega)) only [ac213, str_Sx, eql_Sx, rs213, ↓Xa, Xb, Xc, ↓reduceIte, Nat.reduceLT, Nat.reduceEqDiff, Nat.reduceBEq, Nat.reduceLeDiff, Nat.reduceAdd, Nat.reduceMul]
    exact SetR.now hq
  | cons x l =>
    have h3 : (x :: l = ([] : List UInt8)) = False := by simp
    simp (disch := first | assumption | (apply Ap.symm; assumption) | omega | decide | (simp only [Xd] <;> omega)) only [ac213, str_Sx, eql_Sx, h1, h3, len_Sx, idx_Sx, h2, e, hc, ↓Xa, Xb, Xc, ↓reduceIte, Nat.reduceLT, Nat.reduceEqDiff, Nat.reduceBEq, Nat.reduceLeDiff, Nat.reduceAdd, Nat.reduceMul]
    refine (trimB_fn hl).call ?_
    simp (disch := first | assumption | (apply Ap.symm; assumption) | omega | decide | (simp only [Xd] <;> omega)) only [rs213, ↓Xa, Xb, Xc, ↓reduceIte, Nat.reduceLT, Nat.reduceEqDiff, Nat.reduceBEq, Nat.reduceLeDiff, Nat.reduceAdd, Nat.reduceMul]
    exact SetR.now hq
end Go.Proofs.YtanchgkiomfhhaaDoor.Fw

/- The builder of strings. -/
namespace Go.Proofs.YtanchgkiomfhhaaDoor.Fw
set_option linter.unusedSimpArgs false
set_option linter.unusedVariables false
open Go Go.Proofs.YtanchgkiomfhhaaDoor.Ma
set_option maxRecDepth 20000

theorem check_new {H : AHeap} {p : Nat} {v : AV} {K : AV → AHeap → Prop} (hH : H p = some (.row 234 0 [.nilP, v])) (k : K (.tup []) (H.upd p (some (.row 234 0 [.ptr p 2 0, v])))) : Run Tryd.prog 215 [.ptr p 2 0] H K := by
  refine enter215 (by simp) ?_
  simp (disch := first | assumption | (apply Ap.symm; assumption) | omega | decide | (simp only [Xd] <;> omega)) only [ac215, hH, rs215, ↓Xa, Xb, Xc, ↓reduceIte, Nat.reduceLT, Nat.reduceEqDiff, Nat.reduceBEq, Nat.reduceLeDiff, Nat.reduceAdd, Nat.reduceMul]
  exact SetR.now k
theorem check_used {H : AHeap} {p : Nat} {v : AV} {K : AV → AHeap → Prop} (hH : H p = some (.row 234 0 [.ptr p 2 0, v])) (k : K (.tup []) H) : Run Tryd.prog 215 [.ptr p 2 0] H K := by
  refine enter215 (by simp) ?_
  simp (disch := first | assumption | (apply Ap.symm; assumption) | omega | decide | (simp only [Xd] <;> omega)) only [ac215, hH, rs215, ↓Xa, Xb, Xc, ↓reduceIte, Nat.reduceLT, Nat.reduceEqDiff, Nat.reduceBEq, Nat.reduceLeDiff, Nat.reduceAdd, Nat.reduceMul]
  exact SetR.now k
def bld (p : Nat) (l : List UInt8) (H0 H : AHeap) : Prop :=
  (l = [] ∧ (H = H0.upd p (some (.row 234 0 [.nilP, .seq 0 [] true])) ∨ H = H0.upd p (some (.row 234 0 [.ptr p 2 0, .seq 0 [] true])))) ∨
  (l ≠ [] ∧ ∃ bb, H0 bb = none ∧ Ap bb p ∧ H = (H0.upd p (some (.row 234 0 [.ptr p 2 0, .own bb l.length 0 l.length false]))).upd bb (some (.row 5 1 (Bt l))))
theorem bld_new {p : Nat} {H : AHeap} : bld p [] H (H.upd p (some (.row 234 0 [.nilP, .seq 0 [] true]))) := .inl ⟨rfl, .inl rfl⟩
theorem bld_upd {p q : Nat} {l : List UInt8} {H0 H : AHeap} {x : ABlk} (h : bld p l H0 H) (hq : H q = none) : Ap q p ∧ H0 q = none ∧ bld p l (H0.upd q (some x)) (H.upd q (some x)) := by
  rcases h with ⟨rfl, rfl | rfl⟩ | ⟨h0, bb, hbb, hap, rfl⟩
  · obtain ⟨a, b⟩ := upd_none.1 hq
    exact ⟨a, b, .inl ⟨rfl, .inl (upd_comm _ _ _ (Ap.symm a))⟩⟩
  · obtain ⟨a, b⟩ := upd_none.1 hq
    exact ⟨a, b, .inl ⟨rfl, .inr (upd_comm _ _ _ (Ap.symm a))⟩⟩
  · obtain ⟨a1, a2, b⟩ : Ap q bb ∧ Ap q p ∧ H0 q = none := by simpa only [upd_none] using hq
    refine ⟨a2, b, .inr ⟨h0, bb, ?_, hap, ?_⟩⟩
    · rw [upd_otherA (Ap.symm a1)]; exact hbb
    · rw [upd_comm _ _ _ (Ap.symm a1), upd_comm (b := p) (b' := q) _ _ _ (Ap.symm a2)]
theorem wstr_run {p : Nat} {l m : List UInt8} {H0 H : AHeap} {K : AV → AHeap → Prop} (hb : bld p l H0 H) (hl : l.length + m.length ≤ 70368744177664) (hm : 0 < m.length)
    (k : ∀ H', bld p (l ++ m) H0 H' → K (.tup [.int .i64 ((m.length : Nat) : Int), .nilI]) H') : Run Tryd.prog 204 [.ptr p 2 0, Sx m] H K := by
  refine enter204 (by simp) ?_
  simp (disch := first | assumption | (apply Ap.symm; assumption) | omega | decide | (simp only [Xd] <;> omega)) only [ac204, ↓Xa, Xb, Xc, ↓reduceIte, Nat.reduceLT, Nat.reduceEqDiff, Nat.reduceBEq, Nat.reduceLeDiff, Nat.reduceAdd, Nat.reduceMul]
  have hne : ∀ {x : List UInt8}, x ++ m ≠ [] := fun {x} e => by have := congrArg List.length e; rw [List.length_append, List.length_nil] at this; omega
  have first : ∀ {M : AHeap}, M = H0.upd p (some (.row 234 0 [.ptr p 2 0, .seq 0 [] true])) → l = [] →
      W Tryd.prog (sndC (sndC ac204)) (retN rs204 K) ⟨[], [(0, .ptr p 2 0), (1, Sx m)], M⟩ := by
    rintro M rfl rfl
    simp (disch := first | assumption | (apply Ap.symm; assumption) | omega | decide | (simp only [Xd] <;> omega)) only [sndC, ac204, ↓Xa, Xb, Xc, ↓reduceIte, Nat.reduceLT, Nat.reduceEqDiff, Nat.reduceBEq, Nat.reduceLeDiff, Nat.reduceAdd, Nat.reduceMul]
    refine app_S0 hm (by simp at hl; omega) fun b hb => ?_
    obtain ⟨a1, a2⟩ := upd_none.1 hb
    simp (disch := first | assumption | (apply Ap.symm; assumption) | omega | decide | (simp only [Xd] <;> omega)) only [len_Sx, rs204, ↓Xa, Xb, Xc, ↓reduceIte, Nat.reduceLT, Nat.reduceEqDiff, Nat.reduceBEq, Nat.reduceLeDiff, Nat.reduceAdd, Nat.reduceMul]
    refine SetR.now (k _ (.inr ⟨by simpa using hne (x := []), b, a2, a1, ?_⟩))
    simp only [List.nil_append]
  rcases hb with ⟨rfl, rfl | rfl⟩ | ⟨h0, bb, hbb, hap, rfl⟩
  · refine run_call (check_new (upd_same _ _ _) ?_)
    have f := first rfl rfl
    simp (disch := first | assumption | (apply Ap.symm; assumption) | omega | decide | (simp only [Xd] <;> omega)) only [sndC, ac204, ↓Xa, Xb, Xc, ↓reduceIte, Nat.reduceLT, Nat.reduceEqDiff, Nat.reduceBEq, Nat.reduceLeDiff, Nat.reduceAdd, Nat.reduceMul] at f
    simp (disch := first | assumption | (apply Ap.symm; assumption) | omega | decide | (simp only [Xd] <;> omega)) only [↓Xa, Xb, Xc, ↓reduceIte, Nat.reduceLT, Nat.reduceEqDiff, Nat.reduceBEq, Nat.reduceLeDiff, Nat.reduceAdd, Nat.reduceMul]
    exact f
  · refine run_call (check_used (upd_same _ _ _) ?_)
    have f := first rfl rfl
    simp (disch := first | assumption | (apply Ap.symm; assumption) | omega | decide | (simp only [Xd] <;> omega)) only [sndC, ac204, ↓Xa, Xb, Xc, ↓reduceIte, Nat.reduceLT, Nat.reduceEqDiff, Nat.reduceBEq, Nat.reduceLeDiff, Nat.reduceAdd, Nat.reduceMul] at f
    simp (disch := first | assumption | (apply Ap.symm; assumption) | omega | decide | (simp only [Xd] <;> omega)) only [↓Xa, Xb, Xc, ↓reduceIte, Nat.reduceLT, Nat.reduceEqDiff, Nat.reduceBEq, Nat.reduceLeDiff, Nat.reduceAdd, Nat.reduceMul]
    exact f
  · refine run_call (check_used (v := .own bb l.length 0 l.length false) (by rw [upd_otherA (Ap.symm hap), upd_same]) ?_)
    simp (disch := first | assumption | (apply Ap.symm; assumption) | omega | decide | (simp only [Xd] <;> omega)) only [↓Xa, Xb, Xc, ↓reduceIte, Nat.reduceLT, Nat.reduceEqDiff, Nat.reduceBEq, Nat.reduceLeDiff, Nat.reduceAdd, Nat.reduceMul]
    refine app_S1 (upd_same _ _ _) hl ?_
    simp (disch := first | assumption | (apply Ap.symm; assumption) | omega | decide | (simp only [Xd] <;> omega)) only [len_Sx, rs204, ↓Xa, Xb, Xc, ↓reduceIte, Nat.reduceLT, Nat.reduceEqDiff, Nat.reduceBEq, Nat.reduceLeDiff, Nat.reduceAdd, Nat.reduceMul]
    refine SetR.now (k _ (.inr ⟨hne, bb, hbb, hap, ?_⟩))
    simp only [List.length_append]
theorem bstr_run {p : Nat} {l : List UInt8} {H0 H : AHeap} {K : AV → AHeap → Prop} (hb : bld p l H0 H) (hp : H0 p = none) (hl : l.length ≤ 70368744177664) (h0 : 0 < l.length) (k : ∀ H', Le H0 H' → K (Sx l) H') : Run Tryd.prog 205 [.ptr p 2 0] H K := by
  refine enter205 (by simp) ?_
  rcases hb with ⟨rfl, _⟩ | ⟨h1, bb, hbb, hap, rfl⟩
  · simp at h0
  · have hbl : (Bt l).length = l.length := Bt_len
    simp (disch := first | assumption | (apply Ap.symm; assumption) | omega | decide | (simp only [Xd] <;> omega)) only [ac205, h0, rs205, ↓Xa, Xb, Xc, ↓reduceIte, Nat.reduceLT, Nat.reduceEqDiff, Nat.reduceBEq, Nat.reduceLeDiff, Nat.reduceAdd, Nat.reduceMul]
    exact SetR.now (k _ (((Le.refl H0).updB hp).updB hbb))
end Go.Proofs.YtanchgkiomfhhaaDoor.Fw

/- A number's decimal text, as package limb writes it. -/
namespace Go.Proofs.YtanchgkiomfhhaaDoor.Fw
set_option linter.unusedSimpArgs false
set_option linter.unusedVariables false
open Go Go.Proofs.YtanchgkiomfhhaaDoor.Ma
set_option maxRecDepth 20000

theorem bld_drop {p q : Nat} {l : List UInt8} {H0 H : AHeap} {x : ABlk} (h : bld p l (H0.upd q (some x)) H) (hqp : Ap q p) (hq : H0 q = none) : ∃ H', bld p l H0 H' ∧ Le H' H := by
  have up : ∀ {M : AHeap} {r : Option ABlk}, M = (H0.upd q (some x)).upd p r → Le (H0.upd p r) M := fun {M r} e => by
    rw [e, upd_comm _ _ _ hqp]
    exact (Le.refl _).updB (by rw [upd_otherA hqp]; exact hq)
  rcases h with ⟨rfl, rfl | rfl⟩ | ⟨h0, bb, hbb, hap, rfl⟩
  · exact ⟨_, .inl ⟨rfl, .inl rfl⟩, up rfl⟩
  · exact ⟨_, .inl ⟨rfl, .inr rfl⟩, up rfl⟩
  · obtain ⟨a1, a2⟩ := upd_none.1 hbb
    refine ⟨_, .inr ⟨h0, bb, a2, hap, rfl⟩, ?_⟩
    rw [upd_comm _ _ _ hqp, upd_comm (b := q) (b' := bb) _ _ _ (Ap.symm a1)]
    exact (Le.refl _).updB (by rw [upd_otherA (Ap.symm a1), upd_otherA hqp]; exact hq)
theorem stP_Bt {H : AHeap} {K2 : AV → AHeap → Prop} {b L off ty es c : Nat} {l : List UInt8} (hL : l.length = L) (h : off < L) (hc : c < 256) : stP H 1 b L off K2 (some [.int .u8 (c : Int)]) (some (.row ty es (Bt l))) = K2 .bot (H.upd b (some (.row ty es (Bt (l.set off (UInt8.ofNat c)))))) := by
  subst hL
  have h1 : off + 1 ≤ l.length := h
  have e : splice (Bt l) off [.int .u8 (c : Int)] = Bt (l.set off (UInt8.ofNat c)) := by
    have e2 : (AV.int .u8 (c : Int)) = .int .u8 (((UInt8.ofNat c).toNat : Nat) : Int) := by
      rw [UInt8.toNat_ofNat', Nat.mod_eq_of_lt hc]
    rw [e2]
    unfold splice Bt
    rw [List.map_set, List.set_eq_take_append_cons_drop]
    simp [h]
  simp [stP, Bt_len, h1, e]
def TxI (p j : Nat) (cells : List UInt8) (x : Nat) : Prop := j ≤ 9 ∧ cells = List.replicate j 0 ++ wide (9 - j) (p % 10 ^ (9 - j)) ∧ x = p / 10 ^ (9 - j)
theorem TxI.len {p j x : Nat} {cells : List UInt8} (h : TxI p j cells x) : cells.length = 9 := by
  obtain ⟨h1, rfl, _⟩ := h
  rw [List.length_append, List.length_replicate, wide_len (Nat.mod_lt _ (Nat.pow_pos (by omega)))]; omega
theorem TxI.step {p j x : Nat} {cells : List UInt8} (h : TxI p (j + 1) cells x) : TxI p j (cells.set j (UInt8.ofNat (48 + x % 10))) (x / 10) := by
  obtain ⟨h1, rfl, rfl⟩ := h
  have e9 : 9 - j = (9 - (j + 1)) + 1 := by omega
  refine ⟨by omega, ?_, ?_⟩
  · rw [e9, wide_step]
    rw [List.replicate_succ', List.append_assoc, List.set_append_right _ _ (by simp)]
    simp [chr]
  · rw [e9, Nat.pow_succ, Nat.div_div_eq_div_mul]

theorem text_fn {l : List Nat} (t : Bool) (hl : Lim 4294967296 l) (hn : l.length ≤ 1099511627776) : PFn Tryd.prog 190 [LS l t] (Sx (decT (val 4294967296 l))) := by
  intro H Q hq
  have hP : (2 : Nat) ≤ 1000000000 := by omega
  refine enter190 (by simp) ?_
  simp (disch := first | assumption | (apply Ap.symm; assumption) | omega | decide | (simp only [Xd] <;> omega)) only [ac190, str_Sx, ↓Xa, Xb, Xc, ↓reduceIte, Nat.reduceLT, Nat.reduceEqDiff, Nat.reduceBEq, Nat.reduceLeDiff, Nat.reduceAdd, Nat.reduceMul]
  refine (norm_fn t (by omega)).call ?_
  rw [tr_digs (by omega) hl]
  have hN : val 4294967296 l < 4294967296 ^ l.length := val_lt hl
  have hp2 : (digs 1000000000 (val 4294967296 l)).length ≤ 2 * l.length := digs_len hP _ _ (Nat.lt_of_lt_of_le hN (by rw [Nat.pow_mul]; exact Nat.pow_le_pow_left (by omega) _))
  have hdl : (dec (val 4294967296 l)).length ≤ 10 * l.length := dec_len (Nat.lt_of_lt_of_le hN (by rw [Nat.pow_mul]; exact Nat.pow_le_pow_left (by omega) _))
  generalize hNe : val 4294967296 l = N at *
  simp (disch := first | assumption | (apply Ap.symm; assumption) | omega | decide | (simp only [Xd] <;> omega)) only [↓Xa, Xb, Xc, ↓reduceIte, Nat.reduceLT, Nat.reduceEqDiff, Nat.reduceBEq, Nat.reduceLeDiff, Nat.reduceAdd, Nat.reduceMul]
  refine W_loop (fun s : List Nat × AV × AHeap × Nat => ⟨[], [(3, s.2.1), (4, LS (digs 4294967296 s.2.2.2) true)], s.2.2.1⟩) (fun s => grow H 172 s.1 s.2.1 s.2.2.1 ∧ digs 1000000000 N = s.1 ++ digs 1000000000 s.2.2.2 ∧ s.2.2.2 ≤ N) (fun s => s.2.2.2)
    ([], .seq 0 [] true, H, N) (Settle.now rfl) ⟨grow_nil, rfl, Nat.le_refl _⟩ ?_
  rintro ⟨done, x, G, n⟩ ⟨hg, he, hle⟩
  dsimp only at hg he hle ⊢
  have hdn : (digs 4294967296 n).length ≤ l.length := digs_len (by omega) _ _ (Nat.lt_of_le_of_lt hle (hNe ▸ hN))
  have hz := digs_len0 (B := 4294967296) (n := n) (by omega)
  by_cases hn0 : n = 0
  · have h1 : (digs 4294967296 n).length = 0 := by rw [hz]; exact hn0
    simp (disch := first | assumption | (apply Ap.symm; assumption) | omega | decide | (simp only [Xd] <;> omega)) only [h1, ↓Xa, Xb, Xc, ↓reduceIte, Nat.reduceLT, Nat.reduceEqDiff, Nat.reduceBEq, Nat.reduceLeDiff, Nat.reduceAdd, Nat.reduceMul]
    refine Settle.grown 3 rfl hg (Settle.now ?_)
    rw [hn0, digs_zero, List.append_nil] at he
    subst he
    have hlim := lim_digs hP N
    have hdig := fun k p => piece_step (n := N) (k := k) (p := p)
    have hv : val 1000000000 (digs 1000000000 N) = N := val_digs hP N
    have hlast := digs_last (B := 1000000000) (n := N) hP
    have hnil := digs_len0 (B := 1000000000) (n := N) hP
    generalize digs 1000000000 N = ps at *
    by_cases hp0 : ps.length = 0
    · rw [hnil] at hp0
      have hL : ps.length = 0 := by rw [hnil]; exact hp0
      simp (disch := first | assumption | (apply Ap.symm; assumption) | omega | decide | (simp only [Xd] <;> omega)) only [hL, str_Sx, rs190, ↓Xa, Xb, Xc, ↓reduceIte, Nat.reduceLT, Nat.reduceEqDiff, Nat.reduceBEq, Nat.reduceLeDiff, Nat.reduceAdd, Nat.reduceMul]
      have e : decT N = [48] := by rw [hp0]; rfl
      rw [e] at hq
      exact SetR.now hq
    · have hN0 : 0 < N := by rcases Nat.eq_zero_or_pos N with h | h
                             · exact absurd (hnil ▸ h) hp0
                             · exact h
      have eT : decT N = dec N := by unfold decT; rw [if_neg (by omega)]
      rw [eT] at hq
      obtain ⟨L, hL⟩ : ∃ L, ps.length = L + 1 := ⟨ps.length - 1, by omega⟩
      have hLp : (0 < L + 1) = True := by simp
      have hL0 : (L + 1 = 0) = False := by simp
      simp (disch := first | assumption | (apply Ap.symm; assumption) | omega | decide | (simp only [Xd] <;> omega)) only [hL, hL0, ↓Xa, Xb, Xc, ↓reduceIte, Nat.reduceLT, Nat.reduceEqDiff, Nat.reduceBEq, Nat.reduceLeDiff, Nat.reduceAdd, Nat.reduceMul]
      refine alloc_i fun p hp => ?_
      simp (disch := first | assumption | (apply Ap.symm; assumption) | omega | decide | (simp only [Xd] <;> omega)) only [hL, dn_succ, ↓Xa, Xb, Xc, ↓reduceIte, Nat.reduceLT, Nat.reduceEqDiff, Nat.reduceBEq, Nat.reduceLeDiff, Nat.reduceAdd, Nat.reduceMul]
      refine W_atH fun M0 hM0 => ?_
      refine W_loop (fun s : Nat × AHeap => ⟨[], [(3, LS ps false), (8, .ptr p 2 0), (9, .int .i64 (dn s.1))], s.2⟩) (fun s => s.1 ≤ ps.length ∧ bld p (dec (val 1000000000 (ps.drop s.1))) H s.2) (fun s => s.1) (L + 1, M0) (Settle.now rfl) ⟨by dsimp only; omega, ?_⟩ ?_
      · dsimp only
        rw [List.drop_of_length_le (by omega), show val 1000000000 [] = 0 from rfl, dec_zero, hM0]
        exact bld_new
      rintro ⟨k, M⟩ ⟨hk, hb⟩
      dsimp only at hk hb ⊢
      cases k with
      | zero =>
        simp (disch := first | assumption | (apply Ap.symm; assumption) | omega | decide | (simp only [Xd] <;> omega)) only [dn_zero, ↓Xa, Xb, Xc, ↓reduceIte, Nat.reduceLT, Nat.reduceEqDiff, Nat.reduceBEq, Nat.reduceLeDiff, Nat.reduceAdd, Nat.reduceMul]
        refine Settle.now ?_
        rw [List.drop_zero, hv] at hb
        simp (disch := first | assumption | (apply Ap.symm; assumption) | omega | decide | (simp only [Xd] <;> omega)) only [↓Xa, Xb, Xc, ↓reduceIte, Nat.reduceLT, Nat.reduceEqDiff, Nat.reduceBEq, Nat.reduceLeDiff, Nat.reduceAdd, Nat.reduceMul]
        have hd0 : 0 < (dec N).length := List.length_pos_iff.2 (dec_pos hN0)
        refine run_call (bstr_run hb hp (by omega) hd0 fun H' hH' => ?_)
        simp (disch := first | assumption | (apply Ap.symm; assumption) | omega | decide | (simp only [Xd] <;> omega)) only [rs190, ↓Xa, Xb, Xc, ↓reduceIte, Nat.reduceLT, Nat.reduceEqDiff, Nat.reduceBEq, Nat.reduceLeDiff, Nat.reduceAdd, Nat.reduceMul]
        exact SetR.dropTo hH' (SetR.now hq)
      | succ k =>
        obtain ⟨hlt, hstep⟩ := hdig k _ (by omega) rfl
        have hlt2 : ps.getD k 0 < 1000000000 := hlt
        simp (disch := first | assumption | (apply Ap.symm; assumption) | omega | decide | (simp only [Xd] <;> omega)) only [dn_succ, hL, ↓Xa, Xb, Xc, ↓reduceIte, Nat.reduceLT, Nat.reduceEqDiff, Nat.reduceBEq, Nat.reduceLeDiff, Nat.reduceAdd, Nat.reduceMul]
        refine alloc_i fun q hq' => ?_
        generalize hpk : ps.getD k 0 = pk at *
        simp (disch := first | assumption | (apply Ap.symm; assumption) | omega | decide | (simp only [Xd] <;> omega)) only [hpk, dn_succ, hL, ↓Xa, Xb, Xc, ↓reduceIte, Nat.reduceLT, Nat.reduceEqDiff, Nat.reduceBEq, Nat.reduceLeDiff, Nat.reduceAdd, Nat.reduceMul]
        refine W_loop (fun s : Nat × List UInt8 × Nat => ⟨[], [(3, LS ps false), (8, .ptr p 2 0), (9, .int .i64 (k : Nat)), (10, .ptr q 9 0), (11, .int .u32 (s.2.2 : Nat)), (12, .int .i64 (dn s.1))], M.upd q (some (.row 248 1 (Bt s.2.1)))⟩)
          (fun s => TxI pk s.1 s.2.1 s.2.2) (fun s => s.1) (9, List.replicate 9 0, pk) (Settle.now rfl) ⟨Nat.le_refl _, by simp [wide, pad, digs_zero, Nat.mod_one], by simp⟩ ?_
        rintro ⟨j, cells, x⟩ hx
        dsimp only at hx ⊢
        have hcl := hx.len
        have hx32 : x < 4294967296 := by
          have := hx.2.2
          have := Nat.div_le_self pk (10 ^ (9 - j))
          omega
        cases j with
        | zero =>
          have ecells : cells = wide 9 pk := by
            rw [hx.2.1]; simp [Nat.mod_eq_of_lt hlt2]
          have htk : (Bt cells).take 9 = Bt cells := List.take_of_length_le (by rw [Bt_len]; omega)
          have hbl : (Bt cells).length = 9 := by rw [Bt_len]; exact hcl
          simp (disch := first | assumption | (apply Ap.symm; assumption) | omega | decide | (simp only [Xd] <;> omega)) only [dn_zero, ↓Xa, Xb, Xc, ↓reduceIte, Nat.reduceLT, Nat.reduceEqDiff, Nat.reduceBEq, Nat.reduceLeDiff, Nat.reduceAdd, Nat.reduceMul]
          refine Settle.now ?_
          simp (disch := first | assumption | (apply Ap.symm; assumption) | omega | decide | (simp only [Xd] <;> omega)) only [htk, str_Sx, hL, dn_succ, ↓Xa, Xb, Xc, ↓reduceIte, Nat.reduceLT, Nat.reduceEqDiff, Nat.reduceBEq, Nat.reduceLeDiff, Nat.reduceAdd, Nat.reduceMul]
          refine ⟨by decide, ?_⟩
          obtain ⟨a1, a2, w0⟩ := bld_upd (x := .row 248 1 (Bt cells)) hb hq'
          have fin : ∀ (m : List UInt8) (M' : AHeap), bld p (dec (val 1000000000 (ps.drop (k + 1))) ++ m) (H.upd q (some (.row 248 1 (Bt cells)))) M' → dec (val 1000000000 (ps.drop k)) = dec (val 1000000000 (ps.drop (k + 1))) ++ m →
              Settle (fun s' => ∃ x' : Nat × AHeap, x'.1 < k + 1 ∧ (x'.1 ≤ L + 1 ∧ bld p (dec (val 1000000000 (ps.drop x'.1))) H x'.2) ∧ s' = ⟨[], [(3, LS ps false), (8, .ptr p 2 0), (9, .int .i64 (dn x'.1))], x'.2⟩) ⟨[], [(3, LS ps false), (8, .ptr p 2 0), (9, .int .i64 (dn k))], M'⟩ := fun m M' hb' e => by
            obtain ⟨M'', h1, h2⟩ := bld_drop hb' a1 a2
            exact Settle.dropTo h2 (Settle.now ⟨(k, M''), Nat.lt_succ_self k, ⟨by dsimp only; omega, by dsimp only; rw [e]; exact h1⟩, rfl⟩)
          have hbd : (dec (val 1000000000 (ps.drop (k + 1)))).length ≤ 9 * ps.length := by
            refine dec_len (Nat.lt_of_lt_of_le (val_lt (hlim.drop (k + 1))) ?_)
            rw [show (1000000000 : Nat) = 10 ^ 9 from rfl, ← Nat.pow_mul]
            exact Nat.pow_le_pow_right (by omega) (Nat.mul_le_mul_left _ (by simp))
          by_cases hkL : k = L
          · rw [if_pos (by omega)] at hstep
            have hpk0 : pk ≠ 0 := by
              have := hlast hN0
              rwa [hL, Nat.add_sub_cancel, ← hkL, hpk] at this
            have hm0 : 0 < (dec pk).length := List.length_pos_iff.2 (dec_pos (by omega))
            have hm9 : (dec pk).length ≤ 9 := dec_len (k := 9) hlt2
            have hd1 : decide (k = L + 1 - 1) = true := by simp [hkL]
            simp (disch := first | assumption | (apply Ap.symm; assumption) | omega | decide | (simp only [Xd] <;> omega)) only [hd1, ↓Xa, Xb, Xc, ↓reduceIte, Nat.reduceLT, Nat.reduceEqDiff, Nat.reduceBEq, Nat.reduceLeDiff, Nat.reduceAdd, Nat.reduceMul]
            refine (trimL_fn (c := 48) (l := cells) (by omega) (by decide)).call ?_
            rw [ecells, wide_trim, ← ecells]
            simp (disch := first | assumption | (apply Ap.symm; assumption) | omega | decide | (simp only [Xd] <;> omega)) only [↓Xa, Xb, Xc, ↓reduceIte, Nat.reduceLT, Nat.reduceEqDiff, Nat.reduceBEq, Nat.reduceLeDiff, Nat.reduceAdd, Nat.reduceMul]
            refine run_call (wstr_run w0 (by omega) hm0 fun M' hM' => ?_)
            simp (disch := first | assumption | (apply Ap.symm; assumption) | omega | decide | (simp only [Xd] <;> omega)) only [↓Xa, Xb, Xc, ↓reduceIte, Nat.reduceLT, Nat.reduceEqDiff, Nat.reduceBEq, Nat.reduceLeDiff, Nat.reduceAdd, Nat.reduceMul]
            exact fin _ _ hM' hstep
          · rw [if_neg (by omega)] at hstep
            rw [← ecells] at hstep
            have hd1 : decide (k = L + 1 - 1) = false := by simp [hkL]
            simp (disch := first | assumption | (apply Ap.symm; assumption) | omega | decide | (simp only [Xd] <;> omega)) only [hd1, ↓Xa, Xb, Xc, ↓reduceIte, Nat.reduceLT, Nat.reduceEqDiff, Nat.reduceBEq, Nat.reduceLeDiff, Nat.reduceAdd, Nat.reduceMul]
            refine run_call (wstr_run w0 (by omega) (by omega) fun M' hM' => ?_)
            simp (disch := first | assumption | (apply Ap.symm; assumption) | omega | decide | (simp only [Xd] <;> omega)) only [↓Xa, Xb, Xc, ↓reduceIte, Nat.reduceLT, Nat.reduceEqDiff, Nat.reduceBEq, Nat.reduceLeDiff, Nat.reduceAdd, Nat.reduceMul]
            exact fin _ _ hM' hstep
        | succ j =>
          have hj : j < 9 := by have := hx.1; omega
          have hbl : (Bt cells).length = 9 := by rw [Bt_len]; exact hcl
          have hd : x % 10 < 10 := Nat.mod_lt _ (by omega)
          simp (disch := first | assumption | (apply Ap.symm; assumption) | omega | decide | (simp only [Xd] <;> omega)) only [dn_succ, stP_Bt, ↓Xa, Xb, Xc, ↓reduceIte, Nat.reduceLT, Nat.reduceEqDiff, Nat.reduceBEq, Nat.reduceLeDiff, Nat.reduceAdd, Nat.reduceMul]
          exact ⟨by omega, by omega, Settle.now ⟨(j, _, x / 10), Nat.lt_succ_self j, hx.step, rfl⟩⟩
  · have h1 : 0 < (digs 4294967296 n).length := by
      have : ¬ (digs 4294967296 n).length = 0 := by rw [hz]; exact hn0
      omega
    simp (disch := first | assumption | (apply Ap.symm; assumption) | omega | decide | (simp only [Xd] <;> omega)) only [h1, ↓Xa, Xb, Xc, ↓reduceIte, Nat.reduceLT, Nat.reduceEqDiff, Nat.reduceBEq, Nat.reduceLeDiff, Nat.reduceAdd, Nat.reduceMul]
    refine (divsmall_fn (d := 1000000000) true (lim_digs (by omega) n) (by omega) (by omega) (by omega)).call ?_
    rw [val_digs (by omega)]
    simp (disch := first | assumption | (apply Ap.symm; assumption) | omega | decide | (simp only [Xd] <;> omega)) only [↓Xa, Xb, Xc, ↓reduceIte, Nat.reduceLT, Nat.reduceEqDiff, Nat.reduceBEq, Nat.reduceLeDiff, Nat.reduceAdd, Nat.reduceMul]
    have hlen := congrArg List.length he
    rw [List.length_append] at hlen
    refine app_grow (m := [n % 1000000000]) hg rfl (by simp) (by simp; omega) fun x' H2 hg2 => ?_
    simp (disch := first | assumption | (apply Ap.symm; assumption) | omega | decide | (simp only [Xd] <;> omega)) only [↓Xa, Xb, Xc, ↓reduceIte, Nat.reduceLT, Nat.reduceEqDiff, Nat.reduceBEq, Nat.reduceLeDiff, Nat.reduceAdd, Nat.reduceMul]
    refine Settle.now ⟨(done ++ [n % 1000000000], x', H2, n / 1000000000), Nat.div_lt_self (by omega) (by omega), ⟨hg2, ?_, Nat.le_trans (Nat.div_le_self _ _) hle⟩, rfl⟩
    dsimp only
    rw [he, digs_pos hP (show 0 < n by omega), List.append_assoc]; rfl
end Go.Proofs.YtanchgkiomfhhaaDoor.Fw

/- The laws' first question: are numbers added, multiplied, divided, told? -/
namespace Go.Proofs.YtanchgkiomfhhaaDoor.Fw
set_option linter.unusedSimpArgs false
set_option linter.unusedVariables false
open Go Go.Proofs.YtanchgkiomfhhaaDoor.Ma
set_option maxRecDepth 20000

end Go.Proofs.YtanchgkiomfhhaaDoor.Fw

/- What package limb computes, in terms of numbers. -/
namespace Go.Proofs.YtanchgkiomfhhaaDoor.Fw
set_option linter.unusedSimpArgs false
set_option linter.unusedVariables false
open Go Go.Proofs.YtanchgkiomfhhaaDoor.Ma
set_option maxRecDepth 20000

structure Nm (l : List Nat) (n k : Nat) : Prop where
  lim : Lim 4294967296 l
  val : val 4294967296 l = n
  len : l.length ≤ k
theorem Nm.lt {l : List Nat} {n k : Nat} (h : Nm l n k) : n < 4294967296 ^ k := by
  rw [← h.val]; exact Nat.lt_of_lt_of_le (val_lt h.lim) (Nat.pow_le_pow_right (by omega) h.len)
theorem Nm.digs {n k : Nat} (h : n < 4294967296 ^ k) : Nm (digs 4294967296 n) n k := ⟨lim_digs (by omega) n, val_digs (by omega) n, digs_len (by omega) k n h⟩
theorem Nm.raw {l : List Nat} {k : Nat} (h : Lim 4294967296 l) (hk : l.length ≤ k) : Nm l (Ma.val 4294967296 l) k := ⟨h, rfl, hk⟩
theorem Nm.mono {l : List Nat} {n k k' : Nat} (h : Nm l n k) (hk : k ≤ k') : Nm l n k' := ⟨h.lim, h.val, Nat.le_trans h.len hk⟩
end Go.Proofs.YtanchgkiomfhhaaDoor.Fw

/- The law of quotients and remainders of limbs, without the reference, as what its code computes: true. -/
namespace Go.Proofs.YtanchgkiomfhhaaDoor.Fw
set_option linter.unusedSimpArgs false
set_option linter.unusedVariables false
open Go Go.Proofs.YtanchgkiomfhhaaDoor.Ma
set_option maxRecDepth 20000

theorem Nm.one {c : Nat} (h : c < 4294967296) : Nm [c] c 1 := ⟨Lim.one h, val_one _ _, Nat.le_refl _⟩
theorem Nm.two {c : Nat} (h : c < 4294967296) : Nm [c, 0] c 2 := ⟨Lim.cons h (Lim.one (by omega)), by simp [Ma.val], Nat.le_refl _⟩
end Go.Proofs.YtanchgkiomfhhaaDoor.Fw

/- The number of a decimal text, and back. -/
namespace Go.Proofs.YtanchgkiomfhhaaDoor.Ma
set_option linter.unusedSimpArgs false
set_option linter.unusedVariables false

def decF (v : Nat) (l : List UInt8) : Nat := l.foldl (fun v b => 10 * v + (b.toNat - 48)) v
def decV (l : List UInt8) : Nat := decF 0 l
def isDig (b : UInt8) : Prop := 48 ≤ b.toNat ∧ b.toNat ≤ 57
def Good (l : List UInt8) : Prop := l ≠ [] ∧ (∀ b, b ∈ l → isDig b) ∧ (l.length = 1 ∨ (l.getD 0 0).toNat ≠ 48)
theorem good_decT (n : Nat) : Good (decT n) := by
  unfold decT
  split
  · exact ⟨by simp, by simp [isDig], .inl rfl⟩
  · rename_i h
    have hn : 0 < n := by omega
    refine ⟨dec_pos hn, fun b hb => ?_, .inr ?_⟩
    · unfold dec at hb
      obtain ⟨x, hx, rfl⟩ := List.mem_map.1 hb
      have := lim_digs (B := 10) (by omega) n x (List.mem_reverse.1 hx)
      unfold isDig; rw [chr_nat this]; omega
    · have hl := digs_last (B := 10) (by omega) hn
      have hne : digs 10 n ≠ [] := fun e => by have := (digs_nil (B := 10) (by omega)).1 e; omega
      obtain ⟨l, x, hx⟩ : ∃ l x, digs 10 n = l ++ [x] := ⟨_, _, (List.dropLast_concat_getLast hne).symm⟩
      have hx0 : x ≠ 0 := by
        rw [hx, last_append (by simp)] at hl
        simpa using hl
      have hx10 : x < 10 := lim_digs (B := 10) (by omega) n x (by rw [hx]; simp)
      have : dec n = chr x :: l.reverse.map chr := by simp [dec, hx]
      rw [this]
      show (chr x).toNat ≠ 48
      rw [chr_nat hx10]; omega
def badAt (l : List UInt8) (i : Nat) : Prop := (l.getD i 0).toNat < 48 ∨ 57 < (l.getD i 0).toNat ∨ (0 < i ∧ (l.getD 0 0).toNat = 48)
end Go.Proofs.YtanchgkiomfhhaaDoor.Ma

/- A text read, as package limb reads it. -/
namespace Go.Proofs.YtanchgkiomfhhaaDoor.Fw
set_option linter.unusedSimpArgs false
set_option linter.unusedVariables false
open Go Go.Proofs.YtanchgkiomfhhaaDoor.Ma
set_option maxRecDepth 20000

def spot (e a : Nat) : AV := .agg [.int .i64 (e : Int), .int .i64 (a : Int)]
theorem rng_Sx {H : AHeap} {l : List UInt8} {K : AV → AHeap → Prop} : rngW H (Sx l) K = rngS H ⟨l.toArray⟩ K := id rfl
theorem byte_Sx {l : List UInt8} {i : Nat} : byteAt ⟨l.toArray⟩ i = (l.getD i 0).toNat := by simp [byteAt]
theorem nxt_Sl {H : AHeap} {b pos : Nat} {l : List UInt8} {K : AV → AHeap → Prop} (h : pos < l.length) (hb : (l.getD pos 0).toNat < 128) : nxtP H b K (some (.raw (.stringIter ⟨l.toArray⟩ pos))) = K (.tup [.bool true, .int .i64 (pos : Int), .int .i32 (((l.getD pos 0).toNat : Nat) : Int)]) (H.upd b (some (.raw (.stringIter ⟨l.toArray⟩ (pos + 1))))) := by
  rw [nxt_lt (by rw [size_Sx]; exact h) (by rw [byte_Sx]; exact hb), byte_Sx]
theorem nxt_Sg {H : AHeap} {b pos : Nat} {l : List UInt8} {K : AV → AHeap → Prop} (h : l.length ≤ pos) : nxtP H b K (some (.raw (.stringIter ⟨l.toArray⟩ pos))) = K (.tup [.bool false]) H := nxt_ge (by rw [size_Sx]; exact h)
theorem wn_i32 {n : Nat} (h : n < 2147483648) : IntKind.i32.wrap (n : Int) = (n : Int) := by
  unfold IntKind.wrap; simp only [IntKind.bits, IntKind.signed, Bool.true_and, decide_eq_true_eq, ge_iff_le]; split <;> omega
def ReadR (l : List UInt8) (r : AV) : Prop :=
  (65536 < l.length ∧ r = .tup [LS [] true, spot 3 65536]) ∨ (l = [] ∧ r = .tup [LS [] true, spot 6 0]) ∨
  (l.length ≤ 65536 ∧ ∃ i, i < l.length ∧ badAt l i ∧ (∀ j, j < i → ¬ badAt l j) ∧ r = .tup [LS [] true, spot 6 i]) ∨
  (l.length ≤ 65536 ∧ Good l ∧ r = .tup [LS (Ma.digs 4294967296 (decV l)) true, spot 0 0])
end Go.Proofs.YtanchgkiomfhhaaDoor.Fw

/- A number's digits gone over, as package limb tells them. -/
namespace Go.Proofs.YtanchgkiomfhhaaDoor.Fw
set_option linter.unusedSimpArgs false
set_option linter.unusedVariables false
open Go Go.Proofs.YtanchgkiomfhhaaDoor.Ma
set_option maxRecDepth 20000

theorem cW_y {P : Program} {b : Nat} {args : List AV} {H : AHeap} {K : AV → AHeap → Prop} : callW P (.yld b) args H K = YieldW P b args H K := id rfl
theorem load_cS {H : AHeap} {l : List UInt8} {K : AV → Prop} : loadW H none (.cptr [Sx l]) K = K (Sx l) := by simp [loadW, cellsAt, Sx]
theorem digits1_iter {l : List UInt8} (hg : ∀ b, b ∈ l → isDig b) (hl : l.length < 4611686018427387904) : IterW Tryd.prog 191 [.cptr [Sx l]] (fun d : Nat => [.int .i64 (d : Int)]) (l.map fun b => b.toNat - 48) := by
  intro b J Jx hy A B hd h0
  refine enter191 (by simp) ?_
  simp (disch := first | assumption | (apply Ap.symm; assumption) | omega | decide | (simp only [Xd] <;> omega)) only [ac191, rng_Sx, load_cS, ↓Xa, Xb, Xc, ↓reduceIte, Nat.reduceLT, Nat.reduceEqDiff, Nat.reduceBEq, Nat.reduceLeDiff, Nat.reduceAdd, Nat.reduceMul]
  refine rng_i fun q hq => ?_
  obtain ⟨qa, qb⟩ := un_none.1 hq
  simp (disch := first | assumption | (apply Ap.symm; assumption) | omega | decide | (simp only [Xd] <;> omega)) only [↓Xa, Xb, Xc, ↓reduceIte, Nat.reduceLT, Nat.reduceEqDiff, Nat.reduceBEq, Nat.reduceLeDiff, Nat.reduceAdd, Nat.reduceMul]
  refine W_loop (fun s : Nat × AHeap => ⟨[], [(0, .yld b), (6, .ptr q 0 0)], (Un s.2 B).upd q (some (.raw (.stringIter ⟨l.toArray⟩ s.1)))⟩) (fun s => s.1 ≤ l.length ∧ Dj s.2 B ∧ s.2 q = none ∧ J ((l.map fun b => b.toNat - 48).take s.1) s.2) (fun s => l.length - s.1) (0, A) (Settle.now rfl) ⟨Nat.zero_le _, hd, qa, by simpa using h0⟩ ?_
  rintro ⟨i, A1⟩ ⟨hi, hd1, hq1, hj⟩
  dsimp only at hi hd1 hq1 hj ⊢
  by_cases h : i < l.length
  · have hdg := hg _ (List.getElem_mem h)
    have eg : l.getD i 0 = l[i] := by rw [List.getD_eq_getElem?_getD, List.getElem?_eq_getElem h, Option.getD_some]
    rw [← eg] at hdg
    unfold isDig at hdg
    have h128 : (l.getD i 0).toNat < 128 := by omega
    have hx : (l.map fun b => b.toNat - 48) = (l.map fun b => b.toNat - 48).take i ++ ((l.getD i 0).toNat - 48) :: (l.map fun b => b.toNat - 48).drop (i + 1) := by
      conv => lhs; rw [← List.take_append_drop i (l.map fun b => b.toNat - 48)]
      rw [List.drop_eq_getElem_cons (by simpa using h), List.getElem_map, eg]
    have hx2 : (l.map fun b => b.toNat - 48).take (i + 1) = (l.map fun b => b.toNat - 48).take i ++ [(l.getD i 0).toNat - 48] := by
      rw [List.take_add_one, List.getElem?_map, List.getElem?_eq_getElem h, eg]; rfl
    simp (disch := first | assumption | (apply Ap.symm; assumption) | omega | decide | (simp only [Xd] <;> omega)) only [nxt_Sl, wn_i32, cW_y, ↓Xa, Xb, Xc, ↓reduceIte, Nat.reduceLT, Nat.reduceEqDiff, Nat.reduceBEq, Nat.reduceLeDiff, Nat.reduceAdd, Nat.reduceMul]
    rw [← un_updR hq1]
    refine (hy _ _ _ A1 (B.upd q (some (.raw (.stringIter ⟨l.toArray⟩ (i + 1))))) hx (dj_updR hd1 hq1) hj).mono ?_
    rintro r H' ⟨A2, hd2, rfl, (⟨rfl, hj2⟩ | ⟨rfl, hj2⟩)⟩
    · have hq2 : A2 q = none := dj_atR hd2 (upd_same _ _ _)
      rw [un_updR hq2]
      simp (disch := first | assumption | (apply Ap.symm; assumption) | omega | decide | (simp only [Xd] <;> omega)) only [↓Xa, Xb, Xc, ↓reduceIte, Nat.reduceLT, Nat.reduceEqDiff, Nat.reduceBEq, Nat.reduceLeDiff, Nat.reduceAdd, Nat.reduceMul]
      refine Settle.keep [0, 6] ⟨(i + 1, A2), by dsimp only; omega, ⟨by dsimp only; omega, ?_, hq2, by dsimp only; rw [hx2]; exact hj2⟩, rfl⟩
      intro k
      by_cases e : k = q
      · subst e; exact .inl hq2
      · have := hd2 k
        rwa [upd_other _ _ e] at this
    · have hq2 : A2 q = none := dj_atR hd2 (upd_same _ _ _)
      have hd3 : Dj A2 B := fun k => by
        by_cases e : k = q
        · subst e; exact .inl hq2
        · have := hd2 k
          rwa [upd_other _ _ e] at this
      rw [un_updR hq2]
      simp (disch := first | assumption | (apply Ap.symm; assumption) | omega | decide | (simp only [Xd] <;> omega)) only [rs191, ↓Xa, Xb, Xc, ↓reduceIte, Nat.reduceLT, Nat.reduceEqDiff, Nat.reduceBEq, Nat.reduceLeDiff, Nat.reduceAdd, Nat.reduceMul]
      refine SetR.dropTo ((Le.refl _).upd (un_none.2 ⟨hq2, qb⟩)) (SetR.now ⟨A2, hd3, rfl, .inr hj2⟩)
  · obtain rfl : i = l.length := by omega
    simp (disch := first | assumption | (apply Ap.symm; assumption) | omega | decide | (simp only [Xd] <;> omega)) only [nxt_Sg, ↓Xa, Xb, Xc, ↓reduceIte, Nat.reduceLT, Nat.reduceEqDiff, Nat.reduceBEq, Nat.reduceLeDiff, Nat.reduceAdd, Nat.reduceMul]
    refine Settle.now ?_
    simp (disch := first | assumption | (apply Ap.symm; assumption) | omega | decide | (simp only [Xd] <;> omega)) only [rs191, ↓Xa, Xb, Xc, ↓reduceIte, Nat.reduceLT, Nat.reduceEqDiff, Nat.reduceBEq, Nat.reduceLeDiff, Nat.reduceAdd, Nat.reduceMul]
    rw [List.take_of_length_le (by simp)] at hj
    refine SetR.dropTo ((Le.refl _).upd (un_none.2 ⟨hq1, qb⟩)) (SetR.now ⟨A1, hd1, rfl, .inl hj⟩)
theorem digits_fn {l : List Nat} (t : Bool) (hl : Lim 4294967296 l) (hn : l.length ≤ 1099511627776) : PFn Tryd.prog 132 [LS l t] (.fn (.func 191) [] [.cptr [Sx (decT (val 4294967296 l))]]) := by
  intro H Q hq
  refine enter132 (by simp) ?_
  simp (disch := first | assumption | (apply Ap.symm; assumption) | omega | decide | (simp only [Xd] <;> omega)) only [ac132, ↓Xa, Xb, Xc, ↓reduceIte, Nat.reduceLT, Nat.reduceEqDiff, Nat.reduceBEq, Nat.reduceLeDiff, Nat.reduceAdd, Nat.reduceMul]
  refine (text_fn t hl hn).call ?_
  simp (disch := first | assumption | (apply Ap.symm; assumption) | omega | decide | (simp only [Xd] <;> omega)) only [↓Xa, Xb, Xc, ↓reduceIte, Nat.reduceLT, Nat.reduceEqDiff, Nat.reduceBEq, Nat.reduceLeDiff, Nat.reduceAdd, Nat.reduceMul]
  refine alloc_i fun p1 hp1 => ?_
  have n1 := hp1
  simp (disch := first | assumption | (apply Ap.symm; assumption) | omega | decide | (simp only [Xd] <;> omega)) only [cells_Sx, rs132, ↓Xa, Xb, Xc, ↓reduceIte, Nat.reduceLT, Nat.reduceEqDiff, Nat.reduceBEq, Nat.reduceLeDiff, Nat.reduceAdd, Nat.reduceMul]
  refine SetR.frzP p1 (upd_same _ _ _) ?_
  rw [upd_upd, upd_back _ n1]
  simp [frzP, frzP1]
  exact SetR.now hq
end Go.Proofs.YtanchgkiomfhhaaDoor.Fw

/- A whole number's text, as package integer tells it. -/
namespace Go.Proofs.YtanchgkiomfhhaaDoor.Fw
set_option linter.unusedSimpArgs false
set_option linter.unusedVariables false
open Go Go.Proofs.YtanchgkiomfhhaaDoor.Ma
set_option maxRecDepth 20000

def iText (z : Int) : List UInt8 := (if z < 0 then [45] else []) ++ decT z.natAbs
theorem Bt_app (l m : List UInt8) : Bt (l ++ m) = Bt l ++ Bt m := by simp [Bt]
theorem Bt_one {n : Nat} (h : n < 256) : [AV.int .u8 (n : Int)] = Bt [UInt8.ofNat n] := by
  simp only [Bt, List.map_cons, List.map_nil]
  rw [UInt8.toNat_ofNat', Nat.mod_eq_of_lt (by omega)]
theorem decT_len {n k : Nat} (h : n < 10 ^ k) (hk : 0 < k) : (decT n).length ≤ k := by
  unfold decT; split
  · simp; omega
  · exact dec_len h
theorem decT_bd {x : Int} {k : Nat} (hx : Bd k x) : (decT x.natAbs).length ≤ 10 * k + 1 := by
  refine decT_len (Nat.lt_of_lt_of_le hx ?_) (by omega)
  calc 4294967296 ^ k ≤ (10 ^ 10) ^ k := Nat.pow_le_pow_left (by omega) k
    _ = 10 ^ (10 * k) := by rw [Nat.pow_mul]
    _ ≤ 10 ^ (10 * k + 1) := Nat.pow_le_pow_right (by omega) (by omega)
theorem wn_u8' {n : Nat} (h : n < 256) : IntKind.u8.wrap (n : Int) = (n : Int) := by
  unfold IntKind.wrap; simp only [IntKind.bits, IntKind.signed, Bool.false_and, Bool.false_eq_true, if_false]; omega
theorem isDig_chr {b : UInt8} (h : isDig b) : UInt8.ofNat (48 + (b.toNat - 48)) = b := by
  unfold isDig at h
  rw [show 48 + (b.toNat - 48) = b.toNat by omega]; exact UInt8.ofNat_toNat
theorem b2s_B {H0 H : AHeap} {p tb ty : Nat} {l : List UInt8} (h : growB H0 p tb ty 1 l.length (Bt l) H) : ∃ x, H p = some (.row tb 0 [x]) ∧ AV.cells x = some [x] ∧ ∀ H' K, Le H H' → K (Sx l) → b2sW H' x K := by
  obtain ⟨x, hx, hc, _⟩ := growB_get h
  refine ⟨x, hx, ?_, ?_⟩
  · rcases hc with ⟨rfl, _, _⟩ | ⟨_, _, b, rfl, _⟩ <;> rfl
  · intro H' K hle k
    rcases hc with ⟨rfl, h0, hc⟩ | ⟨hn, hl, b, rfl, hb⟩
    · have : l = [] := List.eq_nil_of_length_eq_zero h0
      subst this
      exact ⟨rfl, k⟩
    · rw [Nat.mul_one, b2s_own, hle _ _ hb]
      refine ⟨by simp [Bt_len], rfl, by omega, ?_⟩
      rw [List.drop_zero, List.take_of_length_le (by simp [Bt_len]), bytesOf_Bt]
      exact k
def chD (d : Nat) : UInt8 := UInt8.ofNat (48 + d)
theorem chD_back : ∀ {l : List UInt8}, (∀ b, b ∈ l → isDig b) → (l.map fun b => b.toNat - 48).map chD = l := by
  intro l h
  rw [List.map_map]
  conv => rhs; rw [← List.map_id l]
  exact List.map_congr_left fun b hb => isDig_chr (h b hb)
theorem itext_fn {x : Int} {k : Nat} (hx : Bd k x) (hk : k ≤ 1000000) : PFn Tryd.prog 28 [IntA x] (Sx (iText x)) := by
  intro H Q hq
  have hdl := hx.len
  have hdt := decT_bd hx
  have hgd := good_decT x.natAbs
  refine enter28 (by simp) ?_
  simp (disch := first | assumption | (apply Ap.symm; assumption) | omega | decide | (simp only [Xd] <;> omega)) only [ac28, IntA, ↓Xa, Xb, Xc, ↓reduceIte, Nat.reduceLT, Nat.reduceEqDiff, Nat.reduceBEq, Nat.reduceLeDiff, Nat.reduceAdd, Nat.reduceMul]
  refine alloc_i fun p1 hp1 => ?_
  have n1 := hp1
  simp (disch := first | assumption | (apply Ap.symm; assumption) | omega | decide | (simp only [Xd] <;> omega)) only [↓Xa, Xb, Xc, ↓reduceIte, Nat.reduceLT, Nat.reduceEqDiff, Nat.reduceBEq, Nat.reduceLeDiff, Nat.reduceAdd, Nat.reduceMul]
  refine alloc_i fun p2 hp2 => ?_
  have n2 := hp2
  simp only [upd_none] at n2
  obtain ⟨_, n2⟩ := n2
  obtain ⟨neg, hneg⟩ : ∃ b, b = decide (x < 0) := ⟨_, rfl⟩
  rw [← hneg] at hp2 ⊢
  have tail : ∀ (pre : List UInt8) (H2 : AHeap) (v : Env), (v = [] ∨ v = [(6, .bool false)]) → pre.length ≤ 1 → pre ++ decT x.natAbs = iText x → growB (H.upd p1 (some (.row 28 0 [.bool neg, LS (digs 4294967296 x.natAbs) true]))) p2 103 5 1 pre.length (Bt pre) H2 →
      W Tryd.prog (sndC (sndC (sndC ac28))) (retN rs28 Q) ⟨[], [(1, .ptr p1 2 0), (2, Sx []), (3, .ptr p2 1 0)] ++ v, H2⟩ := by
    intro pre H2 v hv hp1 hpre hg
    have h1 : H2 p1 = some (.row 28 0 [.bool neg, LS (digs 4294967296 x.natAbs) true]) := by
      obtain ⟨_, _, _, hle⟩ := growB_get hg
      exact hle _ _ (upd_same _ _ _)
    rcases hv with rfl | rfl
    all_goals
     simp (disch := first | assumption | (apply Ap.symm; assumption) | omega | decide | (simp only [Xd] <;> omega)) only [sndC, ac28, h1, ↓Xa, Xb, Xc, ↓reduceIte, Nat.reduceLT, Nat.reduceEqDiff, Nat.reduceBEq, Nat.reduceLeDiff, Nat.reduceAdd, Nat.reduceMul]
     refine (digits_fn true (lim_digs (by omega) _) (by omega)).call ?_
     rw [val_digs (by omega)]
     simp (disch := first | assumption | (apply Ap.symm; assumption) | omega | decide | (simp only [Xd] <;> omega)) only [↓Xa, Xb, Xc, ↓reduceIte, Nat.reduceLT, Nat.reduceEqDiff, Nat.reduceBEq, Nat.reduceLeDiff, Nat.reduceAdd, Nat.reduceMul]
     obtain ⟨A, hd, rfl, hgA⟩ := growB_nu hg
     have hle : Le H (H.upd p1 (some (.row 28 0 [.bool neg, LS (digs 4294967296 x.natAbs) true]))) := (Le.refl H).upd n1
     refine rfn_iter (digits1_iter (fun b hb => hgd.2.1 b hb) (by omega)) (fun _ => rfl) (fun ds A => growB nilH p2 103 5 1 (pre ++ ds.map chD).length (Bt (pre ++ ds.map chD)) A) (fun _ _ => False) A _ hd rfl (by simpa using hgA) ?_ ?_ (fun _ _ _ _ _ _ h => h.elim)
     · intro ds d rest A B hds hdj hj R1 k1
       have hlen := congrArg List.length hds
       have hd10 : d < 10 := by
         have : d ∈ ((decT x.natAbs).map fun b => b.toNat - 48) := by rw [hds]; simp
         obtain ⟨b, hb, rfl⟩ := List.mem_map.1 this
         have := hgd.2.1 b hb
         unfold isDig at this; omega
       simp (disch := first | assumption | (apply Ap.symm; assumption) | omega | decide | (simp only [Xd] <;> omega)) only [setps, ↓Xa, Xb, Xc, ↓reduceIte, Nat.reduceLT, Nat.reduceEqDiff, Nat.reduceBEq, Nat.reduceLeDiff, Nat.reduceAdd, Nat.reduceMul]
       refine k1 _ A hdj fun R2 B1 k2 hd1 => ?_
       obtain ⟨y, hy, happ⟩ := growB_app (m := 1) (bytes := 1) (growB_un hj hd1)
       have e1 : IntKind.i64.wrap ((48 : Nat) + (d : Int)) = ((48 + d : Nat) : Int) := by rw [← Int.natCast_add]; exact wn_i64 (by omega)
       simp (disch := first | assumption | (apply Ap.symm; assumption) | omega | decide | (simp only [Xd] <;> omega)) only [hy, wn_u8', ↓Xa, Xb, Xc, ↓reduceIte, Nat.reduceLT, Nat.reduceEqDiff, Nat.reduceBEq, Nat.reduceLeDiff, Nat.reduceAdd, Nat.reduceMul]
       refine happ rfl rfl (by omega) ?_ ?_ fun x' H' hp hc hg2 => ?_
       · simp at hlen ⊢; omega
       · simp at hlen ⊢; omega
       simp (disch := first | assumption | (apply Ap.symm; assumption) | omega | decide | (simp only [Xd] <;> omega)) only [hp, hc, ↓Xa, Xb, Xc, ↓reduceIte, Nat.reduceLT, Nat.reduceEqDiff, Nat.reduceBEq, Nat.reduceLeDiff, Nat.reduceAdd, Nat.reduceMul]
       refine k2 .normal _ (Settle.now (growB_nu ?_))
       have e : pre ++ (ds ++ [d]).map chD = (pre ++ ds.map chD) ++ [chD d] := by simp
       dsimp only
       rw [e, List.length_append, Bt_app, show Bt [chD d] = [AV.int .u8 ((48 + d : Nat) : Int)] from (Bt_one (by omega)).symm]
       exact hg2
     · intro d A' hdj hA hB hj
       rw [chD_back hgd.2.1, hpre] at hj
       have hj2 := growB_un hj hdj
       obtain ⟨y, hy, hyc, hb2⟩ := b2s_B hj2
       obtain ⟨_, _, _, hle2⟩ := growB_get hj2
       have hdn := un_none.2 ⟨hA, hB⟩
       have hy2 : ((Un A' (H.upd p1 (some (.row 28 0 [.bool neg, LS (digs 4294967296 x.natAbs) true])))).upd d (some (.raw (.deferred (some []))))) p2 = some (.row 103 0 [y]) := by
         rw [upd_other _ _ (by rintro rfl; rw [hdn] at hy; cases hy)]; exact hy
       simp (disch := first | assumption | (apply Ap.symm; assumption) | omega | decide | (simp only [Xd] <;> omega)) only [hy2, ↓Xa, Xb, Xc, ↓reduceIte, Nat.reduceLT, Nat.reduceEqDiff, Nat.reduceBEq, Nat.reduceLeDiff, Nat.reduceAdd, Nat.reduceMul]
       refine hb2 _ _ ((Le.refl _).upd hdn) ?_
       simp (disch := first | assumption | (apply Ap.symm; assumption) | omega | decide | (simp only [Xd] <;> omega)) only [rs28, ↓Xa, Xb, Xc, ↓reduceIte, Nat.reduceLT, Nat.reduceEqDiff, Nat.reduceBEq, Nat.reduceLeDiff, Nat.reduceAdd, Nat.reduceMul]
       rw [upd_back _ hdn]
       exact SetR.dropTo (fun b x hb => hle2 _ _ (hle _ _ hb)) (SetR.now hq)
  have g0 := growB_nil (H0 := H.upd p1 (some (.row 28 0 [.bool neg, LS (digs 4294967296 x.natAbs) true]))) (tb := 103) (ty := 5) (es := 1) hp2
  cases neg with
  | true =>
    simp (disch := first | assumption | (apply Ap.symm; assumption) | omega | decide | (simp only [Xd] <;> omega)) only [↓Xa, Xb, Xc, ↓reduceIte, Nat.reduceLT, Nat.reduceEqDiff, Nat.reduceBEq, Nat.reduceLeDiff, Nat.reduceAdd, Nat.reduceMul]
    obtain ⟨y, hy, happ⟩ := growB_app (m := 1) (bytes := 1) g0
    obtain rfl : y = .seq 0 [] true := by rw [upd_same] at hy; injection hy with hy; injection hy with _ _ hy; injection hy with hy; exact hy.symm
    refine happ (by rfl) (by rfl) (by omega) (by omega) (by omega) fun x' H' hp hc hg2 => ?_
    simp (disch := first | assumption | (apply Ap.symm; assumption) | omega | decide | (simp only [Xd] <;> omega)) only [hp, hc, ↓Xa, Xb, Xc, ↓reduceIte, Nat.reduceLT, Nat.reduceEqDiff, Nat.reduceBEq, Nat.reduceLeDiff, Nat.reduceAdd, Nat.reduceMul]
    have tl := tail [45] _ [] (.inl rfl) (by simp) (by simp [iText, of_decide_eq_true hneg.symm]) hg2
    simp (disch := first | assumption | (apply Ap.symm; assumption) | omega | decide | (simp only [Xd] <;> omega)) only [sndC, ac28, ↓Xa, Xb, Xc, ↓reduceIte, Nat.reduceLT, Nat.reduceEqDiff, Nat.reduceBEq, Nat.reduceLeDiff, Nat.reduceAdd, Nat.reduceMul] at tl
    exact tl
  | false =>
    have tl := tail [] _ _ (.inr rfl) (by simp) (by simp [iText, of_decide_eq_false hneg.symm]) g0
    simp (disch := first | assumption | (apply Ap.symm; assumption) | omega | decide | (simp only [Xd] <;> omega)) only [sndC, ac28, ↓Xa, Xb, Xc, ↓reduceIte, Nat.reduceLT, Nat.reduceEqDiff, Nat.reduceBEq, Nat.reduceLeDiff, Nat.reduceAdd, Nat.reduceMul] at tl
    simp (disch := first | assumption | (apply Ap.symm; assumption) | omega | decide | (simp only [Xd] <;> omega)) only [↓Xa, Xb, Xc, ↓reduceIte, Nat.reduceLT, Nat.reduceEqDiff, Nat.reduceBEq, Nat.reduceLeDiff, Nat.reduceAdd, Nat.reduceMul]
    exact tl
end Go.Proofs.YtanchgkiomfhhaaDoor.Fw

/- A whole number's text read, as package integer and as its reference read it. -/
namespace Go.Proofs.YtanchgkiomfhhaaDoor.Fw
set_option linter.unusedSimpArgs false
set_option linter.unusedVariables false
open Go Go.Proofs.YtanchgkiomfhhaaDoor.Ma
set_option maxRecDepth 20000

def iFrom (l : List UInt8) : Nat := if (l.getD 0 0).toNat = 45 then 1 else 0
def iBad (l : List UInt8) (i : Nat) : Prop := (l.getD i 0).toNat < 48 ∨ 57 < (l.getD i 0).toNat ∨ (i = iFrom l + 1 ∧ (l.getD (iFrom l) 0).toNat = 48) ∨ (i = iFrom l ∧ iFrom l = 1 ∧ (l.getD i 0).toNat = 48)
def IsAt (l : List UInt8) (p : Nat) : Prop := iFrom l ≤ p ∧ p ≤ l.length ∧ iBad l p ∧ ∀ j, iFrom l ≤ j → j < p → ¬ iBad l j
def iVal (l : List UInt8) : Int := sg (decide (iFrom l = 1)) (decV (l.drop (iFrom l)))
def iReadA (l : List UInt8) (p : Nat) : AV :=
  if 65536 < l.length then .tup [IntA 0, spot 3 65536] else if p = iFrom l ∨ p < l.length then .tup [IntA 0, spot 6 p] else .tup [IntA (iVal l), spot 0 0]
end Go.Proofs.YtanchgkiomfhhaaDoor.Fw

/- A whole number's text, as the reference of layer 2 reads it. -/
namespace Go.Proofs.YtanchgkiomfhhaaDoor.Fw
set_option linter.unusedSimpArgs false
set_option linter.unusedVariables false
open Go Go.Proofs.YtanchgkiomfhhaaDoor.Ma
set_option maxRecDepth 20000

def rReadA (l : List UInt8) (p : Nat) : AV := if p = iFrom l ∨ p < l.length then .tup [RefA 0 true, .int .i64 (p : Int)] else .tup [RefA (iVal l) false, .int .i64 (-1)]
end Go.Proofs.YtanchgkiomfhhaaDoor.Fw
