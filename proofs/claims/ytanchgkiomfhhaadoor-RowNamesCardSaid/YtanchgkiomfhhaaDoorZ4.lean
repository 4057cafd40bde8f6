/- The texts Ac Li Nb Sa Sb Sc Lj Sd Lb Lk Ll Lm Se Sf Sh Nd Tb Ya, joined. -/
import Derived.Test.YtanchgkiomfhhaaDoorZ3
import Derived.Test.YtanchgkiomfhhaaDoorProg
/- The looked-up code of each function, and that it is: by a program (wip/tools/ac.py); Lean checks it. -/
namespace Go.Proofs.YtanchgkiomfhhaaDoor.Fw
open Go
set_option maxRecDepth 100000
theorem mixed : Go.Proofs.Tryd.prog.follows .mixedOrders = true := by kernel_rfl
def ac28 : ACode := (.seq (.reg [⟨(some 1), none, (.box 28 0 (.t 0))⟩, ⟨(some 2), none, (.mov (.k (.str ⟨#[]⟩)))⟩] [1, 2]) (.seq (.reg [⟨(some 3), none, (.alloc 103 0 [(.seq 0 [] true)])⟩] [1, 2, 3]) (.seq (.seq (.reg [⟨(some 5), none, (.fldA 0 (.t 1))⟩, ⟨(some 6), none, (.load none (.t 5))⟩] [1, 2, 3, 6]) (.cond (.t 6) (.reg [⟨(some 7), none, (.load none (.t 3))⟩, ⟨(some 8), none, (.bsl [(.int .u8 ((0 : Nat) : Int))] 1 1 [(0, (1, (.k (.int .u8 ((45 : Nat) : Int)))))])⟩, ⟨(some 9), none, (.app 5 1 1 (.t 7) (.t 8))⟩, ⟨none, none, (.store 1 (.t 3) (.t 9))⟩] [1, 2, 3]) .skip)) (.seq (.seq (.reg [⟨(some 10), none, (.fldA 1 (.t 1))⟩, ⟨(some 11), none, (.load none (.t 10))⟩, ⟨(some 12), none, (.call (.k (.fn (.func 132) [] [])) [(.t 11)])⟩] [2, 3, 12]) (.block 0 (.rfn (.t 12) [13] (.reg [⟨(some 4), none, (.mov (.t 13))⟩] [3, 4]) (.block 1 (.reg [⟨(some 14), none, (.load none (.t 3))⟩, ⟨(some 15), none, (.mov (.t 4))⟩, ⟨(some 16), none, (.bin .add (.k (.int .i64 ((48 : Nat) : Int))) (.t 15))⟩, ⟨(some 17), none, (.conv .u8 (.t 16))⟩, ⟨(some 18), none, (.bsl [(.int .u8 ((0 : Nat) : Int))] 1 1 [(0, (1, (.t 17)))])⟩, ⟨(some 19), none, (.app 5 1 1 (.t 14) (.t 18))⟩, ⟨none, none, (.store 1 (.t 3) (.t 19))⟩] []))))) (.seq (.reg [⟨(some 20), none, (.load none (.t 3))⟩, ⟨(some 21), none, (.prim .b2s [(.t 20)])⟩, ⟨(some 2), none, (.mov (.t 21))⟩] [2]) .ret)))))
def rs28 : List RV := [(.t 2)]
theorem co28 : compFn Go.Proofs.Tryd.prog Go.Proofs.Tryd.f28 pl28 = some (ac28, rs28) := by kernel_rfl
theorem enter28 {args : List AV} {H : AHeap} {Q : AV → AHeap → Prop} (hn : args.length ≤ 22) (h : W Go.Proofs.Tryd.prog ac28 (retN rs28 Q) ⟨[], initE args 0, H⟩) : Run Go.Proofs.Tryd.prog 28 args H Q := Run_fn2 mixed Go.Proofs.Tryd.func28 (by kernel_rfl) co28 (n := 22) (by kernel_rfl) hn h
def ac32 : ACode := (.seq (.reg [⟨(some 0), none, (.mov (.k (.bool false)))⟩] []) (.seq (.reg [⟨(some 4), none, (.bsl [(.int .i64 ((0 : Nat) : Int))] 2 1 [(0, (1, (.k (.int .i64 ((1 : Nat) : Int))))), (1, (1, (.k (.int .i64 ((2 : Nat) : Int)))))])⟩, ⟨(some 5), none, (.call (.k (.fn (.func 54) [] [])) [(.t 4)])⟩, ⟨(some 6), none, (.bsl [(.int .i64 ((0 : Nat) : Int))] 2 1 [(0, (1, (.k (.int .i64 ((3 : Nat) : Int))))), (1, (1, (.k (.int .i64 (-4)))))])⟩, ⟨(some 7), none, (.call (.k (.fn (.func 54) [] [])) [(.t 6)])⟩, ⟨(some 8), none, (.call (.k (.fn (.func 37) [] [])) [(.t 5), (.t 7)])⟩, ⟨(some 3), none, (.mov (.t 8))⟩, ⟨(some 9), none, (.ext (.t 3) 0)⟩, ⟨(some 10), none, (.ext (.t 3) 1)⟩, ⟨(some 1), none, (.mov (.t 9))⟩, ⟨(some 2), none, (.mov (.t 10))⟩] [1, 2]) (.seq (.reg [⟨(some 11), none, (.mov (.t 2))⟩, ⟨(some 12), none, (.bin .eql (.t 11) (.k (.int .i64 ((0 : Nat) : Int))))⟩, ⟨(some 13), none, (.mov (.t 12))⟩, ⟨(some 14), (some (13, true)), (.mov (.t 1))⟩, ⟨(some 15), (some (13, true)), (.call (.k (.fn (.func 86) [] [])) [(.t 14)])⟩, ⟨(some 16), (some (13, true)), (.bin .eql (.t 15) (.k (.str ⟨#[91, 52, 32, 45, 50, 93]⟩)))⟩, ⟨(some 17), none, (.pick (.t 13) (.t 16) (.k (.bool false)))⟩, ⟨(some 0), none, (.mov (.t 17))⟩] [0]) .ret)))
def rs32 : List RV := [(.t 0)]
theorem co32 : compFn Go.Proofs.Tryd.prog Go.Proofs.Tryd.f32 pl32 = some (ac32, rs32) := by kernel_rfl
theorem enter32 {args : List AV} {H : AHeap} {Q : AV → AHeap → Prop} (hn : args.length ≤ 18) (h : W Go.Proofs.Tryd.prog ac32 (retN rs32 Q) ⟨[], initE args 0, H⟩) : Run Go.Proofs.Tryd.prog 32 args H Q := Run_fn2 mixed Go.Proofs.Tryd.func32 (by kernel_rfl) co32 (n := 18) (by kernel_rfl) hn h
def ac35 : ACode := (.seq (.reg [⟨(some 4), none, (.alloc 28 0 [(.bool false), (.seq 0 [] true)])⟩] [0, 1, 4]) (.seq (.reg [⟨(some 5), none, (.mov (.t 0))⟩, ⟨(some 6), none, (.mov (.t 1))⟩, ⟨(some 7), none, (.call (.k (.fn (.func 138) [] [])) [(.t 6)])⟩, ⟨(some 8), none, (.call (.k (.fn (.func 137) [] [])) [(.t 5), (.t 7)])⟩, ⟨none, none, (.store 2 (.t 4) (.t 8))⟩] [4]) .ret))
def rs35 : List RV := [(.cell 4 (some 2))]
theorem co35 : compFn Go.Proofs.Tryd.prog Go.Proofs.Tryd.f35 pl35 = some (ac35, rs35) := by kernel_rfl
theorem enter35 {args : List AV} {H : AHeap} {Q : AV → AHeap → Prop} (hn : args.length ≤ 9) (h : W Go.Proofs.Tryd.prog ac35 (retN rs35 Q) ⟨[], initE args 0, H⟩) : Run Go.Proofs.Tryd.prog 35 args H Q := Run_fn2 mixed Go.Proofs.Tryd.func35 (by kernel_rfl) co35 (n := 9) (by kernel_rfl) hn h
def ac37 : ACode := (.seq (.reg [⟨(some 4), none, (.mov (.k (.seq 0 [] true)))⟩, ⟨(some 5), none, (.mov (.k (.int .i64 ((0 : Nat) : Int))))⟩] [0, 1]) (.seq (.reg [⟨(some 6), none, (.mov (.t 0))⟩, ⟨(some 7), none, (.mov (.t 1))⟩, ⟨(some 8), none, (.call (.k (.fn (.func 140) [] [])) [(.t 6), (.t 7), (.k (.fn (.func 121) [] []))])⟩, ⟨(some 9), none, (.ext (.t 8) 0)⟩, ⟨(some 10), none, (.ext (.t 8) 1)⟩, ⟨(some 4), none, (.mov (.t 9))⟩, ⟨(some 5), none, (.mov (.t 10))⟩] [4, 5]) .ret))
def rs37 : List RV := [(.t 4), (.t 5)]
theorem co37 : compFn Go.Proofs.Tryd.prog Go.Proofs.Tryd.f37 pl37 = some (ac37, rs37) := by kernel_rfl
theorem enter37 {args : List AV} {H : AHeap} {Q : AV → AHeap → Prop} (hn : args.length ≤ 11) (h : W Go.Proofs.Tryd.prog ac37 (retN rs37 Q) ⟨[], initE args 0, H⟩) : Run Go.Proofs.Tryd.prog 37 args H Q := Run_fn2 mixed Go.Proofs.Tryd.func37 (by kernel_rfl) co37 (n := 11) (by kernel_rfl) hn h
def ac54 : ACode := (.seq (.reg [⟨(some 2), none, (.mov (.k (.seq 0 [] true)))⟩] [0]) (.seq (.reg [⟨(some 3), none, (.mov (.k (.seq 0 [] true)))⟩] [0, 3]) (.seq (.seq (.reg [⟨(some 6), none, (.mov (.t 0))⟩, ⟨(some 7), none, (.len false (.t 6))⟩, ⟨(some 8), none, (.mov (.k (.int .i64 ((0 : Nat) : Int))))⟩] [3, 6, 7, 8]) (.block 0 (.loop (.seq (.reg [⟨(some 9), none, (.bin .lss (.t 8) (.t 7))⟩] [3, 6, 7, 8, 9]) (.seq (.cond (.t 9) .skip (.exit 0)) (.seq (.block 1 (.seq (.reg [⟨(some 10), none, (.idxA 1 (.t 6) (.t 8))⟩, ⟨(some 11), none, (.load none (.t 10))⟩, ⟨(some 5), none, (.mov (.t 11))⟩] [3, 5, 6, 7, 8]) (.reg [⟨(some 12), none, (.mov (.t 3))⟩, ⟨(some 13), none, (.mov (.t 5))⟩, ⟨(some 14), none, (.call (.k (.fn (.func 58) [] [])) [(.t 13)])⟩, ⟨(some 15), none, (.bsl [(.bool false), (.seq 0 [] true)] 1 2 [(0, (2, (.t 14)))])⟩, ⟨(some 16), none, (.app 28 2 32 (.t 12) (.t 15))⟩, ⟨(some 3), none, (.mov (.t 16))⟩] [3, 6, 7, 8]))) (.reg [⟨(some 17), none, (.bin .add (.t 8) (.k (.int .i64 ((1 : Nat) : Int))))⟩, ⟨(some 8), none, (.mov (.t 17))⟩] [3, 6, 7, 8]))))))) (.seq (.reg [⟨(some 18), none, (.mov (.t 3))⟩, ⟨(some 2), none, (.mov (.t 18))⟩] [2]) .ret))))
def rs54 : List RV := [(.t 2)]
theorem co54 : compFn Go.Proofs.Tryd.prog Go.Proofs.Tryd.f54 pl54 = some (ac54, rs54) := by kernel_rfl
theorem enter54 {args : List AV} {H : AHeap} {Q : AV → AHeap → Prop} (hn : args.length ≤ 19) (h : W Go.Proofs.Tryd.prog ac54 (retN rs54 Q) ⟨[], initE args 0, H⟩) : Run Go.Proofs.Tryd.prog 54 args H Q := Run_fn2 mixed Go.Proofs.Tryd.func54 (by kernel_rfl) co54 (n := 19) (by kernel_rfl) hn h
def ac58 : ACode := (.seq (.reg [⟨(some 2), none, (.alloc 28 0 [(.bool false), (.seq 0 [] true)])⟩] [0, 2]) (.seq (.reg [⟨(some 4), none, (.mov (.t 0))⟩, ⟨(some 5), none, (.conv .u64 (.t 4))⟩, ⟨(some 3), none, (.mov (.t 5))⟩] [0, 2, 3]) (.seq (.seq (.reg [⟨(some 6), none, (.mov (.t 0))⟩, ⟨(some 7), none, (.bin .lss (.t 6) (.k (.int .i64 ((0 : Nat) : Int))))⟩] [0, 2, 3, 7]) (.cond (.t 7) (.reg [⟨(some 8), none, (.mov (.t 3))⟩, ⟨(some 9), none, (.un .neg (.t 8))⟩, ⟨(some 3), none, (.mov (.t 9))⟩] [0, 2, 3]) .skip)) (.seq (.reg [⟨(some 10), none, (.mov (.t 0))⟩, ⟨(some 11), none, (.bin .lss (.t 10) (.k (.int .i64 ((0 : Nat) : Int))))⟩, ⟨(some 12), none, (.mov (.t 3))⟩, ⟨(some 13), none, (.conv .u32 (.t 12))⟩, ⟨(some 14), none, (.mov (.t 3))⟩, ⟨(some 15), none, (.bin .shr (.t 14) (.k (.int .u64 ((32 : Nat) : Int))))⟩, ⟨(some 16), none, (.conv .u32 (.t 15))⟩, ⟨(some 17), none, (.bsl [(.int .u32 ((0 : Nat) : Int))] 2 1 [(0, (1, (.t 13))), (1, (1, (.t 16)))])⟩, ⟨(some 18), none, (.call (.k (.fn (.func 35) [] [])) [(.t 11), (.t 17)])⟩, ⟨none, none, (.store 2 (.t 2) (.t 18))⟩] [2]) .ret))))
def rs58 : List RV := [(.cell 2 (some 2))]
theorem co58 : compFn Go.Proofs.Tryd.prog Go.Proofs.Tryd.f58 pl58 = some (ac58, rs58) := by kernel_rfl
theorem enter58 {args : List AV} {H : AHeap} {Q : AV → AHeap → Prop} (hn : args.length ≤ 19) (h : W Go.Proofs.Tryd.prog ac58 (retN rs58 Q) ⟨[], initE args 0, H⟩) : Run Go.Proofs.Tryd.prog 58 args H Q := Run_fn2 mixed Go.Proofs.Tryd.func58 (by kernel_rfl) co58 (n := 19) (by kernel_rfl) hn h
def ac85 : ACode := (.seq (.reg [⟨(some 2), none, (.mov (.k (.seq 0 [] true)))⟩, ⟨(some 3), none, (.alloc 105 0 [(.int .i64 ((0 : Nat) : Int)), (.int .i64 ((0 : Nat) : Int))])⟩] [0, 3]) (.scopeJ 0 (.seq (.seq (.reg [⟨(some 10), none, (.mov (.t 0))⟩, ⟨(some 11), none, (.len true (.t 10))⟩, ⟨(some 12), none, (.bin .gtr (.t 11) (.k (.int .i64 ((65536 : Nat) : Int))))⟩] [0, 3, 12]) (.cond (.t 12) (.seq (.reg [⟨(some 13), none, (.build [(.int .i64 ((0 : Nat) : Int)), (.int .i64 ((0 : Nat) : Int))] [(0, (1, (.k (.int .i64 ((3 : Nat) : Int))))), (1, (1, (.k (.int .i64 ((65536 : Nat) : Int)))))])⟩, ⟨(some 2), none, (.mov (.k (.seq 0 [] true)))⟩, ⟨none, none, (.store 2 (.t 3) (.t 13))⟩] [2, 3]) .ret) .skip)) (.seq (.reg [⟨(some 4), none, (.mov (.k (.fn (.func 165) [] [])))⟩] [0, 3, 4]) (.seq (.seq (.reg [⟨(some 14), none, (.mov (.t 0))⟩, ⟨(some 15), none, (.bin .eql (.t 14) (.k (.str ⟨#[]⟩)))⟩, ⟨(some 16), none, (.mov (.t 15))⟩, ⟨(some 17), (some (16, false)), (.mov (.t 0))⟩, ⟨(some 18), (some (16, false)), (.idxS (.t 17) (.k (.int .i64 ((0 : Nat) : Int))))⟩, ⟨(some 19), (some (16, false)), (.bin .neq (.t 18) (.k (.int .u8 ((91 : Nat) : Int))))⟩, ⟨(some 20), none, (.pick (.t 16) (.k (.bool true)) (.t 19))⟩] [0, 3, 4, 20]) (.cond (.t 20) (.seq (.reg [⟨(some 21), none, (.mov (.t 4))⟩, ⟨(some 22), none, (.call (.t 21) [(.k (.int .i64 ((0 : Nat) : Int)))])⟩, ⟨(some 23), none, (.ext (.t 22) 0)⟩, ⟨(some 24), none, (.ext (.t 22) 1)⟩, ⟨(some 2), none, (.mov (.t 23))⟩, ⟨none, none, (.store 2 (.t 3) (.t 24))⟩] [2, 3]) .ret) .skip)) (.seq (.reg [⟨(some 5), none, (.mov (.k (.seq 0 [] true)))⟩] [0, 3, 4, 5]) (.seq (.reg [⟨(some 6), none, (.mov (.k (.int .i64 ((1 : Nat) : Int))))⟩] [0, 3, 4, 5, 6]) (.seq (.seq (.reg [⟨(some 25), none, (.mov (.t 0))⟩, ⟨(some 26), none, (.bin .eql (.t 25) (.k (.str ⟨#[91, 93]⟩)))⟩] [0, 3, 4, 5, 6, 26]) (.cond (.t 26) (.seq (.reg [⟨(some 27), none, (.build [(.int .i64 ((0 : Nat) : Int)), (.int .i64 ((0 : Nat) : Int))] [])⟩, ⟨(some 2), none, (.mov (.k (.seq 0 [] true)))⟩, ⟨none, none, (.store 2 (.t 3) (.t 27))⟩] [2, 3]) .ret) .skip)) (.seq (.seq (.reg [⟨(some 28), none, (.mov (.t 0))⟩, ⟨(some 29), none, (.call (.k (.fn (.func 166) [] [])) [(.t 28), (.k (.str ⟨#[91, 93]⟩))])⟩] [0, 3, 4, 5, 6, 29]) (.cond (.t 29) (.seq (.reg [⟨(some 30), none, (.mov (.t 4))⟩, ⟨(some 31), none, (.call (.t 30) [(.k (.int .i64 ((2 : Nat) : Int)))])⟩, ⟨(some 32), none, (.ext (.t 31) 0)⟩, ⟨(some 33), none, (.ext (.t 31) 1)⟩, ⟨(some 2), none, (.mov (.t 32))⟩, ⟨none, none, (.store 2 (.t 3) (.t 33))⟩] [2, 3]) .ret) .skip)) (.seq .skip (.seq (.reg [⟨(some 34), none, (.mov (.t 6))⟩, ⟨(some 7), none, (.mov (.t 34))⟩] [0, 3, 4, 5, 6, 7]) (.seq (.block 0 (.loop (.seq (.seq (.reg [⟨(some 35), none, (.mov (.t 7))⟩, ⟨(some 36), none, (.mov (.t 0))⟩, ⟨(some 37), none, (.len true (.t 36))⟩, ⟨(some 38), none, (.bin .lss (.t 35) (.t 37))⟩, ⟨(some 39), none, (.mov (.t 38))⟩, ⟨(some 40), (some (39, true)), (.mov (.t 0))⟩, ⟨(some 41), (some (39, true)), (.mov (.t 7))⟩, ⟨(some 42), (some (39, true)), (.idxS (.t 40) (.t 41))⟩, ⟨(some 43), (some (39, true)), (.bin .eql (.t 42) (.k (.int .u8 ((45 : Nat) : Int))))⟩, ⟨(some 44), (some (39, true)), (.mov (.t 43))⟩, ⟨(some 45), (some (44, false)), (.mov (.t 0))⟩, ⟨(some 46), (some (44, false)), (.mov (.t 7))⟩, ⟨(some 47), (some (44, false)), (.idxS (.t 45) (.t 46))⟩, ⟨(some 48), (some (44, false)), (.bin .geq (.t 47) (.k (.int .u8 ((48 : Nat) : Int))))⟩, ⟨(some 49), (some (44, false)), (.mov (.t 48))⟩, ⟨(some 50), (some (49, true)), (.mov (.t 0))⟩, ⟨(some 51), (some (49, true)), (.mov (.t 7))⟩, ⟨(some 52), (some (49, true)), (.idxS (.t 50) (.t 51))⟩, ⟨(some 53), (some (49, true)), (.bin .leq (.t 52) (.k (.int .u8 ((57 : Nat) : Int))))⟩, ⟨(some 54), (some (44, false)), (.pick (.t 49) (.t 53) (.k (.bool false)))⟩, ⟨(some 55), (some (39, true)), (.pick (.t 44) (.k (.bool true)) (.t 54))⟩, ⟨(some 56), none, (.pick (.t 39) (.t 55) (.k (.bool false)))⟩] [0, 3, 4, 5, 6, 7, 56]) (.cond (.t 56) .skip (.exit 0))) (.block 1 (.reg [⟨(some 57), none, (.mov (.t 7))⟩, ⟨(some 58), none, (.bin .add (.t 57) (.k (.int .i64 ((1 : Nat) : Int))))⟩, ⟨(some 7), none, (.mov (.t 58))⟩] [0, 3, 4, 5, 6, 7]))))) (.seq (.reg [⟨(some 60), none, (.mov (.t 0))⟩, ⟨(some 61), none, (.mov (.t 6))⟩, ⟨(some 62), none, (.mov (.t 7))⟩, ⟨(some 63), none, (.slcS (.t 60) (some (.t 61)) (some (.t 62)))⟩, ⟨(some 64), none, (.call (.k (.fn (.func 167) [] [])) [(.t 63)])⟩, ⟨(some 59), none, (.mov (.t 64))⟩, ⟨(some 65), none, (.ext (.t 59) 0)⟩, ⟨(some 66), none, (.ext (.t 59) 1)⟩, ⟨(some 8), none, (.alloc 28 0 [(.bool false), (.seq 0 [] true)])⟩, ⟨(some 9), none, (.alloc 105 0 [(.int .i64 ((0 : Nat) : Int)), (.int .i64 ((0 : Nat) : Int))])⟩, ⟨none, none, (.store 2 (.t 8) (.t 65))⟩, ⟨none, none, (.store 2 (.t 9) (.t 66))⟩] [0, 3, 4, 5, 6, 7, 8, 9]) (.seq (.block 2 (.seq (.reg [⟨(some 68), none, (.fldA 0 (.t 9))⟩, ⟨(some 69), none, (.load none (.t 68))⟩, ⟨(some 70), none, (.bin .neq (.t 69) (.k (.int .i64 ((0 : Nat) : Int))))⟩, ⟨(some 67), none, (.mov (.t 70))⟩] [0, 3, 4, 5, 6, 7, 8, 9, 67]) (.cond (.t 67) (.seq (.reg [⟨(some 71), none, (.mov (.t 4))⟩, ⟨(some 72), none, (.mov (.t 6))⟩, ⟨(some 73), none, (.fldA 1 (.t 9))⟩, ⟨(some 74), none, (.load none (.t 73))⟩, ⟨(some 75), none, (.bin .add (.t 72) (.t 74))⟩, ⟨(some 76), none, (.call (.t 71) [(.t 75)])⟩, ⟨(some 77), none, (.ext (.t 76) 0)⟩, ⟨(some 78), none, (.ext (.t 76) 1)⟩, ⟨(some 2), none, (.mov (.t 77))⟩, ⟨none, none, (.store 2 (.t 3) (.t 78))⟩] [2, 3]) .ret) (.seq (.reg [⟨(some 80), none, (.mov (.t 5))⟩, ⟨(some 81), none, (.len false (.t 80))⟩, ⟨(some 82), none, (.bin .eql (.t 81) (.k (.int .i64 ((4096 : Nat) : Int))))⟩, ⟨(some 79), none, (.mov (.t 82))⟩] [0, 3, 4, 5, 6, 7, 8, 79]) (.cond (.t 79) (.seq (.reg [⟨(some 83), none, (.mov (.t 6))⟩, ⟨(some 84), none, (.build [(.int .i64 ((0 : Nat) : Int)), (.int .i64 ((0 : Nat) : Int))] [(0, (1, (.k (.int .i64 ((3 : Nat) : Int))))), (1, (1, (.t 83)))])⟩, ⟨(some 2), none, (.mov (.k (.seq 0 [] true)))⟩, ⟨none, none, (.store 2 (.t 3) (.t 84))⟩] [2, 3]) .ret) .skip))))) (.seq (.reg [⟨(some 85), none, (.mov (.t 5))⟩, ⟨(some 86), none, (.load (some 2) (.t 8))⟩, ⟨(some 87), none, (.bsl [(.bool false), (.seq 0 [] true)] 1 2 [(0, (2, (.t 86)))])⟩, ⟨(some 88), none, (.app 28 2 32 (.t 85) (.t 87))⟩, ⟨(some 5), none, (.mov (.t 88))⟩] [0, 3, 4, 5, 7]) (.seq (.block 3 (.seq (.reg [⟨(some 90), none, (.mov (.t 7))⟩, ⟨(some 91), none, (.mov (.t 0))⟩, ⟨(some 92), none, (.len true (.t 91))⟩, ⟨(some 93), none, (.bin .eql (.t 90) (.t 92))⟩, ⟨(some 89), none, (.mov (.t 93))⟩] [0, 3, 4, 5, 7, 89]) (.cond (.t 89) (.seq (.reg [⟨(some 94), none, (.mov (.t 4))⟩, ⟨(some 95), none, (.mov (.t 7))⟩, ⟨(some 96), none, (.call (.t 94) [(.t 95)])⟩, ⟨(some 97), none, (.ext (.t 96) 0)⟩, ⟨(some 98), none, (.ext (.t 96) 1)⟩, ⟨(some 2), none, (.mov (.t 97))⟩, ⟨none, none, (.store 2 (.t 3) (.t 98))⟩] [2, 3]) .ret) (.seq (.reg [⟨(some 100), none, (.mov (.t 0))⟩, ⟨(some 101), none, (.mov (.t 7))⟩, ⟨(some 102), none, (.idxS (.t 100) (.t 101))⟩, ⟨(some 103), none, (.bin .eql (.t 102) (.k (.int .u8 ((32 : Nat) : Int))))⟩, ⟨(some 99), none, (.mov (.t 103))⟩] [0, 3, 4, 5, 7, 99]) (.cond (.t 99) (.seq (.reg [⟨(some 104), none, (.mov (.t 7))⟩, ⟨(some 105), none, (.bin .add (.t 104) (.k (.int .i64 ((1 : Nat) : Int))))⟩, ⟨(some 6), none, (.mov (.t 105))⟩] [0, 3, 4, 5, 6]) (.goto 0)) (.seq (.reg [⟨(some 107), none, (.mov (.t 0))⟩, ⟨(some 108), none, (.mov (.t 7))⟩, ⟨(some 109), none, (.idxS (.t 107) (.t 108))⟩, ⟨(some 110), none, (.bin .neq (.t 109) (.k (.int .u8 ((93 : Nat) : Int))))⟩, ⟨(some 106), none, (.mov (.t 110))⟩] [0, 3, 4, 5, 7, 106]) (.cond (.t 106) (.seq (.reg [⟨(some 111), none, (.mov (.t 4))⟩, ⟨(some 112), none, (.mov (.t 7))⟩, ⟨(some 113), none, (.call (.t 111) [(.t 112)])⟩, ⟨(some 114), none, (.ext (.t 113) 0)⟩, ⟨(some 115), none, (.ext (.t 113) 1)⟩, ⟨(some 2), none, (.mov (.t 114))⟩, ⟨none, none, (.store 2 (.t 3) (.t 115))⟩] [2, 3]) .ret) (.seq (.reg [⟨(some 117), none, (.mov (.t 7))⟩, ⟨(some 118), none, (.bin .add (.t 117) (.k (.int .i64 ((1 : Nat) : Int))))⟩, ⟨(some 119), none, (.mov (.t 0))⟩, ⟨(some 120), none, (.len true (.t 119))⟩, ⟨(some 121), none, (.bin .lss (.t 118) (.t 120))⟩, ⟨(some 116), none, (.mov (.t 121))⟩] [3, 4, 5, 7, 116]) (.cond (.t 116) (.seq (.reg [⟨(some 122), none, (.mov (.t 4))⟩, ⟨(some 123), none, (.mov (.t 7))⟩, ⟨(some 124), none, (.bin .add (.t 123) (.k (.int .i64 ((1 : Nat) : Int))))⟩, ⟨(some 125), none, (.call (.t 122) [(.t 124)])⟩, ⟨(some 126), none, (.ext (.t 125) 0)⟩, ⟨(some 127), none, (.ext (.t 125) 1)⟩, ⟨(some 2), none, (.mov (.t 126))⟩, ⟨none, none, (.store 2 (.t 3) (.t 127))⟩] [2, 3]) .ret) .skip))))))))) (.seq (.reg [⟨(some 128), none, (.mov (.t 5))⟩, ⟨(some 129), none, (.build [(.int .i64 ((0 : Nat) : Int)), (.int .i64 ((0 : Nat) : Int))] [])⟩, ⟨(some 2), none, (.mov (.t 128))⟩, ⟨none, none, (.store 2 (.t 3) (.t 129))⟩] [2, 3]) .ret))))))))))))))) (.seq (.reg [⟨(some 34), none, (.mov (.t 6))⟩, ⟨(some 7), none, (.mov (.t 34))⟩] [0, 3, 4, 5, 6, 7]) (.seq (.block 0 (.loop (.seq (.seq (.reg [⟨(some 35), none, (.mov (.t 7))⟩, ⟨(some 36), none, (.mov (.t 0))⟩, ⟨(some 37), none, (.len true (.t 36))⟩, ⟨(some 38), none, (.bin .lss (.t 35) (.t 37))⟩, ⟨(some 39), none, (.mov (.t 38))⟩, ⟨(some 40), (some (39, true)), (.mov (.t 0))⟩, ⟨(some 41), (some (39, true)), (.mov (.t 7))⟩, ⟨(some 42), (some (39, true)), (.idxS (.t 40) (.t 41))⟩, ⟨(some 43), (some (39, true)), (.bin .eql (.t 42) (.k (.int .u8 ((45 : Nat) : Int))))⟩, ⟨(some 44), (some (39, true)), (.mov (.t 43))⟩, ⟨(some 45), (some (44, false)), (.mov (.t 0))⟩, ⟨(some 46), (some (44, false)), (.mov (.t 7))⟩, ⟨(some 47), (some (44, false)), (.idxS (.t 45) (.t 46))⟩, ⟨(some 48), (some (44, false)), (.bin .geq (.t 47) (.k (.int .u8 ((48 : Nat) : Int))))⟩, ⟨(some 49), (some (44, false)), (.mov (.t 48))⟩, ⟨(some 50), (some (49, true)), (.mov (.t 0))⟩, ⟨(some 51), (some (49, true)), (.mov (.t 7))⟩, ⟨(some 52), (some (49, true)), (.idxS (.t 50) (.t 51))⟩, ⟨(some 53), (some (49, true)), (.bin .leq (.t 52) (.k (.int .u8 ((57 : Nat) : Int))))⟩, ⟨(some 54), (some (44, false)), (.pick (.t 49) (.t 53) (.k (.bool false)))⟩, ⟨(some 55), (some (39, true)), (.pick (.t 44) (.k (.bool true)) (.t 54))⟩, ⟨(some 56), none, (.pick (.t 39) (.t 55) (.k (.bool false)))⟩] [0, 3, 4, 5, 6, 7, 56]) (.cond (.t 56) .skip (.exit 0))) (.block 1 (.reg [⟨(some 57), none, (.mov (.t 7))⟩, ⟨(some 58), none, (.bin .add (.t 57) (.k (.int .i64 ((1 : Nat) : Int))))⟩, ⟨(some 7), none, (.mov (.t 58))⟩] [0, 3, 4, 5, 6, 7]))))) (.seq (.reg [⟨(some 60), none, (.mov (.t 0))⟩, ⟨(some 61), none, (.mov (.t 6))⟩, ⟨(some 62), none, (.mov (.t 7))⟩, ⟨(some 63), none, (.slcS (.t 60) (some (.t 61)) (some (.t 62)))⟩, ⟨(some 64), none, (.call (.k (.fn (.func 167) [] [])) [(.t 63)])⟩, ⟨(some 59), none, (.mov (.t 64))⟩, ⟨(some 65), none, (.ext (.t 59) 0)⟩, ⟨(some 66), none, (.ext (.t 59) 1)⟩, ⟨(some 8), none, (.alloc 28 0 [(.bool false), (.seq 0 [] true)])⟩, ⟨(some 9), none, (.alloc 105 0 [(.int .i64 ((0 : Nat) : Int)), (.int .i64 ((0 : Nat) : Int))])⟩, ⟨none, none, (.store 2 (.t 8) (.t 65))⟩, ⟨none, none, (.store 2 (.t 9) (.t 66))⟩] [0, 3, 4, 5, 6, 7, 8, 9]) (.seq (.block 2 (.seq (.reg [⟨(some 68), none, (.fldA 0 (.t 9))⟩, ⟨(some 69), none, (.load none (.t 68))⟩, ⟨(some 70), none, (.bin .neq (.t 69) (.k (.int .i64 ((0 : Nat) : Int))))⟩, ⟨(some 67), none, (.mov (.t 70))⟩] [0, 3, 4, 5, 6, 7, 8, 9, 67]) (.cond (.t 67) (.seq (.reg [⟨(some 71), none, (.mov (.t 4))⟩, ⟨(some 72), none, (.mov (.t 6))⟩, ⟨(some 73), none, (.fldA 1 (.t 9))⟩, ⟨(some 74), none, (.load none (.t 73))⟩, ⟨(some 75), none, (.bin .add (.t 72) (.t 74))⟩, ⟨(some 76), none, (.call (.t 71) [(.t 75)])⟩, ⟨(some 77), none, (.ext (.t 76) 0)⟩, ⟨(some 78), none, (.ext (.t 76) 1)⟩, ⟨(some 2), none, (.mov (.t 77))⟩, ⟨none, none, (.store 2 (.t 3) (.t 78))⟩] [2, 3]) .ret) (.seq (.reg [⟨(some 80), none, (.mov (.t 5))⟩, ⟨(some 81), none, (.len false (.t 80))⟩, ⟨(some 82), none, (.bin .eql (.t 81) (.k (.int .i64 ((4096 : Nat) : Int))))⟩, ⟨(some 79), none, (.mov (.t 82))⟩] [0, 3, 4, 5, 6, 7, 8, 79]) (.cond (.t 79) (.seq (.reg [⟨(some 83), none, (.mov (.t 6))⟩, ⟨(some 84), none, (.build [(.int .i64 ((0 : Nat) : Int)), (.int .i64 ((0 : Nat) : Int))] [(0, (1, (.k (.int .i64 ((3 : Nat) : Int))))), (1, (1, (.t 83)))])⟩, ⟨(some 2), none, (.mov (.k (.seq 0 [] true)))⟩, ⟨none, none, (.store 2 (.t 3) (.t 84))⟩] [2, 3]) .ret) .skip))))) (.seq (.reg [⟨(some 85), none, (.mov (.t 5))⟩, ⟨(some 86), none, (.load (some 2) (.t 8))⟩, ⟨(some 87), none, (.bsl [(.bool false), (.seq 0 [] true)] 1 2 [(0, (2, (.t 86)))])⟩, ⟨(some 88), none, (.app 28 2 32 (.t 85) (.t 87))⟩, ⟨(some 5), none, (.mov (.t 88))⟩] [0, 3, 4, 5, 7]) (.seq (.block 3 (.seq (.reg [⟨(some 90), none, (.mov (.t 7))⟩, ⟨(some 91), none, (.mov (.t 0))⟩, ⟨(some 92), none, (.len true (.t 91))⟩, ⟨(some 93), none, (.bin .eql (.t 90) (.t 92))⟩, ⟨(some 89), none, (.mov (.t 93))⟩] [0, 3, 4, 5, 7, 89]) (.cond (.t 89) (.seq (.reg [⟨(some 94), none, (.mov (.t 4))⟩, ⟨(some 95), none, (.mov (.t 7))⟩, ⟨(some 96), none, (.call (.t 94) [(.t 95)])⟩, ⟨(some 97), none, (.ext (.t 96) 0)⟩, ⟨(some 98), none, (.ext (.t 96) 1)⟩, ⟨(some 2), none, (.mov (.t 97))⟩, ⟨none, none, (.store 2 (.t 3) (.t 98))⟩] [2, 3]) .ret) (.seq (.reg [⟨(some 100), none, (.mov (.t 0))⟩, ⟨(some 101), none, (.mov (.t 7))⟩, ⟨(some 102), none, (.idxS (.t 100) (.t 101))⟩, ⟨(some 103), none, (.bin .eql (.t 102) (.k (.int .u8 ((32 : Nat) : Int))))⟩, ⟨(some 99), none, (.mov (.t 103))⟩] [0, 3, 4, 5, 7, 99]) (.cond (.t 99) (.seq (.reg [⟨(some 104), none, (.mov (.t 7))⟩, ⟨(some 105), none, (.bin .add (.t 104) (.k (.int .i64 ((1 : Nat) : Int))))⟩, ⟨(some 6), none, (.mov (.t 105))⟩] [0, 3, 4, 5, 6]) (.goto 0)) (.seq (.reg [⟨(some 107), none, (.mov (.t 0))⟩, ⟨(some 108), none, (.mov (.t 7))⟩, ⟨(some 109), none, (.idxS (.t 107) (.t 108))⟩, ⟨(some 110), none, (.bin .neq (.t 109) (.k (.int .u8 ((93 : Nat) : Int))))⟩, ⟨(some 106), none, (.mov (.t 110))⟩] [0, 3, 4, 5, 7, 106]) (.cond (.t 106) (.seq (.reg [⟨(some 111), none, (.mov (.t 4))⟩, ⟨(some 112), none, (.mov (.t 7))⟩, ⟨(some 113), none, (.call (.t 111) [(.t 112)])⟩, ⟨(some 114), none, (.ext (.t 113) 0)⟩, ⟨(some 115), none, (.ext (.t 113) 1)⟩, ⟨(some 2), none, (.mov (.t 114))⟩, ⟨none, none, (.store 2 (.t 3) (.t 115))⟩] [2, 3]) .ret) (.seq (.reg [⟨(some 117), none, (.mov (.t 7))⟩, ⟨(some 118), none, (.bin .add (.t 117) (.k (.int .i64 ((1 : Nat) : Int))))⟩, ⟨(some 119), none, (.mov (.t 0))⟩, ⟨(some 120), none, (.len true (.t 119))⟩, ⟨(some 121), none, (.bin .lss (.t 118) (.t 120))⟩, ⟨(some 116), none, (.mov (.t 121))⟩] [3, 4, 5, 7, 116]) (.cond (.t 116) (.seq (.reg [⟨(some 122), none, (.mov (.t 4))⟩, ⟨(some 123), none, (.mov (.t 7))⟩, ⟨(some 124), none, (.bin .add (.t 123) (.k (.int .i64 ((1 : Nat) : Int))))⟩, ⟨(some 125), none, (.call (.t 122) [(.t 124)])⟩, ⟨(some 126), none, (.ext (.t 125) 0)⟩, ⟨(some 127), none, (.ext (.t 125) 1)⟩, ⟨(some 2), none, (.mov (.t 126))⟩, ⟨none, none, (.store 2 (.t 3) (.t 127))⟩] [2, 3]) .ret) .skip))))))))) (.seq (.reg [⟨(some 128), none, (.mov (.t 5))⟩, ⟨(some 129), none, (.build [(.int .i64 ((0 : Nat) : Int)), (.int .i64 ((0 : Nat) : Int))] [])⟩, ⟨(some 2), none, (.mov (.t 128))⟩, ⟨none, none, (.store 2 (.t 3) (.t 129))⟩] [2, 3]) .ret)))))))))
def rs85 : List RV := [(.t 2), (.cell 3 (some 2))]
theorem co85 : compFn Go.Proofs.Tryd.prog Go.Proofs.Tryd.f85 pl85 = some (ac85, rs85) := by kernel_rfl
theorem enter85 {args : List AV} {H : AHeap} {Q : AV → AHeap → Prop} (hn : args.length ≤ 130) (h : W Go.Proofs.Tryd.prog ac85 (retN rs85 Q) ⟨[], initE args 0, H⟩) : Run Go.Proofs.Tryd.prog 85 args H Q := Run_fn2 mixed Go.Proofs.Tryd.func85 (by kernel_rfl) co85 (n := 130) (by kernel_rfl) hn h
def ac86 : ACode := (.seq (.reg [⟨(some 2), none, (.mov (.k (.str ⟨#[]⟩)))⟩] [0]) (.seq (.reg [⟨(some 3), none, (.mov (.k (.seq 0 [] true)))⟩] [0, 3]) (.seq (.seq (.reg [⟨(some 6), none, (.mov (.t 0))⟩, ⟨(some 7), none, (.len false (.t 6))⟩, ⟨(some 8), none, (.mov (.k (.int .i64 ((0 : Nat) : Int))))⟩] [3, 6, 7, 8]) (.block 0 (.loop (.seq (.reg [⟨(some 9), none, (.bin .lss (.t 8) (.t 7))⟩] [3, 6, 7, 8, 9]) (.seq (.cond (.t 9) .skip (.exit 0)) (.seq (.block 1 (.seq (.reg [⟨(some 10), none, (.idxA 2 (.t 6) (.t 8))⟩, ⟨(some 11), none, (.load (some 2) (.t 10))⟩, ⟨(some 5), none, (.alloc 28 0 [(.bool false), (.seq 0 [] true)])⟩, ⟨none, none, (.store 2 (.t 5) (.t 11))⟩] [3, 5, 6, 7, 8]) (.reg [⟨(some 12), none, (.mov (.t 3))⟩, ⟨(some 13), none, (.load (some 2) (.t 5))⟩, ⟨(some 14), none, (.call (.k (.fn (.func 28) [] [])) [(.t 13)])⟩, ⟨(some 15), none, (.bsl [(.str ⟨#[]⟩)] 1 1 [(0, (1, (.t 14)))])⟩, ⟨(some 16), none, (.app 9 1 16 (.t 12) (.t 15))⟩, ⟨(some 3), none, (.mov (.t 16))⟩] [3, 6, 7, 8]))) (.reg [⟨(some 17), none, (.bin .add (.t 8) (.k (.int .i64 ((1 : Nat) : Int))))⟩, ⟨(some 8), none, (.mov (.t 17))⟩] [3, 6, 7, 8]))))))) (.seq (.reg [⟨(some 18), none, (.mov (.t 3))⟩, ⟨(some 19), none, (.call (.k (.fn (.func 168) [] [])) [(.t 18), (.k (.str ⟨#[32]⟩))])⟩, ⟨(some 20), none, (.bin .add (.k (.str ⟨#[91]⟩)) (.t 19))⟩, ⟨(some 21), none, (.bin .add (.t 20) (.k (.str ⟨#[93]⟩)))⟩, ⟨(some 2), none, (.mov (.t 21))⟩] [2]) .ret))))
def rs86 : List RV := [(.t 2)]
theorem co86 : compFn Go.Proofs.Tryd.prog Go.Proofs.Tryd.f86 pl86 = some (ac86, rs86) := by kernel_rfl
theorem enter86 {args : List AV} {H : AHeap} {Q : AV → AHeap → Prop} (hn : args.length ≤ 22) (h : W Go.Proofs.Tryd.prog ac86 (retN rs86 Q) ⟨[], initE args 0, H⟩) : Run Go.Proofs.Tryd.prog 86 args H Q := Run_fn2 mixed Go.Proofs.Tryd.func86 (by kernel_rfl) co86 (n := 22) (by kernel_rfl) hn h
def ac121 : ACode := (.seq (.reg [⟨(some 2), none, (.box 28 0 (.t 0))⟩, ⟨(some 3), none, (.box 28 0 (.t 1))⟩, ⟨(some 4), none, (.alloc 28 0 [(.bool false), (.seq 0 [] true)])⟩] [2, 3, 4]) (.seq (.seq (.reg [⟨(some 7), none, (.fldA 0 (.t 2))⟩, ⟨(some 8), none, (.load none (.t 7))⟩, ⟨(some 9), none, (.fldA 0 (.t 3))⟩, ⟨(some 10), none, (.load none (.t 9))⟩, ⟨(some 11), none, (.binB .eql (.t 8) (.t 10))⟩] [2, 3, 4, 11]) (.cond (.t 11) (.seq (.draw [⟨(some 12), none, (.fldA 0 (.t 2))⟩, ⟨(some 13), none, (.load none (.t 12))⟩, ⟨(some 14), none, (.fldA 1 (.t 2))⟩, ⟨(some 15), none, (.load none (.t 14))⟩, ⟨(some 16), none, (.fldA 1 (.t 3))⟩, ⟨(some 17), none, (.load none (.t 16))⟩, ⟨(some 18), none, (.call (.k (.fn (.func 186) [] [])) [(.t 15), (.t 17)])⟩] [⟨(some 19), none, (.call (.k (.fn (.func 137) [] [])) [(.t 13), (.t 18)])⟩, ⟨none, none, (.store 2 (.t 4) (.t 19))⟩] [0, 0, 3, 3, 15, 15, 3] [4]) .ret) .skip)) (.seq (.seq (.reg [⟨(some 20), none, (.fldA 1 (.t 2))⟩, ⟨(some 21), none, (.load none (.t 20))⟩, ⟨(some 22), none, (.fldA 1 (.t 3))⟩, ⟨(some 23), none, (.load none (.t 22))⟩, ⟨(some 24), none, (.call (.k (.fn (.func 148) [] [])) [(.t 21), (.t 23)])⟩, ⟨(some 25), none, (.bin .lss (.t 24) (.k (.int .i64 ((0 : Nat) : Int))))⟩] [2, 3, 4, 25]) (.cond (.t 25) (.reg [⟨(some 26), none, (.load (some 2) (.t 3))⟩, ⟨(some 27), none, (.load (some 2) (.t 2))⟩, ⟨none, none, (.store 2 (.t 2) (.t 26))⟩, ⟨none, none, (.store 2 (.t 3) (.t 27))⟩] [2, 3, 4]) .skip)) (.seq (.reg [⟨(some 29), none, (.fldA 1 (.t 2))⟩, ⟨(some 30), none, (.load none (.t 29))⟩, ⟨(some 31), none, (.fldA 1 (.t 3))⟩, ⟨(some 32), none, (.load none (.t 31))⟩, ⟨(some 33), none, (.call (.k (.fn (.func 187) [] [])) [(.t 30), (.t 32)])⟩, ⟨(some 28), none, (.mov (.t 33))⟩, ⟨(some 34), none, (.ext (.t 28) 0)⟩, ⟨(some 35), none, (.ext (.t 28) 1)⟩, ⟨(some 5), none, (.mov (.t 34))⟩, ⟨(some 6), none, (.mov (.t 35))⟩] [2, 4, 5]) (.seq (.reg [⟨(some 36), none, (.fldA 0 (.t 2))⟩, ⟨(some 37), none, (.load none (.t 36))⟩, ⟨(some 38), none, (.mov (.t 5))⟩, ⟨(some 39), none, (.call (.k (.fn (.func 137) [] [])) [(.t 37), (.t 38)])⟩, ⟨none, none, (.store 2 (.t 4) (.t 39))⟩] [4]) .ret)))))
def rs121 : List RV := [(.cell 4 (some 2))]
theorem co121 : compFn Go.Proofs.Tryd.prog Go.Proofs.Tryd.f121 pl121 = some (ac121, rs121) := by kernel_rfl
theorem enter121 {args : List AV} {H : AHeap} {Q : AV → AHeap → Prop} (hn : args.length ≤ 40) (h : W Go.Proofs.Tryd.prog ac121 (retN rs121 Q) ⟨[], initE args 0, H⟩) : Run Go.Proofs.Tryd.prog 121 args H Q := Run_fn2 mixed Go.Proofs.Tryd.func121 (by kernel_rfl) co121 (n := 40) (by kernel_rfl) hn h
def ac132 : ACode := (.seq (.reg [⟨(some 2), none, (.mov (.k .nilF))⟩] [0]) (.seq (.reg [⟨(some 4), none, (.mov (.t 0))⟩, ⟨(some 5), none, (.call (.k (.fn (.func 190) [] [])) [(.t 4)])⟩, ⟨(some 3), none, (.alloc 9 0 [(.str ⟨#[]⟩)])⟩, ⟨none, none, (.store 1 (.t 3) (.t 5))⟩] [3]) (.seq (.reg [⟨(some 6), none, (.mkF (.func 191) [] [(.t 3)])⟩, ⟨(some 2), none, (.mov (.t 6))⟩] [2]) .ret)))
def rs132 : List RV := [(.t 2)]
theorem co132 : compFn Go.Proofs.Tryd.prog Go.Proofs.Tryd.f132 pl132 = some (ac132, rs132) := by kernel_rfl
theorem enter132 {args : List AV} {H : AHeap} {Q : AV → AHeap → Prop} (hn : args.length ≤ 7) (h : W Go.Proofs.Tryd.prog ac132 (retN rs132 Q) ⟨[], initE args 0, H⟩) : Run Go.Proofs.Tryd.prog 132 args H Q := Run_fn2 mixed Go.Proofs.Tryd.func132 (by kernel_rfl) co132 (n := 7) (by kernel_rfl) hn h
def ac137 : ACode := (.seq (.reg [⟨(some 4), none, (.alloc 28 0 [(.bool false), (.seq 0 [] true)])⟩] [0, 1, 4]) (.seq (.reg [⟨(some 5), none, (.mov (.t 0))⟩, ⟨(some 6), none, (.mov (.t 5))⟩, ⟨(some 7), (some (6, true)), (.mov (.t 1))⟩, ⟨(some 8), (some (6, true)), (.len false (.t 7))⟩, ⟨(some 9), (some (6, true)), (.bin .gtr (.t 8) (.k (.int .i64 ((0 : Nat) : Int))))⟩, ⟨(some 10), none, (.pick (.t 6) (.t 9) (.k (.bool false)))⟩, ⟨(some 11), none, (.mov (.t 1))⟩, ⟨(some 12), none, (.build [(.bool false), (.seq 0 [] true)] [(0, (1, (.t 10))), (1, (1, (.t 11)))])⟩, ⟨none, none, (.store 2 (.t 4) (.t 12))⟩] [4]) .ret))
def rs137 : List RV := [(.cell 4 (some 2))]
theorem co137 : compFn Go.Proofs.Tryd.prog Go.Proofs.Tryd.f137 pl137 = some (ac137, rs137) := by kernel_rfl
theorem enter137 {args : List AV} {H : AHeap} {Q : AV → AHeap → Prop} (hn : args.length ≤ 13) (h : W Go.Proofs.Tryd.prog ac137 (retN rs137 Q) ⟨[], initE args 0, H⟩) : Run Go.Proofs.Tryd.prog 137 args H Q := Run_fn2 mixed Go.Proofs.Tryd.func137 (by kernel_rfl) co137 (n := 13) (by kernel_rfl) hn h
def ac138 : ACode := (.seq (.reg [⟨(some 2), none, (.mov (.k (.seq 0 [] true)))⟩] [0]) (.seq (.reg [⟨(some 4), none, (.mov (.t 0))⟩, ⟨(some 5), none, (.call (.k (.fn (.func 197) [] [])) [(.t 4)])⟩, ⟨(some 0), none, (.mov (.t 5))⟩] [0]) (.seq (.reg [⟨(some 6), none, (.mov (.t 0))⟩, ⟨(some 7), none, (.len false (.t 6))⟩, ⟨(some 8), none, (.mks 172 1 4 [(.int .u32 ((0 : Nat) : Int))] (.t 7) (.t 7))⟩, ⟨(some 3), none, (.mov (.t 8))⟩] [0, 3]) (.seq (.reg [⟨(some 9), none, (.mov (.t 3))⟩, ⟨(some 10), none, (.mov (.t 0))⟩, ⟨(some 11), none, (.cpy 1 (.t 9) (.t 10))⟩] [3]) (.seq (.reg [⟨(some 12), none, (.mov (.t 3))⟩, ⟨(some 2), none, (.mov (.t 12))⟩] [2]) .ret)))))
def rs138 : List RV := [(.t 2)]
theorem co138 : compFn Go.Proofs.Tryd.prog Go.Proofs.Tryd.f138 pl138 = some (ac138, rs138) := by kernel_rfl
theorem enter138 {args : List AV} {H : AHeap} {Q : AV → AHeap → Prop} (hn : args.length ≤ 13) (h : W Go.Proofs.Tryd.prog ac138 (retN rs138 Q) ⟨[], initE args 0, H⟩) : Run Go.Proofs.Tryd.prog 138 args H Q := Run_fn2 mixed Go.Proofs.Tryd.func138 (by kernel_rfl) co138 (n := 13) (by kernel_rfl) hn h
def ac140 : ACode := (.seq (.reg [⟨(some 4), none, (.box 32 0 (.t 1))⟩, ⟨(some 5), none, (.box 178 0 (.t 2))⟩, ⟨(some 6), none, (.mov (.k (.seq 0 [] true)))⟩, ⟨(some 7), none, (.mov (.k (.int .i64 ((0 : Nat) : Int))))⟩] [0, 4, 5]) (.seq (.seq (.reg [⟨(some 9), none, (.mov (.t 0))⟩, ⟨(some 10), none, (.len false (.t 9))⟩, ⟨(some 11), none, (.load none (.t 4))⟩, ⟨(some 12), none, (.len false (.t 11))⟩, ⟨(some 13), none, (.bin .neq (.t 10) (.t 12))⟩] [0, 4, 5, 13]) (.cond (.t 13) (.seq (.reg [⟨(some 6), none, (.mov (.k (.seq 0 [] true)))⟩, ⟨(some 7), none, (.mov (.k (.int .i64 ((5 : Nat) : Int))))⟩] [6, 7]) .ret) .skip)) (.seq (.reg [⟨(some 8), none, (.alloc 3 0 [(.int .i64 ((0 : Nat) : Int))])⟩, ⟨none, none, (.store 1 (.t 8) (.k (.int .i64 (-1))))⟩] [0, 4, 5, 8]) (.seq (.reg [⟨(some 14), none, (.mov (.t 0))⟩, ⟨(some 15), none, (.mkF (.func 198) [] [(.t 8), (.t 5), (.t 4)])⟩, ⟨(some 16), none, (.call (.k (.fn (.func 144) [] [])) [(.t 14), (.t 15)])⟩, ⟨(some 6), none, (.mov (.t 16))⟩, ⟨(some 7), none, (.mov (.k (.int .i64 ((0 : Nat) : Int))))⟩] [6, 7]) .ret))))
def rs140 : List RV := [(.t 6), (.t 7)]
theorem co140 : compFn Go.Proofs.Tryd.prog Go.Proofs.Tryd.f140 pl140 = some (ac140, rs140) := by kernel_rfl
theorem enter140 {args : List AV} {H : AHeap} {Q : AV → AHeap → Prop} (hn : args.length ≤ 17) (h : W Go.Proofs.Tryd.prog ac140 (retN rs140 Q) ⟨[], initE args 0, H⟩) : Run Go.Proofs.Tryd.prog 140 args H Q := Run_fn2 mixed Go.Proofs.Tryd.func140 (by kernel_rfl) co140 (n := 17) (by kernel_rfl) hn h
def ac144 : ACode := (.seq (.reg [⟨(some 4), none, (.mov (.k (.seq 0 [] true)))⟩] [0, 1]) (.seq (.reg [⟨(some 5), none, (.mov (.k (.seq 0 [] true)))⟩] [0, 1, 5]) (.seq (.seq (.reg [⟨(some 8), none, (.mov (.t 0))⟩, ⟨(some 9), none, (.len false (.t 8))⟩, ⟨(some 10), none, (.mov (.k (.int .i64 ((0 : Nat) : Int))))⟩] [1, 5, 8, 9, 10]) (.block 0 (.loop (.seq (.reg [⟨(some 11), none, (.bin .lss (.t 10) (.t 9))⟩] [1, 5, 8, 9, 10, 11]) (.seq (.cond (.t 11) .skip (.exit 0)) (.seq (.block 1 (.seq (.reg [⟨(some 12), none, (.idxA 2 (.t 8) (.t 10))⟩, ⟨(some 13), none, (.load (some 2) (.t 12))⟩, ⟨(some 7), none, (.alloc 28 0 [(.bool false), (.seq 0 [] true)])⟩, ⟨none, none, (.store 2 (.t 7) (.t 13))⟩] [1, 5, 7, 8, 9, 10]) (.reg [⟨(some 14), none, (.mov (.t 5))⟩, ⟨(some 15), none, (.mov (.t 1))⟩, ⟨(some 16), none, (.load (some 2) (.t 7))⟩, ⟨(some 17), none, (.call (.t 15) [(.t 16)])⟩, ⟨(some 18), none, (.bsl [(.bool false), (.seq 0 [] true)] 1 2 [(0, (2, (.t 17)))])⟩, ⟨(some 19), none, (.app 28 2 32 (.t 14) (.t 18))⟩, ⟨(some 5), none, (.mov (.t 19))⟩] [1, 5, 8, 9, 10]))) (.reg [⟨(some 20), none, (.bin .add (.t 10) (.k (.int .i64 ((1 : Nat) : Int))))⟩, ⟨(some 10), none, (.mov (.t 20))⟩] [1, 5, 8, 9, 10]))))))) (.seq (.reg [⟨(some 21), none, (.mov (.t 5))⟩, ⟨(some 4), none, (.mov (.t 21))⟩] [4]) .ret))))
def rs144 : List RV := [(.t 4)]
theorem co144 : compFn Go.Proofs.Tryd.prog Go.Proofs.Tryd.f144 pl144 = some (ac144, rs144) := by kernel_rfl
theorem enter144 {args : List AV} {H : AHeap} {Q : AV → AHeap → Prop} (hn : args.length ≤ 22) (h : W Go.Proofs.Tryd.prog ac144 (retN rs144 Q) ⟨[], initE args 0, H⟩) : Run Go.Proofs.Tryd.prog 144 args H Q := Run_fn2 mixed Go.Proofs.Tryd.func144 (by kernel_rfl) co144 (n := 22) (by kernel_rfl) hn h
def ac148 : ACode := (.seq (.reg [⟨(some 4), none, (.mov (.k (.int .i64 ((0 : Nat) : Int))))⟩] [0, 1]) (.seq (.reg [⟨(some 6), none, (.mov (.t 0))⟩, ⟨(some 7), none, (.call (.k (.fn (.func 197) [] [])) [(.t 6)])⟩, ⟨(some 8), none, (.mov (.t 1))⟩, ⟨(some 9), none, (.call (.k (.fn (.func 197) [] [])) [(.t 8)])⟩, ⟨(some 0), none, (.mov (.t 7))⟩, ⟨(some 1), none, (.mov (.t 9))⟩] [0, 1]) (.seq (.block 0 (.seq (.reg [⟨(some 11), none, (.mov (.t 0))⟩, ⟨(some 12), none, (.len false (.t 11))⟩, ⟨(some 13), none, (.mov (.t 1))⟩, ⟨(some 14), none, (.len false (.t 13))⟩, ⟨(some 15), none, (.bin .lss (.t 12) (.t 14))⟩, ⟨(some 10), none, (.mov (.t 15))⟩] [0, 1, 10]) (.cond (.t 10) (.seq (.reg [⟨(some 4), none, (.mov (.k (.int .i64 (-1))))⟩] [4]) .ret) (.seq (.reg [⟨(some 17), none, (.mov (.t 0))⟩, ⟨(some 18), none, (.len false (.t 17))⟩, ⟨(some 19), none, (.mov (.t 1))⟩, ⟨(some 20), none, (.len false (.t 19))⟩, ⟨(some 21), none, (.bin .gtr (.t 18) (.t 20))⟩, ⟨(some 16), none, (.mov (.t 21))⟩] [0, 1, 16]) (.cond (.t 16) (.seq (.reg [⟨(some 4), none, (.mov (.k (.int .i64 ((1 : Nat) : Int))))⟩] [4]) .ret) .skip))))) (.seq (.seq (.reg [⟨(some 22), none, (.mov (.t 0))⟩, ⟨(some 23), none, (.len false (.t 22))⟩, ⟨(some 24), none, (.bin .sub (.t 23) (.k (.int .i64 ((1 : Nat) : Int))))⟩, ⟨(some 5), none, (.mov (.t 24))⟩] [0, 1, 5]) (.block 1 (.loop (.seq (.seq (.reg [⟨(some 25), none, (.mov (.t 5))⟩, ⟨(some 26), none, (.bin .geq (.t 25) (.k (.int .i64 ((0 : Nat) : Int))))⟩] [0, 1, 5, 26]) (.cond (.t 26) .skip (.exit 1))) (.seq (.block 2 (.block 3 (.seq (.draw [⟨(some 30), none, (.mov (.t 0))⟩, ⟨(some 31), none, (.mov (.t 5))⟩, ⟨(some 32), none, (.idxA 1 (.t 30) (.t 31))⟩, ⟨(some 33), none, (.load none (.t 32))⟩, ⟨(some 34), none, (.mov (.t 1))⟩, ⟨(some 35), none, (.mov (.t 5))⟩, ⟨(some 36), none, (.idxA 1 (.t 34) (.t 35))⟩, ⟨(some 37), none, (.load none (.t 36))⟩] [⟨(some 38), none, (.bin .lss (.t 33) (.t 37))⟩, ⟨(some 29), none, (.mov (.t 38))⟩] [0, 1, 0, 0, 15, 31, 15, 15] [0, 1, 5, 29]) (.cond (.t 29) (.seq (.reg [⟨(some 4), none, (.mov (.k (.int .i64 (-1))))⟩] [4]) .ret) (.seq (.draw [⟨(some 40), none, (.mov (.t 0))⟩, ⟨(some 41), none, (.mov (.t 5))⟩, ⟨(some 42), none, (.idxA 1 (.t 40) (.t 41))⟩, ⟨(some 43), none, (.load none (.t 42))⟩, ⟨(some 44), none, (.mov (.t 1))⟩, ⟨(some 45), none, (.mov (.t 5))⟩, ⟨(some 46), none, (.idxA 1 (.t 44) (.t 45))⟩, ⟨(some 47), none, (.load none (.t 46))⟩] [⟨(some 48), none, (.bin .gtr (.t 43) (.t 47))⟩, ⟨(some 39), none, (.mov (.t 48))⟩] [0, 1, 0, 0, 15, 31, 15, 15] [0, 1, 5, 39]) (.cond (.t 39) (.seq (.reg [⟨(some 4), none, (.mov (.k (.int .i64 ((1 : Nat) : Int))))⟩] [4]) .ret) .skip)))))) (.reg [⟨(some 27), none, (.mov (.t 5))⟩, ⟨(some 28), none, (.bin .sub (.t 27) (.k (.int .i64 ((1 : Nat) : Int))))⟩, ⟨(some 5), none, (.mov (.t 28))⟩] [0, 1, 5])))))) (.seq (.reg [⟨(some 4), none, (.mov (.k (.int .i64 ((0 : Nat) : Int))))⟩] [4]) .ret)))))
def rs148 : List RV := [(.t 4)]
theorem co148 : compFn Go.Proofs.Tryd.prog Go.Proofs.Tryd.f148 pl148 = some (ac148, rs148) := by kernel_rfl
theorem enter148 {args : List AV} {H : AHeap} {Q : AV → AHeap → Prop} (hn : args.length ≤ 49) (h : W Go.Proofs.Tryd.prog ac148 (retN rs148 Q) ⟨[], initE args 0, H⟩) : Run Go.Proofs.Tryd.prog 148 args H Q := Run_fn2 mixed Go.Proofs.Tryd.func148 (by kernel_rfl) co148 (n := 49) (by kernel_rfl) hn h
def ac165 : ACode := (.seq (.reg [⟨(some 2), none, (.mov (.k (.seq 0 [] true)))⟩, ⟨(some 3), none, (.alloc 105 0 [(.int .i64 ((0 : Nat) : Int)), (.int .i64 ((0 : Nat) : Int))])⟩] [0, 3]) (.seq (.reg [⟨(some 4), none, (.mov (.t 0))⟩, ⟨(some 5), none, (.build [(.int .i64 ((0 : Nat) : Int)), (.int .i64 ((0 : Nat) : Int))] [(0, (1, (.k (.int .i64 ((6 : Nat) : Int))))), (1, (1, (.t 4)))])⟩, ⟨(some 2), none, (.mov (.k (.seq 0 [] true)))⟩, ⟨none, none, (.store 2 (.t 3) (.t 5))⟩] [2, 3]) .ret))
def rs165 : List RV := [(.t 2), (.cell 3 (some 2))]
theorem co165 : compFn Go.Proofs.Tryd.prog Go.Proofs.Tryd.f165 pl165 = some (ac165, rs165) := by kernel_rfl
theorem enter165 {args : List AV} {H : AHeap} {Q : AV → AHeap → Prop} (hn : args.length ≤ 6) (h : W Go.Proofs.Tryd.prog ac165 (retN rs165 Q) ⟨[], initE args 0, H⟩) : Run Go.Proofs.Tryd.prog 165 args H Q := Run_fn2 mixed Go.Proofs.Tryd.func165 (by kernel_rfl) co165 (n := 6) (by kernel_rfl) hn h
def ac166 : ACode := (.seq (.reg [⟨(some 4), none, (.mov (.k (.bool false)))⟩] [0, 1]) (.seq (.reg [⟨(some 5), none, (.mov (.t 0))⟩, ⟨(some 6), none, (.mov (.t 1))⟩, ⟨(some 7), none, (.call (.k (.fn (.func 201) [] [])) [(.t 5), (.t 6)])⟩, ⟨(some 4), none, (.mov (.t 7))⟩] [4]) .ret))
def rs166 : List RV := [(.t 4)]
theorem co166 : compFn Go.Proofs.Tryd.prog Go.Proofs.Tryd.f166 pl166 = some (ac166, rs166) := by kernel_rfl
theorem enter166 {args : List AV} {H : AHeap} {Q : AV → AHeap → Prop} (hn : args.length ≤ 8) (h : W Go.Proofs.Tryd.prog ac166 (retN rs166 Q) ⟨[], initE args 0, H⟩) : Run Go.Proofs.Tryd.prog 166 args H Q := Run_fn2 mixed Go.Proofs.Tryd.func166 (by kernel_rfl) co166 (n := 8) (by kernel_rfl) hn h
def ac167 : ACode := (.seq (.reg [⟨(some 2), none, (.alloc 28 0 [(.bool false), (.seq 0 [] true)])⟩, ⟨(some 3), none, (.alloc 105 0 [(.int .i64 ((0 : Nat) : Int)), (.int .i64 ((0 : Nat) : Int))])⟩] [0, 2, 3]) (.seq (.seq (.reg [⟨(some 8), none, (.mov (.t 0))⟩, ⟨(some 9), none, (.len true (.t 8))⟩, ⟨(some 10), none, (.bin .gtr (.t 9) (.k (.int .i64 ((65536 : Nat) : Int))))⟩] [0, 2, 3, 10]) (.cond (.t 10) (.seq (.reg [⟨(some 11), none, (.build [(.bool false), (.seq 0 [] true)] [])⟩, ⟨(some 12), none, (.build [(.int .i64 ((0 : Nat) : Int)), (.int .i64 ((0 : Nat) : Int))] [(0, (1, (.k (.int .i64 ((3 : Nat) : Int))))), (1, (1, (.k (.int .i64 ((65536 : Nat) : Int)))))])⟩, ⟨none, none, (.store 2 (.t 2) (.t 11))⟩, ⟨none, none, (.store 2 (.t 3) (.t 12))⟩] [2, 3]) .ret) .skip)) (.seq (.reg [⟨(some 4), none, (.mov (.k (.int .i64 ((0 : Nat) : Int))))⟩] [0, 2, 3, 4]) (.seq (.seq (.reg [⟨(some 13), none, (.mov (.t 0))⟩, ⟨(some 14), none, (.bin .neq (.t 13) (.k (.str ⟨#[]⟩)))⟩, ⟨(some 15), none, (.mov (.t 14))⟩, ⟨(some 16), (some (15, true)), (.mov (.t 0))⟩, ⟨(some 17), (some (15, true)), (.idxS (.t 16) (.k (.int .i64 ((0 : Nat) : Int))))⟩, ⟨(some 18), (some (15, true)), (.bin .eql (.t 17) (.k (.int .u8 ((45 : Nat) : Int))))⟩, ⟨(some 19), none, (.pick (.t 15) (.t 18) (.k (.bool false)))⟩] [0, 2, 3, 4, 19]) (.cond (.t 19) (.reg [⟨(some 4), none, (.mov (.k (.int .i64 ((1 : Nat) : Int))))⟩] [0, 2, 3, 4]) .skip)) (.seq (.reg [⟨(some 20), none, (.mov (.t 4))⟩, ⟨(some 5), none, (.mov (.t 20))⟩] [0, 2, 3, 4, 5]) (.seq (.block 0 (.loop (.seq (.seq (.reg [⟨(some 21), none, (.mov (.t 4))⟩, ⟨(some 22), none, (.mov (.t 0))⟩, ⟨(some 23), none, (.len true (.t 22))⟩, ⟨(some 24), none, (.bin .lss (.t 21) (.t 23))⟩, ⟨(some 25), none, (.mov (.t 24))⟩, ⟨(some 26), (some (25, true)), (.mov (.t 0))⟩, ⟨(some 27), (some (25, true)), (.mov (.t 4))⟩, ⟨(some 28), (some (25, true)), (.idxS (.t 26) (.t 27))⟩, ⟨(some 29), (some (25, true)), (.bin .geq (.t 28) (.k (.int .u8 ((48 : Nat) : Int))))⟩, ⟨(some 30), none, (.pick (.t 25) (.t 29) (.k (.bool false)))⟩, ⟨(some 31), none, (.mov (.t 30))⟩, ⟨(some 32), (some (31, true)), (.mov (.t 0))⟩, ⟨(some 33), (some (31, true)), (.mov (.t 4))⟩, ⟨(some 34), (some (31, true)), (.idxS (.t 32) (.t 33))⟩, ⟨(some 35), (some (31, true)), (.bin .leq (.t 34) (.k (.int .u8 ((57 : Nat) : Int))))⟩, ⟨(some 36), none, (.pick (.t 31) (.t 35) (.k (.bool false)))⟩] [0, 2, 3, 4, 5, 36]) (.cond (.t 36) .skip (.exit 0))) (.seq (.block 1 (.seq (.seq (.reg [⟨(some 39), none, (.mov (.t 4))⟩, ⟨(some 40), none, (.mov (.t 5))⟩, ⟨(some 41), none, (.bin .add (.t 40) (.k (.int .i64 ((1 : Nat) : Int))))⟩, ⟨(some 42), none, (.bin .eql (.t 39) (.t 41))⟩, ⟨(some 43), none, (.mov (.t 42))⟩, ⟨(some 44), (some (43, true)), (.mov (.t 0))⟩, ⟨(some 45), (some (43, true)), (.mov (.t 5))⟩, ⟨(some 46), (some (43, true)), (.idxS (.t 44) (.t 45))⟩, ⟨(some 47), (some (43, true)), (.bin .eql (.t 46) (.k (.int .u8 ((48 : Nat) : Int))))⟩, ⟨(some 48), none, (.pick (.t 43) (.t 47) (.k (.bool false)))⟩] [0, 2, 3, 4, 5, 48]) (.cond (.t 48) (.exit 0) .skip)) (.seq (.reg [⟨(some 49), none, (.mov (.t 4))⟩, ⟨(some 50), none, (.mov (.t 5))⟩, ⟨(some 51), none, (.bin .eql (.t 49) (.t 50))⟩, ⟨(some 52), none, (.mov (.t 51))⟩, ⟨(some 53), (some (52, true)), (.mov (.t 5))⟩, ⟨(some 54), (some (52, true)), (.bin .eql (.t 53) (.k (.int .i64 ((1 : Nat) : Int))))⟩, ⟨(some 55), none, (.pick (.t 52) (.t 54) (.k (.bool false)))⟩, ⟨(some 56), none, (.mov (.t 55))⟩, ⟨(some 57), (some (56, true)), (.mov (.t 0))⟩, ⟨(some 58), (some (56, true)), (.mov (.t 4))⟩, ⟨(some 59), (some (56, true)), (.idxS (.t 57) (.t 58))⟩, ⟨(some 60), (some (56, true)), (.bin .eql (.t 59) (.k (.int .u8 ((48 : Nat) : Int))))⟩, ⟨(some 61), none, (.pick (.t 56) (.t 60) (.k (.bool false)))⟩] [0, 2, 3, 4, 5, 61]) (.cond (.t 61) (.exit 0) .skip)))) (.reg [⟨(some 37), none, (.mov (.t 4))⟩, ⟨(some 38), none, (.bin .add (.t 37) (.k (.int .i64 ((1 : Nat) : Int))))⟩, ⟨(some 4), none, (.mov (.t 38))⟩] [0, 2, 3, 4, 5]))))) (.seq (.seq (.reg [⟨(some 62), none, (.mov (.t 4))⟩, ⟨(some 63), none, (.mov (.t 5))⟩, ⟨(some 64), none, (.bin .eql (.t 62) (.t 63))⟩, ⟨(some 65), none, (.mov (.t 64))⟩, ⟨(some 66), (some (65, false)), (.mov (.t 4))⟩, ⟨(some 67), (some (65, false)), (.mov (.t 0))⟩, ⟨(some 68), (some (65, false)), (.len true (.t 67))⟩, ⟨(some 69), (some (65, false)), (.bin .lss (.t 66) (.t 68))⟩, ⟨(some 70), none, (.pick (.t 65) (.k (.bool true)) (.t 69))⟩] [0, 2, 3, 4, 5, 70]) (.cond (.t 70) (.seq (.reg [⟨(some 71), none, (.build [(.bool false), (.seq 0 [] true)] [])⟩, ⟨(some 72), none, (.mov (.t 4))⟩, ⟨(some 73), none, (.build [(.int .i64 ((0 : Nat) : Int)), (.int .i64 ((0 : Nat) : Int))] [(0, (1, (.k (.int .i64 ((6 : Nat) : Int))))), (1, (1, (.t 72)))])⟩, ⟨none, none, (.store 2 (.t 2) (.t 71))⟩, ⟨none, none, (.store 2 (.t 3) (.t 73))⟩] [2, 3]) .ret) .skip)) (.seq (.reg [⟨(some 75), none, (.mov (.t 0))⟩, ⟨(some 76), none, (.mov (.t 5))⟩, ⟨(some 77), none, (.slcS (.t 75) (some (.t 76)) none)⟩, ⟨(some 78), none, (.call (.k (.fn (.func 202) [] [])) [(.t 77)])⟩, ⟨(some 74), none, (.mov (.t 78))⟩, ⟨(some 79), none, (.ext (.t 74) 0)⟩, ⟨(some 80), none, (.ext (.t 74) 1)⟩, ⟨(some 7), none, (.alloc 105 0 [(.int .i64 ((0 : Nat) : Int)), (.int .i64 ((0 : Nat) : Int))])⟩, ⟨(some 6), none, (.mov (.t 79))⟩, ⟨none, none, (.store 2 (.t 7) (.t 80))⟩] [2, 3, 5, 6]) (.seq (.reg [⟨(some 81), none, (.mov (.t 5))⟩, ⟨(some 82), none, (.bin .eql (.t 81) (.k (.int .i64 ((1 : Nat) : Int))))⟩, ⟨(some 83), none, (.mov (.t 6))⟩, ⟨(some 84), none, (.call (.k (.fn (.func 137) [] [])) [(.t 82), (.t 83)])⟩, ⟨(some 85), none, (.build [(.int .i64 ((0 : Nat) : Int)), (.int .i64 ((0 : Nat) : Int))] [])⟩, ⟨none, none, (.store 2 (.t 2) (.t 84))⟩, ⟨none, none, (.store 2 (.t 3) (.t 85))⟩] [2, 3]) .ret)))))))))
def rs167 : List RV := [(.cell 2 (some 2)), (.cell 3 (some 2))]
theorem co167 : compFn Go.Proofs.Tryd.prog Go.Proofs.Tryd.f167 pl167 = some (ac167, rs167) := by kernel_rfl
theorem enter167 {args : List AV} {H : AHeap} {Q : AV → AHeap → Prop} (hn : args.length ≤ 86) (h : W Go.Proofs.Tryd.prog ac167 (retN rs167 Q) ⟨[], initE args 0, H⟩) : Run Go.Proofs.Tryd.prog 167 args H Q := Run_fn2 mixed Go.Proofs.Tryd.func167 (by kernel_rfl) co167 (n := 86) (by kernel_rfl) hn h
def ac168 : ACode := (.seq (.reg [⟨(some 4), none, (.mov (.k (.str ⟨#[]⟩)))⟩] [0, 1]) (.seq (.seq (.reg [⟨(some 11), none, (.mov (.t 0))⟩, ⟨(some 12), none, (.len false (.t 11))⟩] [0, 1, 12]) (.block 0 (.seq (.reg [⟨(some 14), none, (.bin .eql (.t 12) (.k (.int .i64 ((0 : Nat) : Int))))⟩, ⟨(some 13), none, (.mov (.t 14))⟩] [0, 1, 12, 13]) (.cond (.t 13) (.seq (.reg [⟨(some 4), none, (.mov (.k (.str ⟨#[]⟩)))⟩] [4]) .ret) (.seq (.reg [⟨(some 16), none, (.bin .eql (.t 12) (.k (.int .i64 ((1 : Nat) : Int))))⟩, ⟨(some 15), none, (.mov (.t 16))⟩] [0, 1, 15]) (.cond (.t 15) (.seq (.reg [⟨(some 17), none, (.mov (.t 0))⟩, ⟨(some 18), none, (.idxA 1 (.t 17) (.k (.int .i64 ((0 : Nat) : Int))))⟩, ⟨(some 19), none, (.load none (.t 18))⟩, ⟨(some 4), none, (.mov (.t 19))⟩] [4]) .ret) .skip)))))) (.seq (.reg [⟨(some 5), none, (.mov (.k (.int .i64 ((0 : Nat) : Int))))⟩] [0, 1, 5]) (.seq (.seq (.reg [⟨(some 20), none, (.mov (.t 1))⟩, ⟨(some 21), none, (.len true (.t 20))⟩, ⟨(some 22), none, (.bin .gtr (.t 21) (.k (.int .i64 ((0 : Nat) : Int))))⟩] [0, 1, 5, 22]) (.cond (.t 22) (.seq (.seq (.reg [⟨(some 23), none, (.mov (.t 1))⟩, ⟨(some 24), none, (.len true (.t 23))⟩, ⟨(some 25), none, (.mov (.t 0))⟩, ⟨(some 26), none, (.len false (.t 25))⟩, ⟨(some 27), none, (.bin .sub (.t 26) (.k (.int .i64 ((1 : Nat) : Int))))⟩, ⟨(some 28), none, (.bin .quo (.k (.int .i64 ((9223372036854775807 : Nat) : Int))) (.t 27))⟩, ⟨(some 29), none, (.bin .geq (.t 24) (.t 28))⟩] [0, 1, 5, 29]) (.cond (.t 29) .refuse .skip)) (.reg [⟨(some 31), none, (.mov (.t 5))⟩, ⟨(some 32), none, (.mov (.t 1))⟩, ⟨(some 33), none, (.len true (.t 32))⟩, ⟨(some 34), none, (.mov (.t 0))⟩, ⟨(some 35), none, (.len false (.t 34))⟩, ⟨(some 36), none, (.bin .sub (.t 35) (.k (.int .i64 ((1 : Nat) : Int))))⟩, ⟨(some 37), none, (.bin .mul (.t 33) (.t 36))⟩, ⟨(some 38), none, (.bin .add (.t 31) (.t 37))⟩, ⟨(some 5), none, (.mov (.t 38))⟩] [0, 1, 5])) .skip)) (.seq (.seq (.reg [⟨(some 39), none, (.mov (.t 0))⟩, ⟨(some 40), none, (.len false (.t 39))⟩, ⟨(some 41), none, (.mov (.k (.int .i64 ((0 : Nat) : Int))))⟩] [0, 1, 5, 39, 40, 41]) (.block 1 (.loop (.seq (.reg [⟨(some 42), none, (.bin .lss (.t 41) (.t 40))⟩] [0, 1, 5, 39, 40, 41, 42]) (.seq (.cond (.t 42) .skip (.exit 1)) (.seq (.block 2 (.seq (.reg [⟨(some 43), none, (.idxA 1 (.t 39) (.t 41))⟩, ⟨(some 44), none, (.load none (.t 43))⟩, ⟨(some 7), none, (.mov (.t 44))⟩] [0, 1, 5, 7, 39, 40, 41]) (.seq (.seq (.reg [⟨(some 45), none, (.mov (.t 7))⟩, ⟨(some 46), none, (.len true (.t 45))⟩, ⟨(some 47), none, (.mov (.t 5))⟩, ⟨(some 48), none, (.bin .sub (.k (.int .i64 ((9223372036854775807 : Nat) : Int))) (.t 47))⟩, ⟨(some 49), none, (.bin .gtr (.t 46) (.t 48))⟩] [0, 1, 5, 7, 39, 40, 41, 49]) (.cond (.t 49) .refuse .skip)) (.reg [⟨(some 51), none, (.mov (.t 5))⟩, ⟨(some 52), none, (.mov (.t 7))⟩, ⟨(some 53), none, (.len true (.t 52))⟩, ⟨(some 54), none, (.bin .add (.t 51) (.t 53))⟩, ⟨(some 5), none, (.mov (.t 54))⟩] [0, 1, 5, 39, 40, 41])))) (.reg [⟨(some 55), none, (.bin .add (.t 41) (.k (.int .i64 ((1 : Nat) : Int))))⟩, ⟨(some 41), none, (.mov (.t 55))⟩] [0, 1, 5, 39, 40, 41]))))))) (.seq (.reg [⟨(some 8), none, (.alloc 234 0 [.nilP, (.seq 0 [] true)])⟩] [0, 1, 5, 8]) (.seq (.reg [⟨(some 56), none, (.mov (.t 5))⟩, ⟨(some 57), none, (.call (.k (.fn (.func 203) [] [])) [(.t 8), (.t 56)])⟩] [0, 1, 8]) (.seq (.reg [⟨(some 58), none, (.mov (.t 0))⟩, ⟨(some 59), none, (.idxA 1 (.t 58) (.k (.int .i64 ((0 : Nat) : Int))))⟩, ⟨(some 60), none, (.load none (.t 59))⟩, ⟨(some 61), none, (.call (.k (.fn (.func 204) [] [])) [(.t 8), (.t 60)])⟩] [0, 1, 8]) (.seq (.seq (.reg [⟨(some 62), none, (.mov (.t 0))⟩, ⟨(some 63), none, (.slc 1 (.t 62) (some (.k (.int .i64 ((1 : Nat) : Int)))) none none)⟩, ⟨(some 64), none, (.len false (.t 63))⟩, ⟨(some 65), none, (.mov (.k (.int .i64 ((0 : Nat) : Int))))⟩] [1, 8, 63, 64, 65]) (.block 3 (.loop (.seq (.reg [⟨(some 66), none, (.bin .lss (.t 65) (.t 64))⟩] [1, 8, 63, 64, 65, 66]) (.seq (.cond (.t 66) .skip (.exit 3)) (.seq (.block 4 (.seq (.reg [⟨(some 67), none, (.idxA 1 (.t 63) (.t 65))⟩, ⟨(some 68), none, (.load none (.t 67))⟩, ⟨(some 10), none, (.mov (.t 68))⟩] [1, 8, 10, 63, 64, 65]) (.seq (.reg [⟨(some 69), none, (.mov (.t 1))⟩, ⟨(some 70), none, (.call (.k (.fn (.func 204) [] [])) [(.t 8), (.t 69)])⟩] [1, 8, 10, 63, 64, 65]) (.reg [⟨(some 71), none, (.mov (.t 10))⟩, ⟨(some 72), none, (.call (.k (.fn (.func 204) [] [])) [(.t 8), (.t 71)])⟩] [1, 8, 63, 64, 65])))) (.reg [⟨(some 73), none, (.bin .add (.t 65) (.k (.int .i64 ((1 : Nat) : Int))))⟩, ⟨(some 65), none, (.mov (.t 73))⟩] [1, 8, 63, 64, 65]))))))) (.seq (.reg [⟨(some 74), none, (.call (.k (.fn (.func 205) [] [])) [(.t 8)])⟩, ⟨(some 4), none, (.mov (.t 74))⟩] [4]) .ret))))))))))
def rs168 : List RV := [(.t 4)]
theorem co168 : compFn Go.Proofs.Tryd.prog Go.Proofs.Tryd.f168 pl168 = some (ac168, rs168) := by kernel_rfl
theorem enter168 {args : List AV} {H : AHeap} {Q : AV → AHeap → Prop} (hn : args.length ≤ 75) (h : W Go.Proofs.Tryd.prog ac168 (retN rs168 Q) ⟨[], initE args 0, H⟩) : Run Go.Proofs.Tryd.prog 168 args H Q := Run_fn2 mixed Go.Proofs.Tryd.func168 (by kernel_rfl) co168 (n := 75) (by kernel_rfl) hn h
def ac171 : ACode := (.seq (.reg [⟨(some 4), none, (.mov (.k (.seq 0 [] true)))⟩] [0, 1]) (.seq (.reg [⟨(some 11), none, (.mov (.t 0))⟩, ⟨(some 12), none, (.len false (.t 11))⟩, ⟨(some 13), none, (.mov (.t 1))⟩, ⟨(some 14), none, (.len false (.t 13))⟩, ⟨(some 15), none, (.bin .add (.t 12) (.t 14))⟩, ⟨(some 16), none, (.mks 172 1 4 [(.int .u32 ((0 : Nat) : Int))] (.t 15) (.t 15))⟩, ⟨(some 5), none, (.mov (.t 16))⟩] [0, 1, 5]) (.seq (.seq (.reg [⟨(some 17), none, (.mov (.t 0))⟩, ⟨(some 18), none, (.len false (.t 17))⟩, ⟨(some 19), none, (.mov (.k (.int .i64 ((0 : Nat) : Int))))⟩] [1, 5, 17, 18, 19]) (.block 0 (.loop (.seq (.reg [⟨(some 20), none, (.bin .lss (.t 19) (.t 18))⟩] [1, 5, 17, 18, 19, 20]) (.seq (.cond (.t 20) .skip (.exit 0)) (.seq (.block 1 (.seq (.reg [⟨(some 21), none, (.mov (.t 19))⟩, ⟨(some 22), none, (.idxA 1 (.t 17) (.t 19))⟩, ⟨(some 23), none, (.load none (.t 22))⟩, ⟨(some 6), none, (.mov (.t 21))⟩, ⟨(some 7), none, (.mov (.t 23))⟩] [1, 5, 6, 7, 17, 18, 19]) (.seq (.reg [⟨(some 8), none, (.mov (.k (.int .u64 ((0 : Nat) : Int))))⟩] [1, 5, 6, 7, 8, 17, 18, 19]) (.seq (.seq (.reg [⟨(some 24), none, (.mov (.t 1))⟩, ⟨(some 25), none, (.len false (.t 24))⟩, ⟨(some 26), none, (.mov (.k (.int .i64 ((0 : Nat) : Int))))⟩] [1, 5, 6, 7, 8, 17, 18, 19, 24, 25, 26]) (.block 2 (.loop (.seq (.reg [⟨(some 27), none, (.bin .lss (.t 26) (.t 25))⟩] [1, 5, 6, 7, 8, 17, 18, 19, 24, 25, 26, 27]) (.seq (.cond (.t 27) .skip (.exit 2)) (.seq (.block 3 (.seq (.reg [⟨(some 28), none, (.mov (.t 26))⟩, ⟨(some 29), none, (.idxA 1 (.t 24) (.t 26))⟩, ⟨(some 30), none, (.load none (.t 29))⟩, ⟨(some 9), none, (.mov (.t 28))⟩, ⟨(some 10), none, (.mov (.t 30))⟩] [1, 5, 6, 7, 8, 9, 10, 17, 18, 19, 24, 25, 26]) (.seq (.reg [⟨(some 31), none, (.mov (.t 8))⟩, ⟨(some 32), none, (.mov (.t 7))⟩, ⟨(some 33), none, (.conv .u64 (.t 32))⟩, ⟨(some 34), none, (.mov (.t 10))⟩, ⟨(some 35), none, (.conv .u64 (.t 34))⟩, ⟨(some 36), none, (.bin .mul (.t 33) (.t 35))⟩, ⟨(some 37), none, (.mov (.t 5))⟩, ⟨(some 38), none, (.mov (.t 6))⟩, ⟨(some 39), none, (.mov (.t 9))⟩, ⟨(some 40), none, (.bin .add (.t 38) (.t 39))⟩, ⟨(some 41), none, (.idxA 1 (.t 37) (.t 40))⟩, ⟨(some 42), none, (.load none (.t 41))⟩, ⟨(some 43), none, (.conv .u64 (.t 42))⟩, ⟨(some 44), none, (.bin .add (.t 36) (.t 43))⟩, ⟨(some 45), none, (.bin .add (.t 31) (.t 44))⟩, ⟨(some 8), none, (.mov (.t 45))⟩] [1, 5, 6, 7, 8, 9, 17, 18, 19, 24, 25, 26]) (.seq (.reg [⟨(some 46), none, (.mov (.t 5))⟩, ⟨(some 47), none, (.mov (.t 6))⟩, ⟨(some 48), none, (.mov (.t 9))⟩, ⟨(some 49), none, (.bin .add (.t 47) (.t 48))⟩, ⟨(some 50), none, (.mov (.t 8))⟩, ⟨(some 51), none, (.conv .u32 (.t 50))⟩, ⟨(some 52), none, (.idxA 1 (.t 46) (.t 49))⟩, ⟨none, none, (.store 1 (.t 52) (.t 51))⟩] [1, 5, 6, 7, 8, 17, 18, 19, 24, 25, 26]) (.reg [⟨(some 53), none, (.mov (.t 8))⟩, ⟨(some 54), none, (.bin .shr (.t 53) (.k (.int .u64 ((32 : Nat) : Int))))⟩, ⟨(some 8), none, (.mov (.t 54))⟩] [1, 5, 6, 7, 8, 17, 18, 19, 24, 25, 26]))))) (.reg [⟨(some 55), none, (.bin .add (.t 26) (.k (.int .i64 ((1 : Nat) : Int))))⟩, ⟨(some 26), none, (.mov (.t 55))⟩] [1, 5, 6, 7, 8, 17, 18, 19, 24, 25, 26]))))))) (.reg [⟨(some 56), none, (.mov (.t 5))⟩, ⟨(some 57), none, (.mov (.t 6))⟩, ⟨(some 58), none, (.mov (.t 1))⟩, ⟨(some 59), none, (.len false (.t 58))⟩, ⟨(some 60), none, (.bin .add (.t 57) (.t 59))⟩, ⟨(some 61), none, (.mov (.t 8))⟩, ⟨(some 62), none, (.conv .u32 (.t 61))⟩, ⟨(some 63), none, (.idxA 1 (.t 56) (.t 60))⟩, ⟨none, none, (.store 1 (.t 63) (.t 62))⟩] [1, 5, 17, 18, 19]))))) (.reg [⟨(some 64), none, (.bin .add (.t 19) (.k (.int .i64 ((1 : Nat) : Int))))⟩, ⟨(some 19), none, (.mov (.t 64))⟩] [1, 5, 17, 18, 19]))))))) (.seq (.reg [⟨(some 65), none, (.mov (.t 5))⟩, ⟨(some 66), none, (.call (.k (.fn (.func 197) [] [])) [(.t 65)])⟩, ⟨(some 4), none, (.mov (.t 66))⟩] [4]) .ret))))
def rs171 : List RV := [(.t 4)]
theorem co171 : compFn Go.Proofs.Tryd.prog Go.Proofs.Tryd.f171 pl171 = some (ac171, rs171) := by kernel_rfl
theorem enter171 {args : List AV} {H : AHeap} {Q : AV → AHeap → Prop} (hn : args.length ≤ 67) (h : W Go.Proofs.Tryd.prog ac171 (retN rs171 Q) ⟨[], initE args 0, H⟩) : Run Go.Proofs.Tryd.prog 171 args H Q := Run_fn2 mixed Go.Proofs.Tryd.func171 (by kernel_rfl) co171 (n := 67) (by kernel_rfl) hn h
def ac186 : ACode := (.seq (.reg [⟨(some 4), none, (.mov (.k (.seq 0 [] true)))⟩] [0, 1]) (.seq (.seq (.reg [⟨(some 9), none, (.mov (.t 0))⟩, ⟨(some 10), none, (.len false (.t 9))⟩, ⟨(some 11), none, (.mov (.t 1))⟩, ⟨(some 12), none, (.len false (.t 11))⟩, ⟨(some 13), none, (.bin .lss (.t 10) (.t 12))⟩] [0, 1, 13]) (.cond (.t 13) (.reg [⟨(some 14), none, (.mov (.t 1))⟩, ⟨(some 15), none, (.mov (.t 0))⟩, ⟨(some 0), none, (.mov (.t 14))⟩, ⟨(some 1), none, (.mov (.t 15))⟩] [0, 1]) .skip)) (.seq (.reg [⟨(some 16), none, (.mov (.t 0))⟩, ⟨(some 17), none, (.len false (.t 16))⟩, ⟨(some 18), none, (.bin .add (.t 17) (.k (.int .i64 ((1 : Nat) : Int))))⟩, ⟨(some 19), none, (.mks 172 1 4 [(.int .u32 ((0 : Nat) : Int))] (.t 18) (.t 18))⟩, ⟨(some 5), none, (.mov (.t 19))⟩] [0, 1, 5]) (.seq (.reg [⟨(some 6), none, (.mov (.k (.int .u64 ((0 : Nat) : Int))))⟩] [0, 1, 5, 6]) (.seq (.seq (.reg [⟨(some 20), none, (.mov (.t 0))⟩, ⟨(some 21), none, (.len false (.t 20))⟩, ⟨(some 22), none, (.mov (.k (.int .i64 ((0 : Nat) : Int))))⟩] [0, 1, 5, 6, 20, 21, 22]) (.block 0 (.loop (.seq (.reg [⟨(some 23), none, (.bin .lss (.t 22) (.t 21))⟩] [0, 1, 5, 6, 20, 21, 22, 23]) (.seq (.cond (.t 23) .skip (.exit 0)) (.seq (.block 1 (.seq (.reg [⟨(some 24), none, (.mov (.t 22))⟩, ⟨(some 25), none, (.idxA 1 (.t 20) (.t 22))⟩, ⟨(some 26), none, (.load none (.t 25))⟩, ⟨(some 7), none, (.mov (.t 24))⟩, ⟨(some 8), none, (.mov (.t 26))⟩] [0, 1, 5, 6, 7, 8, 20, 21, 22]) (.seq (.reg [⟨(some 27), none, (.mov (.t 6))⟩, ⟨(some 28), none, (.mov (.t 8))⟩, ⟨(some 29), none, (.conv .u64 (.t 28))⟩, ⟨(some 30), none, (.bin .add (.t 27) (.t 29))⟩, ⟨(some 6), none, (.mov (.t 30))⟩] [0, 1, 5, 6, 7, 20, 21, 22]) (.seq (.seq (.reg [⟨(some 31), none, (.mov (.t 7))⟩, ⟨(some 32), none, (.mov (.t 1))⟩, ⟨(some 33), none, (.len false (.t 32))⟩, ⟨(some 34), none, (.bin .lss (.t 31) (.t 33))⟩] [0, 1, 5, 6, 7, 20, 21, 22, 34]) (.cond (.t 34) (.reg [⟨(some 35), none, (.mov (.t 6))⟩, ⟨(some 36), none, (.mov (.t 1))⟩, ⟨(some 37), none, (.mov (.t 7))⟩, ⟨(some 38), none, (.idxA 1 (.t 36) (.t 37))⟩, ⟨(some 39), none, (.load none (.t 38))⟩, ⟨(some 40), none, (.conv .u64 (.t 39))⟩, ⟨(some 41), none, (.bin .add (.t 35) (.t 40))⟩, ⟨(some 6), none, (.mov (.t 41))⟩] [0, 1, 5, 6, 7, 20, 21, 22]) .skip)) (.seq (.reg [⟨(some 42), none, (.mov (.t 5))⟩, ⟨(some 43), none, (.mov (.t 7))⟩, ⟨(some 44), none, (.mov (.t 6))⟩, ⟨(some 45), none, (.conv .u32 (.t 44))⟩, ⟨(some 46), none, (.idxA 1 (.t 42) (.t 43))⟩, ⟨none, none, (.store 1 (.t 46) (.t 45))⟩] [0, 1, 5, 6, 20, 21, 22]) (.reg [⟨(some 47), none, (.mov (.t 6))⟩, ⟨(some 48), none, (.bin .shr (.t 47) (.k (.int .u64 ((32 : Nat) : Int))))⟩, ⟨(some 6), none, (.mov (.t 48))⟩] [0, 1, 5, 6, 20, 21, 22])))))) (.reg [⟨(some 49), none, (.bin .add (.t 22) (.k (.int .i64 ((1 : Nat) : Int))))⟩, ⟨(some 22), none, (.mov (.t 49))⟩] [0, 1, 5, 6, 20, 21, 22]))))))) (.seq (.reg [⟨(some 50), none, (.mov (.t 5))⟩, ⟨(some 51), none, (.mov (.t 0))⟩, ⟨(some 52), none, (.len false (.t 51))⟩, ⟨(some 53), none, (.mov (.t 6))⟩, ⟨(some 54), none, (.conv .u32 (.t 53))⟩, ⟨(some 55), none, (.idxA 1 (.t 50) (.t 52))⟩, ⟨none, none, (.store 1 (.t 55) (.t 54))⟩] [5]) (.seq (.reg [⟨(some 56), none, (.mov (.t 5))⟩, ⟨(some 57), none, (.call (.k (.fn (.func 197) [] [])) [(.t 56)])⟩, ⟨(some 4), none, (.mov (.t 57))⟩] [4]) .ret)))))))
def rs186 : List RV := [(.t 4)]
theorem co186 : compFn Go.Proofs.Tryd.prog Go.Proofs.Tryd.f186 pl186 = some (ac186, rs186) := by kernel_rfl
theorem enter186 {args : List AV} {H : AHeap} {Q : AV → AHeap → Prop} (hn : args.length ≤ 58) (h : W Go.Proofs.Tryd.prog ac186 (retN rs186 Q) ⟨[], initE args 0, H⟩) : Run Go.Proofs.Tryd.prog 186 args H Q := Run_fn2 mixed Go.Proofs.Tryd.func186 (by kernel_rfl) co186 (n := 58) (by kernel_rfl) hn h
def ac187 : ACode := (.seq (.reg [⟨(some 4), none, (.mov (.k (.seq 0 [] true)))⟩, ⟨(some 5), none, (.mov (.k (.int .i64 ((0 : Nat) : Int))))⟩] [0, 1]) (.seq (.seq (.reg [⟨(some 12), none, (.mov (.t 0))⟩, ⟨(some 13), none, (.mov (.t 1))⟩, ⟨(some 14), none, (.call (.k (.fn (.func 148) [] [])) [(.t 12), (.t 13)])⟩, ⟨(some 15), none, (.bin .lss (.t 14) (.k (.int .i64 ((0 : Nat) : Int))))⟩] [0, 1, 15]) (.cond (.t 15) (.seq (.reg [⟨(some 4), none, (.mov (.k (.seq 0 [] true)))⟩, ⟨(some 5), none, (.mov (.k (.int .i64 ((5 : Nat) : Int))))⟩] [4, 5]) .ret) .skip)) (.seq (.reg [⟨(some 16), none, (.mov (.t 0))⟩, ⟨(some 17), none, (.len false (.t 16))⟩, ⟨(some 18), none, (.mks 172 1 4 [(.int .u32 ((0 : Nat) : Int))] (.t 17) (.t 17))⟩, ⟨(some 6), none, (.mov (.t 18))⟩] [0, 1, 6]) (.seq (.reg [⟨(some 7), none, (.mov (.k (.int .u64 ((0 : Nat) : Int))))⟩] [0, 1, 6, 7]) (.seq (.seq (.reg [⟨(some 19), none, (.mov (.t 0))⟩, ⟨(some 20), none, (.len false (.t 19))⟩, ⟨(some 21), none, (.mov (.k (.int .i64 ((0 : Nat) : Int))))⟩] [1, 6, 7, 19, 20, 21]) (.block 0 (.loop (.seq (.reg [⟨(some 22), none, (.bin .lss (.t 21) (.t 20))⟩] [1, 6, 7, 19, 20, 21, 22]) (.seq (.cond (.t 22) .skip (.exit 0)) (.seq (.block 1 (.seq (.reg [⟨(some 23), none, (.mov (.t 21))⟩, ⟨(some 24), none, (.idxA 1 (.t 19) (.t 21))⟩, ⟨(some 25), none, (.load none (.t 24))⟩, ⟨(some 8), none, (.mov (.t 23))⟩, ⟨(some 9), none, (.mov (.t 25))⟩] [1, 6, 7, 8, 9, 19, 20, 21]) (.seq (.reg [⟨(some 26), none, (.mov (.t 7))⟩, ⟨(some 10), none, (.mov (.t 26))⟩] [1, 6, 8, 9, 10, 19, 20, 21]) (.seq (.seq (.reg [⟨(some 27), none, (.mov (.t 8))⟩, ⟨(some 28), none, (.mov (.t 1))⟩, ⟨(some 29), none, (.len false (.t 28))⟩, ⟨(some 30), none, (.bin .lss (.t 27) (.t 29))⟩] [1, 6, 8, 9, 10, 19, 20, 21, 30]) (.cond (.t 30) (.reg [⟨(some 31), none, (.mov (.t 10))⟩, ⟨(some 32), none, (.mov (.t 1))⟩, ⟨(some 33), none, (.mov (.t 8))⟩, ⟨(some 34), none, (.idxA 1 (.t 32) (.t 33))⟩, ⟨(some 35), none, (.load none (.t 34))⟩, ⟨(some 36), none, (.conv .u64 (.t 35))⟩, ⟨(some 37), none, (.bin .add (.t 31) (.t 36))⟩, ⟨(some 10), none, (.mov (.t 37))⟩] [1, 6, 8, 9, 10, 19, 20, 21]) .skip)) (.seq (.reg [⟨(some 38), none, (.mov (.t 9))⟩, ⟨(some 39), none, (.conv .u64 (.t 38))⟩, ⟨(some 40), none, (.mov (.t 10))⟩, ⟨(some 41), none, (.bin .sub (.t 39) (.t 40))⟩, ⟨(some 11), none, (.mov (.t 41))⟩] [1, 6, 8, 11, 19, 20, 21]) (.seq (.reg [⟨(some 42), none, (.mov (.t 6))⟩, ⟨(some 43), none, (.mov (.t 8))⟩, ⟨(some 44), none, (.mov (.t 11))⟩, ⟨(some 45), none, (.conv .u32 (.t 44))⟩, ⟨(some 46), none, (.idxA 1 (.t 42) (.t 43))⟩, ⟨none, none, (.store 1 (.t 46) (.t 45))⟩] [1, 6, 11, 19, 20, 21]) (.reg [⟨(some 47), none, (.mov (.t 11))⟩, ⟨(some 48), none, (.bin .shr (.t 47) (.k (.int .u64 ((32 : Nat) : Int))))⟩, ⟨(some 49), none, (.bin .and (.t 48) (.k (.int .u64 ((1 : Nat) : Int))))⟩, ⟨(some 7), none, (.mov (.t 49))⟩] [1, 6, 7, 19, 20, 21]))))))) (.reg [⟨(some 50), none, (.bin .add (.t 21) (.k (.int .i64 ((1 : Nat) : Int))))⟩, ⟨(some 21), none, (.mov (.t 50))⟩] [1, 6, 7, 19, 20, 21]))))))) (.seq (.reg [⟨(some 51), none, (.mov (.t 6))⟩, ⟨(some 52), none, (.call (.k (.fn (.func 197) [] [])) [(.t 51)])⟩, ⟨(some 4), none, (.mov (.t 52))⟩, ⟨(some 5), none, (.mov (.k (.int .i64 ((0 : Nat) : Int))))⟩] [4, 5]) .ret))))))
def rs187 : List RV := [(.t 4), (.t 5)]
theorem co187 : compFn Go.Proofs.Tryd.prog Go.Proofs.Tryd.f187 pl187 = some (ac187, rs187) := by kernel_rfl
theorem enter187 {args : List AV} {H : AHeap} {Q : AV → AHeap → Prop} (hn : args.length ≤ 53) (h : W Go.Proofs.Tryd.prog ac187 (retN rs187 Q) ⟨[], initE args 0, H⟩) : Run Go.Proofs.Tryd.prog 187 args H Q := Run_fn2 mixed Go.Proofs.Tryd.func187 (by kernel_rfl) co187 (n := 53) (by kernel_rfl) hn h
def ac190 : ACode := (.seq (.reg [⟨(some 2), none, (.mov (.k (.str ⟨#[]⟩)))⟩] [0]) (.seq (.reg [⟨(some 3), none, (.mov (.k (.seq 0 [] true)))⟩] [0, 3]) (.seq (.seq (.reg [⟨(some 14), none, (.mov (.t 0))⟩, ⟨(some 15), none, (.call (.k (.fn (.func 138) [] [])) [(.t 14)])⟩, ⟨(some 4), none, (.mov (.t 15))⟩] [3, 4]) (.block 0 (.loop (.seq (.seq (.reg [⟨(some 16), none, (.mov (.t 4))⟩, ⟨(some 17), none, (.len false (.t 16))⟩, ⟨(some 18), none, (.bin .gtr (.t 17) (.k (.int .i64 ((0 : Nat) : Int))))⟩] [3, 4, 18]) (.cond (.t 18) .skip (.exit 0))) (.block 1 (.seq (.reg [⟨(some 20), none, (.mov (.t 4))⟩, ⟨(some 21), none, (.call (.k (.fn (.func 212) [] [])) [(.t 20), (.k (.int .u32 ((1000000000 : Nat) : Int)))])⟩, ⟨(some 19), none, (.mov (.t 21))⟩, ⟨(some 22), none, (.ext (.t 19) 0)⟩, ⟨(some 23), none, (.ext (.t 19) 1)⟩, ⟨(some 24), none, (.ext (.t 19) 2)⟩, ⟨(some 5), none, (.mov (.t 22))⟩, ⟨(some 6), none, (.mov (.t 23))⟩, ⟨(some 7), none, (.mov (.t 24))⟩] [3, 5, 6]) (.seq (.reg [⟨(some 25), none, (.mov (.t 3))⟩, ⟨(some 26), none, (.mov (.t 6))⟩, ⟨(some 27), none, (.bsl [(.int .u32 ((0 : Nat) : Int))] 1 1 [(0, (1, (.t 26)))])⟩, ⟨(some 28), none, (.app 172 1 4 (.t 25) (.t 27))⟩, ⟨(some 3), none, (.mov (.t 28))⟩] [3, 5]) (.reg [⟨(some 29), none, (.mov (.t 5))⟩, ⟨(some 4), none, (.mov (.t 29))⟩] [3, 4])))))))) (.seq (.seq (.reg [⟨(some 30), none, (.mov (.t 3))⟩, ⟨(some 31), none, (.len false (.t 30))⟩, ⟨(some 32), none, (.bin .eql (.t 31) (.k (.int .i64 ((0 : Nat) : Int))))⟩] [3, 32]) (.cond (.t 32) (.seq (.reg [⟨(some 2), none, (.mov (.k (.str ⟨#[48]⟩)))⟩] [2]) .ret) .skip)) (.seq (.reg [⟨(some 8), none, (.alloc 234 0 [.nilP, (.seq 0 [] true)])⟩] [3, 8]) (.seq (.seq (.reg [⟨(some 33), none, (.mov (.t 3))⟩, ⟨(some 34), none, (.len false (.t 33))⟩, ⟨(some 35), none, (.bin .sub (.t 34) (.k (.int .i64 ((1 : Nat) : Int))))⟩, ⟨(some 9), none, (.mov (.t 35))⟩] [3, 8, 9]) (.block 2 (.loop (.seq (.seq (.reg [⟨(some 36), none, (.mov (.t 9))⟩, ⟨(some 37), none, (.bin .geq (.t 36) (.k (.int .i64 ((0 : Nat) : Int))))⟩] [3, 8, 9, 37]) (.cond (.t 37) .skip (.exit 2))) (.seq (.block 3 (.seq (.reg [⟨(some 10), none, (.alloc 248 1 [(.int .u8 ((0 : Nat) : Int)), (.int .u8 ((0 : Nat) : Int)), (.int .u8 ((0 : Nat) : Int)), (.int .u8 ((0 : Nat) : Int)), (.int .u8 ((0 : Nat) : Int)), (.int .u8 ((0 : Nat) : Int)), (.int .u8 ((0 : Nat) : Int)), (.int .u8 ((0 : Nat) : Int)), (.int .u8 ((0 : Nat) : Int))])⟩] [3, 8, 9, 10]) (.seq (.reg [⟨(some 40), none, (.mov (.t 3))⟩, ⟨(some 41), none, (.mov (.t 9))⟩, ⟨(some 42), none, (.idxA 1 (.t 40) (.t 41))⟩, ⟨(some 43), none, (.load none (.t 42))⟩, ⟨(some 11), none, (.mov (.t 43))⟩] [3, 8, 9, 10, 11]) (.seq (.seq (.reg [⟨(some 12), none, (.mov (.k (.int .i64 ((8 : Nat) : Int))))⟩] [3, 8, 9, 10, 11, 12]) (.block 4 (.loop (.seq (.seq (.reg [⟨(some 44), none, (.mov (.t 12))⟩, ⟨(some 45), none, (.bin .geq (.t 44) (.k (.int .i64 ((0 : Nat) : Int))))⟩] [3, 8, 9, 10, 11, 12, 45]) (.cond (.t 45) .skip (.exit 4))) (.seq (.block 5 (.seq (.reg [⟨(some 48), none, (.mov (.t 12))⟩, ⟨(some 49), none, (.mov (.t 11))⟩, ⟨(some 50), none, (.bin .rem (.t 49) (.k (.int .u32 ((10 : Nat) : Int))))⟩, ⟨(some 51), none, (.bin .add (.k (.int .u32 ((48 : Nat) : Int))) (.t 50))⟩, ⟨(some 52), none, (.conv .u8 (.t 51))⟩, ⟨(some 53), none, (.prim (.idxP 9 1) [(.t 10), (.t 48)])⟩, ⟨none, none, (.store 1 (.t 53) (.t 52))⟩] [3, 8, 9, 10, 11, 12]) (.reg [⟨(some 54), none, (.mov (.t 11))⟩, ⟨(some 55), none, (.bin .quo (.t 54) (.k (.int .u32 ((10 : Nat) : Int))))⟩, ⟨(some 11), none, (.mov (.t 55))⟩] [3, 8, 9, 10, 11, 12]))) (.reg [⟨(some 46), none, (.mov (.t 12))⟩, ⟨(some 47), none, (.bin .sub (.t 46) (.k (.int .i64 ((1 : Nat) : Int))))⟩, ⟨(some 12), none, (.mov (.t 47))⟩] [3, 8, 9, 10, 11, 12])))))) (.seq (.reg [⟨(some 56), none, (.prim (.slcP 9 1) [(.t 10)])⟩, ⟨(some 57), none, (.prim .b2s [(.t 56)])⟩, ⟨(some 13), none, (.mov (.t 57))⟩] [3, 8, 9, 13]) (.seq (.seq (.reg [⟨(some 58), none, (.mov (.t 9))⟩, ⟨(some 59), none, (.mov (.t 3))⟩, ⟨(some 60), none, (.len false (.t 59))⟩, ⟨(some 61), none, (.bin .sub (.t 60) (.k (.int .i64 ((1 : Nat) : Int))))⟩, ⟨(some 62), none, (.bin .eql (.t 58) (.t 61))⟩] [3, 8, 9, 13, 62]) (.cond (.t 62) (.reg [⟨(some 63), none, (.mov (.t 13))⟩, ⟨(some 64), none, (.call (.k (.fn (.func 213) [] [])) [(.t 63), (.k (.str ⟨#[48]⟩))])⟩, ⟨(some 13), none, (.mov (.t 64))⟩] [3, 8, 9, 13]) .skip)) (.reg [⟨(some 65), none, (.mov (.t 13))⟩, ⟨(some 66), none, (.call (.k (.fn (.func 204) [] [])) [(.t 8), (.t 65)])⟩] [3, 8, 9]))))))) (.reg [⟨(some 38), none, (.mov (.t 9))⟩, ⟨(some 39), none, (.bin .sub (.t 38) (.k (.int .i64 ((1 : Nat) : Int))))⟩, ⟨(some 9), none, (.mov (.t 39))⟩] [3, 8, 9])))))) (.seq (.reg [⟨(some 67), none, (.call (.k (.fn (.func 205) [] [])) [(.t 8)])⟩, ⟨(some 2), none, (.mov (.t 67))⟩] [2]) .ret)))))))
def rs190 : List RV := [(.t 2)]
theorem co190 : compFn Go.Proofs.Tryd.prog Go.Proofs.Tryd.f190 pl190 = some (ac190, rs190) := by kernel_rfl
theorem enter190 {args : List AV} {H : AHeap} {Q : AV → AHeap → Prop} (hn : args.length ≤ 68) (h : W Go.Proofs.Tryd.prog ac190 (retN rs190 Q) ⟨[], initE args 0, H⟩) : Run Go.Proofs.Tryd.prog 190 args H Q := Run_fn2 mixed Go.Proofs.Tryd.func190 (by kernel_rfl) co190 (n := 68) (by kernel_rfl) hn h
def ac191 : ACode := (.seq (.reg [⟨(some 5), none, (.load none (.t 1))⟩, ⟨(some 6), none, (.rng (.t 5))⟩] [0, 6]) (.block 0 (.loop (.seq (.reg [⟨(some 7), none, (.nxt (.t 6))⟩, ⟨(some 8), none, (.ext (.t 7) 0)⟩] [0, 6, 7, 8]) (.seq (.cond (.t 8) .skip (.exit 0)) (.block 1 (.seq (.reg [⟨(some 9), none, (.ext (.t 7) 2)⟩, ⟨(some 4), none, (.mov (.t 9))⟩] [0, 4, 6]) (.seq (.reg [⟨(some 10), none, (.mov (.t 0))⟩, ⟨(some 11), none, (.mov (.t 4))⟩, ⟨(some 12), none, (.bin .sub (.t 11) (.k (.int .i32 ((48 : Nat) : Int))))⟩, ⟨(some 13), none, (.conv .i64 (.t 12))⟩, ⟨(some 14), none, (.call (.t 10) [(.t 13)])⟩, ⟨(some 15), none, (.un .not (.t 14))⟩] [0, 6, 15]) (.cond (.t 15) .ret .skip)))))))))
def rs191 : List RV := []
theorem co191 : compFn Go.Proofs.Tryd.prog Go.Proofs.Tryd.f191 pl191 = some (ac191, rs191) := by kernel_rfl
theorem enter191 {args : List AV} {H : AHeap} {Q : AV → AHeap → Prop} (hn : args.length ≤ 16) (h : W Go.Proofs.Tryd.prog ac191 (retN rs191 Q) ⟨[], initE args 0, H⟩) : Run Go.Proofs.Tryd.prog 191 args H Q := Run_fn2 mixed Go.Proofs.Tryd.func191 (by kernel_rfl) co191 (n := 16) (by kernel_rfl) hn h
def ac197 : ACode := (.seq (.reg [⟨(some 2), none, (.mov (.k (.seq 0 [] true)))⟩] [0]) (.seq (.reg [⟨(some 4), none, (.mov (.t 0))⟩, ⟨(some 5), none, (.len false (.t 4))⟩, ⟨(some 3), none, (.mov (.t 5))⟩] [0, 3]) (.seq (.block 0 (.loop (.seq (.seq (.reg [⟨(some 6), none, (.mov (.t 3))⟩, ⟨(some 7), none, (.bin .gtr (.t 6) (.k (.int .i64 ((0 : Nat) : Int))))⟩, ⟨(some 8), none, (.mov (.t 7))⟩, ⟨(some 9), (some (8, true)), (.mov (.t 0))⟩, ⟨(some 10), (some (8, true)), (.mov (.t 3))⟩, ⟨(some 11), (some (8, true)), (.bin .sub (.t 10) (.k (.int .i64 ((1 : Nat) : Int))))⟩, ⟨(some 12), (some (8, true)), (.idxA 1 (.t 9) (.t 11))⟩, ⟨(some 13), (some (8, true)), (.load none (.t 12))⟩, ⟨(some 14), (some (8, true)), (.bin .eql (.t 13) (.k (.int .u32 ((0 : Nat) : Int))))⟩, ⟨(some 15), none, (.pick (.t 8) (.t 14) (.k (.bool false)))⟩] [0, 3, 15]) (.cond (.t 15) .skip (.exit 0))) (.block 1 (.reg [⟨(some 16), none, (.mov (.t 3))⟩, ⟨(some 17), none, (.bin .sub (.t 16) (.k (.int .i64 ((1 : Nat) : Int))))⟩, ⟨(some 3), none, (.mov (.t 17))⟩] [0, 3]))))) (.seq (.reg [⟨(some 18), none, (.mov (.t 0))⟩, ⟨(some 19), none, (.mov (.t 3))⟩, ⟨(some 20), none, (.mov (.t 3))⟩, ⟨(some 21), none, (.slc 1 (.t 18) none (some (.t 19)) (some (.t 20)))⟩, ⟨(some 2), none, (.mov (.t 21))⟩] [2]) .ret))))
def rs197 : List RV := [(.t 2)]
theorem co197 : compFn Go.Proofs.Tryd.prog Go.Proofs.Tryd.f197 pl197 = some (ac197, rs197) := by kernel_rfl
theorem enter197 {args : List AV} {H : AHeap} {Q : AV → AHeap → Prop} (hn : args.length ≤ 22) (h : W Go.Proofs.Tryd.prog ac197 (retN rs197 Q) ⟨[], initE args 0, H⟩) : Run Go.Proofs.Tryd.prog 197 args H Q := Run_fn2 mixed Go.Proofs.Tryd.func197 (by kernel_rfl) co197 (n := 22) (by kernel_rfl) hn h
def ac198 : ACode := (.seq (.reg [⟨(some 4), none, (.box 28 0 (.t 0))⟩, ⟨(some 5), none, (.alloc 28 0 [(.bool false), (.seq 0 [] true)])⟩] [1, 2, 3, 4, 5]) (.seq (.reg [⟨(some 6), none, (.load none (.t 1))⟩, ⟨(some 7), none, (.bin .add (.t 6) (.k (.int .i64 ((1 : Nat) : Int))))⟩, ⟨none, none, (.store 1 (.t 1) (.t 7))⟩] [1, 2, 3, 4, 5]) (.seq (.draw [⟨(some 8), none, (.load none (.t 2))⟩, ⟨(some 9), none, (.load (some 2) (.t 4))⟩, ⟨(some 10), none, (.load none (.t 3))⟩, ⟨(some 11), none, (.load none (.t 1))⟩, ⟨(some 12), none, (.idxA 2 (.t 10) (.t 11))⟩, ⟨(some 13), none, (.load (some 2) (.t 12))⟩] [⟨(some 14), none, (.call (.t 8) [(.t 9), (.t 13)])⟩, ⟨none, none, (.store 2 (.t 5) (.t 14))⟩] [0, 1, 3, 7, 3, 3] [5]) .ret)))
def rs198 : List RV := [(.cell 5 (some 2))]
theorem co198 : compFn Go.Proofs.Tryd.prog Go.Proofs.Tryd.f198 pl198 = some (ac198, rs198) := by kernel_rfl
theorem enter198 {args : List AV} {H : AHeap} {Q : AV → AHeap → Prop} (hn : args.length ≤ 15) (h : W Go.Proofs.Tryd.prog ac198 (retN rs198 Q) ⟨[], initE args 0, H⟩) : Run Go.Proofs.Tryd.prog 198 args H Q := Run_fn2 mixed Go.Proofs.Tryd.func198 (by kernel_rfl) co198 (n := 15) (by kernel_rfl) hn h
def ac201 : ACode := (.seq (.reg [⟨(some 4), none, (.mov (.k (.bool false)))⟩] [0, 1]) (.seq (.reg [⟨(some 5), none, (.mov (.t 0))⟩, ⟨(some 6), none, (.len true (.t 5))⟩, ⟨(some 7), none, (.mov (.t 1))⟩, ⟨(some 8), none, (.len true (.t 7))⟩, ⟨(some 9), none, (.bin .geq (.t 6) (.t 8))⟩, ⟨(some 10), none, (.mov (.t 9))⟩, ⟨(some 11), (some (10, true)), (.mov (.t 0))⟩, ⟨(some 12), (some (10, true)), (.mov (.t 1))⟩, ⟨(some 13), (some (10, true)), (.len true (.t 12))⟩, ⟨(some 14), (some (10, true)), (.slcS (.t 11) none (some (.t 13)))⟩, ⟨(some 15), (some (10, true)), (.mov (.t 1))⟩, ⟨(some 16), (some (10, true)), (.bin .eql (.t 14) (.t 15))⟩, ⟨(some 17), none, (.pick (.t 10) (.t 16) (.k (.bool false)))⟩, ⟨(some 4), none, (.mov (.t 17))⟩] [4]) .ret))
def rs201 : List RV := [(.t 4)]
theorem co201 : compFn Go.Proofs.Tryd.prog Go.Proofs.Tryd.f201 pl201 = some (ac201, rs201) := by kernel_rfl
theorem enter201 {args : List AV} {H : AHeap} {Q : AV → AHeap → Prop} (hn : args.length ≤ 18) (h : W Go.Proofs.Tryd.prog ac201 (retN rs201 Q) ⟨[], initE args 0, H⟩) : Run Go.Proofs.Tryd.prog 201 args H Q := Run_fn2 mixed Go.Proofs.Tryd.func201 (by kernel_rfl) co201 (n := 18) (by kernel_rfl) hn h
def ac202 : ACode := (.seq (.reg [⟨(some 2), none, (.mov (.k (.seq 0 [] true)))⟩, ⟨(some 3), none, (.alloc 105 0 [(.int .i64 ((0 : Nat) : Int)), (.int .i64 ((0 : Nat) : Int))])⟩] [0, 3]) (.seq (.seq (.reg [⟨(some 11), none, (.mov (.t 0))⟩, ⟨(some 12), none, (.len true (.t 11))⟩, ⟨(some 13), none, (.bin .gtr (.t 12) (.k (.int .i64 ((65536 : Nat) : Int))))⟩] [0, 3, 13]) (.cond (.t 13) (.seq (.reg [⟨(some 14), none, (.build [(.int .i64 ((0 : Nat) : Int)), (.int .i64 ((0 : Nat) : Int))] [(0, (1, (.k (.int .i64 ((3 : Nat) : Int))))), (1, (1, (.k (.int .i64 ((65536 : Nat) : Int)))))])⟩, ⟨(some 2), none, (.mov (.k (.seq 0 [] true)))⟩, ⟨none, none, (.store 2 (.t 3) (.t 14))⟩] [2, 3]) .ret) .skip)) (.seq (.seq (.reg [⟨(some 15), none, (.mov (.t 0))⟩, ⟨(some 16), none, (.bin .eql (.t 15) (.k (.str ⟨#[]⟩)))⟩] [0, 3, 16]) (.cond (.t 16) (.seq (.reg [⟨(some 17), none, (.build [(.int .i64 ((0 : Nat) : Int)), (.int .i64 ((0 : Nat) : Int))] [(0, (1, (.k (.int .i64 ((6 : Nat) : Int)))))])⟩, ⟨(some 2), none, (.mov (.k (.seq 0 [] true)))⟩, ⟨none, none, (.store 2 (.t 3) (.t 17))⟩] [2, 3]) .ret) .skip)) (.seq (.seq (.reg [⟨(some 18), none, (.mov (.t 0))⟩, ⟨(some 19), none, (.len true (.t 18))⟩, ⟨(some 20), none, (.mov (.k (.int .i64 ((0 : Nat) : Int))))⟩] [0, 3, 19, 20]) (.block 0 (.loop (.seq (.reg [⟨(some 21), none, (.bin .lss (.t 20) (.t 19))⟩] [0, 3, 19, 20, 21]) (.seq (.cond (.t 21) .skip (.exit 0)) (.seq (.block 1 (.seq (.reg [⟨(some 22), none, (.mov (.t 20))⟩, ⟨(some 4), none, (.mov (.t 22))⟩] [0, 3, 4, 19, 20]) (.seq (.reg [⟨(some 23), none, (.mov (.t 0))⟩, ⟨(some 24), none, (.mov (.t 4))⟩, ⟨(some 25), none, (.idxS (.t 23) (.t 24))⟩, ⟨(some 26), none, (.bin .lss (.t 25) (.k (.int .u8 ((48 : Nat) : Int))))⟩, ⟨(some 27), none, (.mov (.t 26))⟩, ⟨(some 28), (some (27, false)), (.mov (.t 0))⟩, ⟨(some 29), (some (27, false)), (.mov (.t 4))⟩, ⟨(some 30), (some (27, false)), (.idxS (.t 28) (.t 29))⟩, ⟨(some 31), (some (27, false)), (.bin .gtr (.t 30) (.k (.int .u8 ((57 : Nat) : Int))))⟩, ⟨(some 32), none, (.pick (.t 27) (.k (.bool true)) (.t 31))⟩, ⟨(some 33), none, (.mov (.t 32))⟩, ⟨(some 34), (some (33, false)), (.mov (.t 4))⟩, ⟨(some 35), (some (33, false)), (.bin .gtr (.t 34) (.k (.int .i64 ((0 : Nat) : Int))))⟩, ⟨(some 36), (some (33, false)), (.mov (.t 35))⟩, ⟨(some 37), (some (36, true)), (.mov (.t 0))⟩, ⟨(some 38), (some (36, true)), (.idxS (.t 37) (.k (.int .i64 ((0 : Nat) : Int))))⟩, ⟨(some 39), (some (36, true)), (.bin .eql (.t 38) (.k (.int .u8 ((48 : Nat) : Int))))⟩, ⟨(some 40), (some (33, false)), (.pick (.t 36) (.t 39) (.k (.bool false)))⟩, ⟨(some 41), none, (.pick (.t 33) (.k (.bool true)) (.t 40))⟩] [0, 3, 4, 19, 20, 41]) (.cond (.t 41) (.seq (.reg [⟨(some 42), none, (.mov (.t 4))⟩, ⟨(some 43), none, (.build [(.int .i64 ((0 : Nat) : Int)), (.int .i64 ((0 : Nat) : Int))] [(0, (1, (.k (.int .i64 ((6 : Nat) : Int))))), (1, (1, (.t 42)))])⟩, ⟨(some 2), none, (.mov (.k (.seq 0 [] true)))⟩, ⟨none, none, (.store 2 (.t 3) (.t 43))⟩] [2, 3]) .ret) .skip)))) (.reg [⟨(some 44), none, (.bin .add (.t 20) (.k (.int .i64 ((1 : Nat) : Int))))⟩, ⟨(some 20), none, (.mov (.t 44))⟩] [0, 3, 19, 20]))))))) (.seq (.reg [⟨(some 5), none, (.mov (.k (.seq 0 [] true)))⟩] [0, 3, 5]) (.seq (.block 2 (.loop (.seq (.seq (.reg [⟨(some 45), none, (.mov (.t 0))⟩, ⟨(some 46), none, (.len true (.t 45))⟩, ⟨(some 47), none, (.bin .gtr (.t 46) (.k (.int .i64 ((0 : Nat) : Int))))⟩] [0, 3, 5, 47]) (.cond (.t 47) .skip (.exit 2))) (.block 3 (.seq (.reg [⟨(some 48), none, (.mov (.t 0))⟩, ⟨(some 49), none, (.len true (.t 48))⟩, ⟨(some 50), none, (.gr false (.t 49) (.k (.int .i64 ((9 : Nat) : Int))))⟩, ⟨(some 6), none, (.mov (.t 50))⟩] [0, 3, 5, 6]) (.seq (.reg [⟨(some 7), none, (.mov (.k (.int .u32 ((0 : Nat) : Int))))⟩, ⟨(some 8), none, (.mov (.k (.int .u32 ((1 : Nat) : Int))))⟩] [0, 3, 5, 6, 7, 8]) (.seq (.seq (.reg [⟨(some 51), none, (.mov (.t 0))⟩, ⟨(some 52), none, (.mov (.t 6))⟩, ⟨(some 53), none, (.slcS (.t 51) none (some (.t 52)))⟩, ⟨(some 54), none, (.rng (.t 53))⟩] [0, 3, 5, 6, 7, 8, 54]) (.block 4 (.loop (.seq (.reg [⟨(some 55), none, (.nxt (.t 54))⟩, ⟨(some 56), none, (.ext (.t 55) 0)⟩] [0, 3, 5, 6, 7, 8, 54, 55, 56]) (.seq (.cond (.t 56) .skip (.exit 4)) (.block 5 (.seq (.reg [⟨(some 57), none, (.ext (.t 55) 2)⟩, ⟨(some 10), none, (.mov (.t 57))⟩] [0, 3, 5, 6, 7, 8, 10, 54]) (.seq (.reg [⟨(some 58), none, (.mov (.t 7))⟩, ⟨(some 59), none, (.bin .mul (.k (.int .u32 ((10 : Nat) : Int))) (.t 58))⟩, ⟨(some 60), none, (.mov (.t 10))⟩, ⟨(some 61), none, (.bin .sub (.t 60) (.k (.int .i32 ((48 : Nat) : Int))))⟩, ⟨(some 62), none, (.conv .u32 (.t 61))⟩, ⟨(some 63), none, (.bin .add (.t 59) (.t 62))⟩, ⟨(some 7), none, (.mov (.t 63))⟩] [0, 3, 5, 6, 7, 8, 54]) (.reg [⟨(some 64), none, (.mov (.t 8))⟩, ⟨(some 65), none, (.bin .mul (.t 64) (.k (.int .u32 ((10 : Nat) : Int))))⟩, ⟨(some 8), none, (.mov (.t 65))⟩] [0, 3, 5, 6, 7, 8, 54]))))))))) (.seq (.reg [⟨(some 66), none, (.mov (.t 5))⟩, ⟨(some 67), none, (.mov (.t 8))⟩, ⟨(some 68), none, (.call (.k (.fn (.func 214) [] [])) [(.t 66), (.t 67)])⟩, ⟨(some 69), none, (.mov (.t 7))⟩, ⟨(some 70), none, (.bsl [(.int .u32 ((0 : Nat) : Int))] 1 1 [(0, (1, (.t 69)))])⟩, ⟨(some 71), none, (.call (.k (.fn (.func 186) [] [])) [(.t 68), (.t 70)])⟩, ⟨(some 5), none, (.mov (.t 71))⟩] [0, 3, 5, 6]) (.reg [⟨(some 72), none, (.mov (.t 0))⟩, ⟨(some 73), none, (.mov (.t 6))⟩, ⟨(some 74), none, (.slcS (.t 72) (some (.t 73)) none)⟩, ⟨(some 0), none, (.mov (.t 74))⟩] [0, 3, 5]))))))))) (.seq (.reg [⟨(some 75), none, (.mov (.t 5))⟩, ⟨(some 76), none, (.build [(.int .i64 ((0 : Nat) : Int)), (.int .i64 ((0 : Nat) : Int))] [])⟩, ⟨(some 2), none, (.mov (.t 75))⟩, ⟨none, none, (.store 2 (.t 3) (.t 76))⟩] [2, 3]) .ret)))))))
def rs202 : List RV := [(.t 2), (.cell 3 (some 2))]
theorem co202 : compFn Go.Proofs.Tryd.prog Go.Proofs.Tryd.f202 pl202 = some (ac202, rs202) := by kernel_rfl
theorem enter202 {args : List AV} {H : AHeap} {Q : AV → AHeap → Prop} (hn : args.length ≤ 77) (h : W Go.Proofs.Tryd.prog ac202 (retN rs202 Q) ⟨[], initE args 0, H⟩) : Run Go.Proofs.Tryd.prog 202 args H Q := Run_fn2 mixed Go.Proofs.Tryd.func202 (by kernel_rfl) co202 (n := 77) (by kernel_rfl) hn h
def ac204 : ACode := (.seq (.reg [⟨(some 4), none, (.mov (.k (.int .i64 ((0 : Nat) : Int))))⟩, ⟨(some 5), none, (.mov (.k .nilI))⟩] [0, 1]) (.seq (.reg [⟨(some 6), none, (.mov (.t 0))⟩, ⟨(some 7), none, (.call (.k (.fn (.func 215) [] [])) [(.t 6)])⟩] [0, 1]) (.seq (.reg [⟨(some 8), none, (.mov (.t 0))⟩, ⟨(some 9), none, (.mov (.t 0))⟩, ⟨(some 10), none, (.prim .nck [(.t 9)])⟩, ⟨(some 11), none, (.fldA 1 (.t 10))⟩, ⟨(some 12), none, (.load none (.t 11))⟩, ⟨(some 13), none, (.mov (.t 1))⟩, ⟨(some 14), none, (.app 5 1 1 (.t 12) (.t 13))⟩, ⟨(some 15), none, (.prim .nck [(.t 8)])⟩, ⟨(some 16), none, (.fldA 1 (.t 15))⟩, ⟨none, none, (.store 1 (.t 16) (.t 14))⟩] [1]) (.seq (.reg [⟨(some 17), none, (.mov (.t 1))⟩, ⟨(some 18), none, (.len true (.t 17))⟩, ⟨(some 4), none, (.mov (.t 18))⟩, ⟨(some 5), none, (.mov (.k .nilI))⟩] [4, 5]) .ret))))
def rs204 : List RV := [(.t 4), (.t 5)]
theorem co204 : compFn Go.Proofs.Tryd.prog Go.Proofs.Tryd.f204 pl204 = some (ac204, rs204) := by kernel_rfl
theorem enter204 {args : List AV} {H : AHeap} {Q : AV → AHeap → Prop} (hn : args.length ≤ 19) (h : W Go.Proofs.Tryd.prog ac204 (retN rs204 Q) ⟨[], initE args 0, H⟩) : Run Go.Proofs.Tryd.prog 204 args H Q := Run_fn2 mixed Go.Proofs.Tryd.func204 (by kernel_rfl) co204 (n := 19) (by kernel_rfl) hn h
def ac205 : ACode := (.seq (.reg [⟨(some 2), none, (.mov (.k (.str ⟨#[]⟩)))⟩] [0]) (.seq (.draw [⟨(some 3), none, (.mov (.t 0))⟩, ⟨(some 4), none, (.prim .nck [(.t 3)])⟩, ⟨(some 5), none, (.fldA 1 (.t 4))⟩, ⟨(some 6), none, (.load none (.t 5))⟩, ⟨(some 7), none, (.prim .usd [(.t 6)])⟩, ⟨(some 8), none, (.mov (.t 0))⟩, ⟨(some 9), none, (.prim .nck [(.t 8)])⟩, ⟨(some 10), none, (.fldA 1 (.t 9))⟩, ⟨(some 11), none, (.load none (.t 10))⟩, ⟨(some 12), none, (.len false (.t 11))⟩] [⟨(some 13), none, (.ust 5 (.t 7) (.t 12))⟩, ⟨(some 2), none, (.mov (.t 13))⟩] [0, 0, 0, 0, 0, 31, 31, 31, 31, 31] [2]) .ret))
def rs205 : List RV := [(.t 2)]
theorem co205 : compFn Go.Proofs.Tryd.prog Go.Proofs.Tryd.f205 pl205 = some (ac205, rs205) := by kernel_rfl
theorem enter205 {args : List AV} {H : AHeap} {Q : AV → AHeap → Prop} (hn : args.length ≤ 14) (h : W Go.Proofs.Tryd.prog ac205 (retN rs205 Q) ⟨[], initE args 0, H⟩) : Run Go.Proofs.Tryd.prog 205 args H Q := Run_fn2 mixed Go.Proofs.Tryd.func205 (by kernel_rfl) co205 (n := 14) (by kernel_rfl) hn h
def ac212 : ACode := (.seq (.reg [⟨(some 4), none, (.mov (.k (.seq 0 [] true)))⟩, ⟨(some 5), none, (.mov (.k (.int .u32 ((0 : Nat) : Int))))⟩, ⟨(some 6), none, (.mov (.k (.int .i64 ((0 : Nat) : Int))))⟩] [0, 1]) (.seq (.seq (.reg [⟨(some 10), none, (.mov (.t 1))⟩, ⟨(some 11), none, (.bin .eql (.t 10) (.k (.int .u32 ((0 : Nat) : Int))))⟩] [0, 1, 11]) (.cond (.t 11) (.seq (.reg [⟨(some 4), none, (.mov (.k (.seq 0 [] true)))⟩, ⟨(some 5), none, (.mov (.k (.int .u32 ((0 : Nat) : Int))))⟩, ⟨(some 6), none, (.mov (.k (.int .i64 ((2 : Nat) : Int))))⟩] [4, 5, 6]) .ret) .skip)) (.seq (.reg [⟨(some 12), none, (.mov (.t 0))⟩, ⟨(some 13), none, (.len false (.t 12))⟩, ⟨(some 14), none, (.mks 172 1 4 [(.int .u32 ((0 : Nat) : Int))] (.t 13) (.t 13))⟩, ⟨(some 7), none, (.mov (.t 14))⟩] [0, 1, 7]) (.seq (.reg [⟨(some 8), none, (.mov (.k (.int .u64 ((0 : Nat) : Int))))⟩] [0, 1, 7, 8]) (.seq (.seq (.reg [⟨(some 15), none, (.mov (.t 0))⟩, ⟨(some 16), none, (.len false (.t 15))⟩, ⟨(some 17), none, (.bin .sub (.t 16) (.k (.int .i64 ((1 : Nat) : Int))))⟩, ⟨(some 9), none, (.mov (.t 17))⟩] [0, 1, 7, 8, 9]) (.block 0 (.loop (.seq (.seq (.reg [⟨(some 18), none, (.mov (.t 9))⟩, ⟨(some 19), none, (.bin .geq (.t 18) (.k (.int .i64 ((0 : Nat) : Int))))⟩] [0, 1, 7, 8, 9, 19]) (.cond (.t 19) .skip (.exit 0))) (.seq (.block 1 (.seq (.reg [⟨(some 22), none, (.mov (.t 8))⟩, ⟨(some 23), none, (.bin .shl (.t 22) (.k (.int .u64 ((32 : Nat) : Int))))⟩, ⟨(some 24), none, (.mov (.t 0))⟩, ⟨(some 25), none, (.mov (.t 9))⟩, ⟨(some 26), none, (.idxA 1 (.t 24) (.t 25))⟩, ⟨(some 27), none, (.load none (.t 26))⟩, ⟨(some 28), none, (.conv .u64 (.t 27))⟩, ⟨(some 29), none, (.bin .or (.t 23) (.t 28))⟩, ⟨(some 8), none, (.mov (.t 29))⟩] [0, 1, 7, 8, 9]) (.seq (.reg [⟨(some 30), none, (.mov (.t 7))⟩, ⟨(some 31), none, (.mov (.t 9))⟩, ⟨(some 32), none, (.mov (.t 8))⟩, ⟨(some 33), none, (.mov (.t 1))⟩, ⟨(some 34), none, (.conv .u64 (.t 33))⟩, ⟨(some 35), none, (.bin .quo (.t 32) (.t 34))⟩, ⟨(some 36), none, (.conv .u32 (.t 35))⟩, ⟨(some 37), none, (.idxA 1 (.t 30) (.t 31))⟩, ⟨none, none, (.store 1 (.t 37) (.t 36))⟩] [0, 1, 7, 8, 9]) (.reg [⟨(some 38), none, (.mov (.t 8))⟩, ⟨(some 39), none, (.mov (.t 1))⟩, ⟨(some 40), none, (.conv .u64 (.t 39))⟩, ⟨(some 41), none, (.bin .rem (.t 38) (.t 40))⟩, ⟨(some 8), none, (.mov (.t 41))⟩] [0, 1, 7, 8, 9])))) (.reg [⟨(some 20), none, (.mov (.t 9))⟩, ⟨(some 21), none, (.bin .sub (.t 20) (.k (.int .i64 ((1 : Nat) : Int))))⟩, ⟨(some 9), none, (.mov (.t 21))⟩] [0, 1, 7, 8, 9])))))) (.seq (.reg [⟨(some 42), none, (.mov (.t 7))⟩, ⟨(some 43), none, (.call (.k (.fn (.func 197) [] [])) [(.t 42)])⟩, ⟨(some 44), none, (.mov (.t 8))⟩, ⟨(some 45), none, (.conv .u32 (.t 44))⟩, ⟨(some 4), none, (.mov (.t 43))⟩, ⟨(some 5), none, (.mov (.t 45))⟩, ⟨(some 6), none, (.mov (.k (.int .i64 ((0 : Nat) : Int))))⟩] [4, 5, 6]) .ret))))))
def rs212 : List RV := [(.t 4), (.t 5), (.t 6)]
theorem co212 : compFn Go.Proofs.Tryd.prog Go.Proofs.Tryd.f212 pl212 = some (ac212, rs212) := by kernel_rfl
theorem enter212 {args : List AV} {H : AHeap} {Q : AV → AHeap → Prop} (hn : args.length ≤ 46) (h : W Go.Proofs.Tryd.prog ac212 (retN rs212 Q) ⟨[], initE args 0, H⟩) : Run Go.Proofs.Tryd.prog 212 args H Q := Run_fn2 mixed Go.Proofs.Tryd.func212 (by kernel_rfl) co212 (n := 46) (by kernel_rfl) hn h
def ac213 : ACode := (.seq (.reg [⟨(some 4), none, (.mov (.k (.str ⟨#[]⟩)))⟩] [0, 1]) (.seq (.seq (.reg [⟨(some 7), none, (.mov (.t 0))⟩, ⟨(some 8), none, (.bin .eql (.t 7) (.k (.str ⟨#[]⟩)))⟩, ⟨(some 9), none, (.mov (.t 8))⟩, ⟨(some 10), (some (9, false)), (.mov (.t 1))⟩, ⟨(some 11), (some (9, false)), (.bin .eql (.t 10) (.k (.str ⟨#[]⟩)))⟩, ⟨(some 12), none, (.pick (.t 9) (.k (.bool true)) (.t 11))⟩] [0, 1, 12]) (.cond (.t 12) (.seq (.reg [⟨(some 13), none, (.mov (.t 0))⟩, ⟨(some 4), none, (.mov (.t 13))⟩] [4]) .ret) .skip)) (.seq (.seq (.reg [⟨(some 14), none, (.mov (.t 1))⟩, ⟨(some 15), none, (.len true (.t 14))⟩, ⟨(some 16), none, (.bin .eql (.t 15) (.k (.int .i64 ((1 : Nat) : Int))))⟩, ⟨(some 17), none, (.mov (.t 16))⟩, ⟨(some 18), (some (17, true)), (.mov (.t 1))⟩, ⟨(some 19), (some (17, true)), (.idxS (.t 18) (.k (.int .i64 ((0 : Nat) : Int))))⟩, ⟨(some 20), (some (17, true)), (.bin .lss (.t 19) (.k (.int .u8 ((128 : Nat) : Int))))⟩, ⟨(some 21), none, (.pick (.t 17) (.t 20) (.k (.bool false)))⟩] [0, 1, 21]) (.cond (.t 21) (.seq (.reg [⟨(some 22), none, (.mov (.t 0))⟩, ⟨(some 23), none, (.mov (.t 1))⟩, ⟨(some 24), none, (.idxS (.t 23) (.k (.int .i64 ((0 : Nat) : Int))))⟩, ⟨(some 25), none, (.call (.k (.fn (.func 223) [] [])) [(.t 22), (.t 24)])⟩, ⟨(some 4), none, (.mov (.t 25))⟩] [4]) .ret) .skip)) (.seq (.seq (.reg [⟨(some 27), none, (.mov (.t 1))⟩, ⟨(some 28), none, (.call (.k (.fn (.func 224) [] [])) [(.t 27)])⟩, ⟨(some 26), none, (.mov (.t 28))⟩, ⟨(some 29), none, (.ext (.t 26) 0)⟩, ⟨(some 30), none, (.ext (.t 26) 1)⟩, ⟨(some 5), none, (.alloc 258 1 [(.bool false), (.bool false), (.bool false), (.bool false), (.bool false), (.bool false), (.bool false), (.bool false), (.bool false), (.bool false), (.bool false), (.bool false), (.bool false), (.bool false), (.bool false), (.bool false), (.bool false), (.bool false), (.bool false), (.bool false), (.bool false), (.bool false), (.bool false), (.bool false), (.bool false), (.bool false), (.bool false), (.bool false), (.bool false), (.bool false), (.bool false), (.bool false), (.bool false), (.bool false), (.bool false), (.bool false), (.bool false), (.bool false), (.bool false), (.bool false), (.bool false), (.bool false), (.bool false), (.bool false), (.bool false), (.bool false), (.bool false), (.bool false), (.bool false), (.bool false), (.bool false), (.bool false), (.bool false), (.bool false), (.bool false), (.bool false), (.bool false), (.bool false), (.bool false), (.bool false), (.bool false), (.bool false), (.bool false), (.bool false), (.bool false), (.bool false), (.bool false), (.bool false), (.bool false), (.bool false), (.bool false), (.bool false), (.bool false), (.bool false), (.bool false), (.bool false), (.bool false), (.bool false), (.bool false), (.bool false), (.bool false), (.bool false), (.bool false), (.bool false), (.bool false), (.bool false), (.bool false), (.bool false), (.bool false), (.bool false), (.bool false), (.bool false), (.bool false), (.bool false), (.bool false), (.bool false), (.bool false), (.bool false), (.bool false), (.bool false), (.bool false), (.bool false), (.bool false), (.bool false), (.bool false), (.bool false), (.bool false), (.bool false), (.bool false), (.bool false), (.bool false), (.bool false), (.bool false), (.bool false), (.bool false), (.bool false), (.bool false), (.bool false), (.bool false), (.bool false), (.bool false), (.bool false), (.bool false), (.bool false), (.bool false), (.bool false), (.bool false), (.bool false), (.bool false), (.bool false), (.bool false), (.bool false), (.bool false), (.bool false), (.bool false), (.bool false), (.bool false), (.bool false), (.bool false), (.bool false), (.bool false), (.bool false), (.bool false), (.bool false), (.bool false), (.bool false), (.bool false), (.bool false), (.bool false), (.bool false), (.bool false), (.bool false), (.bool false), (.bool false), (.bool false), (.bool false), (.bool false), (.bool false), (.bool false), (.bool false), (.bool false), (.bool false), (.bool false), (.bool false), (.bool false), (.bool false), (.bool false), (.bool false), (.bool false), (.bool false), (.bool false), (.bool false), (.bool false), (.bool false), (.bool false), (.bool false), (.bool false), (.bool false), (.bool false), (.bool false), (.bool false), (.bool false), (.bool false), (.bool false), (.bool false), (.bool false), (.bool false), (.bool false), (.bool false), (.bool false), (.bool false), (.bool false), (.bool false), (.bool false), (.bool false), (.bool false), (.bool false), (.bool false), (.bool false), (.bool false), (.bool false), (.bool false), (.bool false), (.bool false), (.bool false), (.bool false), (.bool false), (.bool false), (.bool false), (.bool false), (.bool false), (.bool false), (.bool false), (.bool false), (.bool false), (.bool false), (.bool false), (.bool false), (.bool false), (.bool false), (.bool false), (.bool false), (.bool false), (.bool false), (.bool false), (.bool false), (.bool false), (.bool false), (.bool false), (.bool false), (.bool false), (.bool false), (.bool false), (.bool false), (.bool false), (.bool false), (.bool false), (.bool false), (.bool false), (.bool false), (.bool false), (.bool false), (.bool false), (.bool false), (.bool false), (.bool false), (.bool false), (.bool false), (.bool false), (.bool false), (.bool false), (.bool false), (.bool false), (.bool false), (.bool false), (.bool false)])⟩, ⟨none, none, (.store 256 (.t 5) (.t 29))⟩, ⟨(some 6), none, (.mov (.t 30))⟩] [0, 1, 5, 6]) (.seq (.reg [⟨(some 31), none, (.mov (.t 6))⟩] [0, 1, 5, 31]) (.cond (.t 31) (.seq (.reg [⟨(some 32), none, (.mov (.t 0))⟩, ⟨(some 33), none, (.call (.k (.fn (.func 225) [] [])) [(.t 32), (.t 5)])⟩, ⟨(some 4), none, (.mov (.t 33))⟩] [4]) .ret) .skip))) (.seq (.reg [⟨(some 34), none, (.mov (.t 0))⟩, ⟨(some 35), none, (.mov (.t 1))⟩, ⟨(some 36), none, (.call (.k (.fn (.func 226) [] [])) [(.t 34), (.t 35)])⟩, ⟨(some 4), none, (.mov (.t 36))⟩] [4]) .ret)))))
def rs213 : List RV := [(.t 4)]
theorem co213 : compFn Go.Proofs.Tryd.prog Go.Proofs.Tryd.f213 pl213 = some (ac213, rs213) := by kernel_rfl
theorem enter213 {args : List AV} {H : AHeap} {Q : AV → AHeap → Prop} (hn : args.length ≤ 37) (h : W Go.Proofs.Tryd.prog ac213 (retN rs213 Q) ⟨[], initE args 0, H⟩) : Run Go.Proofs.Tryd.prog 213 args H Q := Run_fn2 mixed Go.Proofs.Tryd.func213 (by kernel_rfl) co213 (n := 37) (by kernel_rfl) hn h
def ac214 : ACode := (.seq (.reg [⟨(some 4), none, (.mov (.k (.seq 0 [] true)))⟩] [0, 1]) (.seq (.reg [⟨(some 5), none, (.mov (.t 0))⟩, ⟨(some 6), none, (.mov (.t 1))⟩, ⟨(some 7), none, (.bsl [(.int .u32 ((0 : Nat) : Int))] 1 1 [(0, (1, (.t 6)))])⟩, ⟨(some 8), none, (.call (.k (.fn (.func 171) [] [])) [(.t 5), (.t 7)])⟩, ⟨(some 4), none, (.mov (.t 8))⟩] [4]) .ret))
def rs214 : List RV := [(.t 4)]
theorem co214 : compFn Go.Proofs.Tryd.prog Go.Proofs.Tryd.f214 pl214 = some (ac214, rs214) := by kernel_rfl
theorem enter214 {args : List AV} {H : AHeap} {Q : AV → AHeap → Prop} (hn : args.length ≤ 9) (h : W Go.Proofs.Tryd.prog ac214 (retN rs214 Q) ⟨[], initE args 0, H⟩) : Run Go.Proofs.Tryd.prog 214 args H Q := Run_fn2 mixed Go.Proofs.Tryd.func214 (by kernel_rfl) co214 (n := 9) (by kernel_rfl) hn h
def ac215 : ACode := (.seq (.reg [⟨(some 2), none, (.mov (.t 0))⟩, ⟨(some 3), none, (.prim .nck [(.t 2)])⟩, ⟨(some 4), none, (.fldA 0 (.t 3))⟩, ⟨(some 5), none, (.load none (.t 4))⟩, ⟨(some 6), none, (.prim (.peq false) [(.t 5), (.k .nilP)])⟩] [0, 6]) (.cond (.t 6) (.reg [⟨(some 7), none, (.mov (.t 0))⟩, ⟨(some 8), none, (.mov (.t 0))⟩, ⟨(some 9), none, (.prim .toU [(.t 8)])⟩, ⟨(some 10), none, (.mov (.t 9))⟩, ⟨(some 11), none, (.prim (.fromU 234 2) [(.t 10)])⟩, ⟨(some 12), none, (.prim .nck [(.t 7)])⟩, ⟨(some 13), none, (.fldA 0 (.t 12))⟩, ⟨none, none, (.store 1 (.t 13) (.t 11))⟩] []) (.seq (.reg [⟨(some 14), none, (.mov (.t 0))⟩, ⟨(some 15), none, (.prim .nck [(.t 14)])⟩, ⟨(some 16), none, (.fldA 0 (.t 15))⟩, ⟨(some 17), none, (.load none (.t 16))⟩, ⟨(some 18), none, (.mov (.t 0))⟩, ⟨(some 19), none, (.prim (.peq true) [(.t 17), (.t 18)])⟩] [19]) (.cond (.t 19) .refuse .skip))))
def rs215 : List RV := []
theorem co215 : compFn Go.Proofs.Tryd.prog Go.Proofs.Tryd.f215 pl215 = some (ac215, rs215) := by kernel_rfl
theorem enter215 {args : List AV} {H : AHeap} {Q : AV → AHeap → Prop} (hn : args.length ≤ 20) (h : W Go.Proofs.Tryd.prog ac215 (retN rs215 Q) ⟨[], initE args 0, H⟩) : Run Go.Proofs.Tryd.prog 215 args H Q := Run_fn2 mixed Go.Proofs.Tryd.func215 (by kernel_rfl) co215 (n := 20) (by kernel_rfl) hn h
def ac223 : ACode := (.seq (.reg [⟨(some 4), none, (.mov (.k (.str ⟨#[]⟩)))⟩] [0, 1]) (.seq (.block 0 (.loop (.seq (.seq (.reg [⟨(some 5), none, (.mov (.t 0))⟩, ⟨(some 6), none, (.len true (.t 5))⟩, ⟨(some 7), none, (.bin .gtr (.t 6) (.k (.int .i64 ((0 : Nat) : Int))))⟩, ⟨(some 8), none, (.mov (.t 7))⟩, ⟨(some 9), (some (8, true)), (.mov (.t 0))⟩, ⟨(some 10), (some (8, true)), (.idxS (.t 9) (.k (.int .i64 ((0 : Nat) : Int))))⟩, ⟨(some 11), (some (8, true)), (.mov (.t 1))⟩, ⟨(some 12), (some (8, true)), (.bin .eql (.t 10) (.t 11))⟩, ⟨(some 13), none, (.pick (.t 8) (.t 12) (.k (.bool false)))⟩] [0, 1, 13]) (.cond (.t 13) .skip (.exit 0))) (.block 1 (.reg [⟨(some 14), none, (.mov (.t 0))⟩, ⟨(some 15), none, (.slcS (.t 14) (some (.k (.int .i64 ((1 : Nat) : Int)))) none)⟩, ⟨(some 0), none, (.mov (.t 15))⟩] [0, 1]))))) (.seq (.reg [⟨(some 16), none, (.mov (.t 0))⟩, ⟨(some 4), none, (.mov (.t 16))⟩] [4]) .ret)))
def rs223 : List RV := [(.t 4)]
theorem co223 : compFn Go.Proofs.Tryd.prog Go.Proofs.Tryd.f223 pl223 = some (ac223, rs223) := by kernel_rfl
theorem enter223 {args : List AV} {H : AHeap} {Q : AV → AHeap → Prop} (hn : args.length ≤ 17) (h : W Go.Proofs.Tryd.prog ac223 (retN rs223 Q) ⟨[], initE args 0, H⟩) : Run Go.Proofs.Tryd.prog 223 args H Q := Run_fn2 mixed Go.Proofs.Tryd.func223 (by kernel_rfl) co223 (n := 17) (by kernel_rfl) hn h
end Go.Proofs.YtanchgkiomfhhaaDoor.Fw

/- What package limb computes: trimming, copies, comparing. -/
namespace Go.Proofs.YtanchgkiomfhhaaDoor.Fw
set_option linter.unusedSimpArgs false
set_option linter.unusedVariables false
open Go Go.Proofs.YtanchgkiomfhhaaDoor.Ma

theorem digs_len0 {B n : Nat} (hB : 2 ≤ B) : ((digs B n).length = 0) = (n = 0) := by
  rw [List.length_eq_zero_iff]; exact propext (digs_nil hB)
theorem digs_pos_len {B n : Nat} (hB : 2 ≤ B) : (0 < (digs B n).length) = (0 < n) := by
  apply propext
  have := digs_nil (n := n) hB
  cases h : digs B n with
  | nil => have := this.1 h; simp [this]
  | cons x l => rcases Nat.eq_zero_or_pos n with e | e
                · rw [e, digs_zero] at h; cases h
                · simp [e]
theorem trim_fn (l : List Nat) (t : Bool) : PFn Tryd.prog 197 [LS l t] (LS (tr l) true) := by
  intro H Q hq
  refine enter197 (by simp) ?_
  simp (disch := first | assumption | (apply Ap.symm; assumption) | omega | decide | (simp only [Xd] <;> omega)) only [ac197, len_LS, len_own, ↓Xa, Xb, Xc, ↓reduceIte, Nat.reduceLT, Nat.reduceEqDiff, Nat.reduceBEq, Nat.reduceLeDiff, Nat.reduceAdd, Nat.reduceMul]
  intro hl
  refine W_loop (fun n : Nat => ⟨[], [(0, LS l t), (3, .int .i64 n)], H⟩) (fun n => n ≤ l.length ∧ ∀ i, n ≤ i → i < l.length → l.getD i 0 = 0) id l.length (Settle.now rfl) ⟨Nat.le_refl _, fun i h1 h2 => absurd h1 (by omega)⟩ ?_
  rintro n ⟨hn, hz⟩
  have fin : (n = 0 ∨ l.getD (n - 1) 0 ≠ 0) → SetR Q (LS (l.take n) true) H := fun h => by rw [tr_take hn hz h]; exact SetR.now hq
  by_cases h0 : 0 < n
  · by_cases h1 : l.getD (n - 1) 0 = 0
    · simp (disch := first | assumption | (apply Ap.symm; assumption) | omega | decide | (simp only [Xd] <;> omega)) only [h0, h1, len_LS, len_own, ↓Xa, Xb, Xc, ↓reduceIte, Nat.reduceLT, Nat.reduceEqDiff, Nat.reduceBEq, Nat.reduceLeDiff, Nat.reduceAdd, Nat.reduceMul]
      refine Settle.now ⟨n - 1, ?_, ⟨by omega, fun i hi hl' => ?_⟩, rfl⟩
      · show n - 1 < n; omega
      · rcases Nat.lt_or_ge i n with h | h
        · rw [show i = n - 1 by omega]; exact h1
        · exact hz i h hl'
    · simp (disch := first | assumption | (apply Ap.symm; assumption) | omega | decide | (simp only [Xd] <;> omega)) only [h0, h1, len_LS, len_own, ↓Xa, Xb, Xc, ↓reduceIte, Nat.reduceLT, Nat.reduceEqDiff, Nat.reduceBEq, Nat.reduceLeDiff, Nat.reduceAdd, Nat.reduceMul]
      refine Settle.now ?_
      simp (disch := first | assumption | (apply Ap.symm; assumption) | omega | decide | (simp only [Xd] <;> omega)) only [rs197, len_LS, len_own, ↓Xa, Xb, Xc, ↓reduceIte, Nat.reduceLT, Nat.reduceEqDiff, Nat.reduceBEq, Nat.reduceLeDiff, Nat.reduceAdd, Nat.reduceMul]
      exact fin (.inr h1)
  · simp (disch := first | assumption | (apply Ap.symm; assumption) | omega | decide | (simp only [Xd] <;> omega)) only [h0, len_LS, len_own, ↓Xa, Xb, Xc, ↓reduceIte, Nat.reduceLT, Nat.reduceEqDiff, Nat.reduceBEq, Nat.reduceLeDiff, Nat.reduceAdd, Nat.reduceMul]
    refine Settle.now ?_
    simp (disch := first | assumption | (apply Ap.symm; assumption) | omega | decide | (simp only [Xd] <;> omega)) only [rs197, len_LS, len_own, ↓Xa, Xb, Xc, ↓reduceIte, Nat.reduceLT, Nat.reduceEqDiff, Nat.reduceBEq, Nat.reduceLeDiff, Nat.reduceAdd, Nat.reduceMul]
    exact fin (.inl (by omega))

theorem trim_own {l : List Nat} {b ty n : Nat} {t : Bool} {H : AHeap} {Q : AV → AHeap → Prop} (hH : H b = some (.row ty 1 (U l))) (hn : l.length = n) (hq : Q (.own b n 0 (tr l).length true) H) : Run Tryd.prog 197 [.own b n 0 n t] H Q := by
  subst hn
  refine enter197 (by simp) ?_
  simp (disch := first | assumption | (apply Ap.symm; assumption) | omega | decide | (simp only [Xd] <;> omega)) only [ac197, len_LS, len_own, ↓Xa, Xb, Xc, ↓reduceIte, Nat.reduceLT, Nat.reduceEqDiff, Nat.reduceBEq, Nat.reduceLeDiff, Nat.reduceAdd, Nat.reduceMul]
  intro hl
  refine W_loop (fun n : Nat => ⟨[], [(0, .own b l.length 0 l.length t), (3, .int .i64 n)], H⟩) (fun n => n ≤ l.length ∧ ∀ i, n ≤ i → i < l.length → l.getD i 0 = 0) id l.length (Settle.now rfl) ⟨Nat.le_refl _, fun i h1 h2 => absurd h1 (by omega)⟩ ?_
  rintro n ⟨hn, hz⟩
  have fin : (n = 0 ∨ l.getD (n - 1) 0 ≠ 0) → SetR Q (.own b l.length 0 n true) H := fun h => by
    have := congrArg List.length (tr_take hn hz h)
    rw [List.length_take, Nat.min_eq_left hn] at this
    rw [this]; exact SetR.now hq
  by_cases h0 : 0 < n
  · by_cases h1 : l.getD (n - 1) 0 = 0
    · simp (disch := first | assumption | (apply Ap.symm; assumption) | omega | decide | (simp only [Xd] <;> omega)) only [h0, h1, hH, len_LS, len_own, ↓Xa, Xb, Xc, ↓reduceIte, Nat.reduceLT, Nat.reduceEqDiff, Nat.reduceBEq, Nat.reduceLeDiff, Nat.reduceAdd, Nat.reduceMul]
      refine Settle.now ⟨n - 1, ?_, ⟨by omega, fun i hi hl' => ?_⟩, rfl⟩
      · show n - 1 < n; omega
      · rcases Nat.lt_or_ge i n with h | h
        · rw [show i = n - 1 by omega]; exact h1
        · exact hz i h hl'
    · simp (disch := first | assumption | (apply Ap.symm; assumption) | omega | decide | (simp only [Xd] <;> omega)) only [h0, h1, hH, len_LS, len_own, ↓Xa, Xb, Xc, ↓reduceIte, Nat.reduceLT, Nat.reduceEqDiff, Nat.reduceBEq, Nat.reduceLeDiff, Nat.reduceAdd, Nat.reduceMul]
      refine Settle.now ?_
      simp (disch := first | assumption | (apply Ap.symm; assumption) | omega | decide | (simp only [Xd] <;> omega)) only [rs197, hH, len_LS, len_own, ↓Xa, Xb, Xc, ↓reduceIte, Nat.reduceLT, Nat.reduceEqDiff, Nat.reduceBEq, Nat.reduceLeDiff, Nat.reduceAdd, Nat.reduceMul]
      exact fin (.inr h1)
  · simp (disch := first | assumption | (apply Ap.symm; assumption) | omega | decide | (simp only [Xd] <;> omega)) only [h0, hH, len_LS, len_own, ↓Xa, Xb, Xc, ↓reduceIte, Nat.reduceLT, Nat.reduceEqDiff, Nat.reduceBEq, Nat.reduceLeDiff, Nat.reduceAdd, Nat.reduceMul]
    refine Settle.now ?_
    simp (disch := first | assumption | (apply Ap.symm; assumption) | omega | decide | (simp only [Xd] <;> omega)) only [rs197, hH, len_LS, len_own, ↓Xa, Xb, Xc, ↓reduceIte, Nat.reduceLT, Nat.reduceEqDiff, Nat.reduceBEq, Nat.reduceLeDiff, Nat.reduceAdd, Nat.reduceMul]
    exact fin (.inl (by omega))
theorem trim_call {l : List Nat} {b ty n : Nat} {t : Bool} {H : AHeap} {K : AV → AHeap → Prop} (hH : H b = some (.row ty 1 (U l))) (hn : l.length = n) (k : K (.own b n 0 (tr l).length true) H) : callW Tryd.prog (.fn (.func 197) [] []) [.own b n 0 n t] H K := by
  simpa [callW] using trim_own (t := t) hH hn k
theorem frz_tr {l : List Nat} {b n : Nat} (hn : l.length = n) : frz b 1 (U l) (.own b n 0 (tr l).length true) = LS (tr l) true := by
  subst hn
  have h1 := tr_len l
  obtain ⟨k, h2⟩ := tr_pre l
  have h3 : (U l).take (tr l).length = U (tr l) := by
    rw [← U_take]; congr 1
    generalize tr l = x at *
    rw [h2]; simp
  simp [frz, frz2, frz1, LS, h1, h3]
theorem fin_tr {l : List Nat} {b ty n : Nat} {H : AHeap} {Q : AV → AHeap → Prop} (hb : H b = none) (hn : l.length = n) (hq : Q (LS (tr l) true) H) : SetR Q (.own b n 0 (tr l).length true) (H.upd b (some (.row ty 1 (U l)))) := by
  refine SetR.frz b (upd_same _ _ _) ?_
  rw [frz_tr hn, upd_upd, upd_back _ hb]
  exact SetR.now hq

theorem frz2_tr {l : List Nat} {b n : Nat} (hn : l.length = n) : frz2 b 1 (U l) (.own b n 0 (tr l).length true) = LS (tr l) true := frz_tr hn
theorem frz2_int {b es : Nat} {c : List AV} {k : IntKind} {n : Int} : frz2 b es c (.int k n) = .int k n := rfl
theorem fin_tr2 {l : List Nat} {b ty n : Nat} {H : AHeap} {Q : AV → AHeap → Prop} {k : IntKind} {m : Int} (hb : H b = none) (hn : l.length = n) (hq : Q (.tup [LS (tr l) true, .int k m]) H) : SetR Q (.tup [.own b n 0 (tr l).length true, .int k m]) (H.upd b (some (.row ty 1 (U l)))) := by
  refine SetR.frz b (upd_same _ _ _) ?_
  rw [upd_upd, upd_back _ hb, frz, List.map_cons, List.map_cons, List.map_nil, frz2_tr hn, frz2_int]
  exact SetR.now hq
theorem fin_tr3 {l : List Nat} {b ty n : Nat} {H : AHeap} {Q : AV → AHeap → Prop} {k k' : IntKind} {m m' : Int} (hb : H b = none) (hn : l.length = n) (hq : Q (.tup [LS (tr l) true, .int k m, .int k' m']) H) : SetR Q (.tup [.own b n 0 (tr l).length true, .int k m, .int k' m']) (H.upd b (some (.row ty 1 (U l)))) := by
  refine SetR.frz b (upd_same _ _ _) ?_
  rw [upd_upd, upd_back _ hb, frz, List.map_cons, List.map_cons, List.map_cons, List.map_nil, frz2_tr hn, frz2_int, frz2_int]
  exact SetR.now hq

theorem norm_fn {l : List Nat} (t : Bool) (hl : l.length ≤ 70368744177664) : PFn Tryd.prog 138 [LS l t] (LS (tr l) true) := by
  intro H Q hq
  refine enter138 (by simp) ?_
  simp (disch := first | assumption | (apply Ap.symm; assumption) | omega | decide | (simp only [Xd] <;> omega)) only [ac138, len_LS, len_own, ↓Xa, Xb, Xc, ↓reduceIte, Nat.reduceLT, Nat.reduceEqDiff, Nat.reduceBEq, Nat.reduceLeDiff, Nat.reduceAdd, Nat.reduceMul]
  refine (trim_fn l t).call ?_
  have h1 := tr_len l
  simp (disch := first | assumption | (apply Ap.symm; assumption) | omega | decide | (simp only [Xd] <;> omega)) only [len_LS, len_own, ↓Xa, Xb, Xc, ↓reduceIte, Nat.reduceLT, Nat.reduceEqDiff, Nat.reduceBEq, Nat.reduceLeDiff, Nat.reduceAdd, Nat.reduceMul]
  intro h2
  refine newU_i fun b hb => ?_
  simp (disch := first | assumption | (apply Ap.symm; assumption) | omega | decide | (simp only [Xd] <;> omega)) only [len_LS, len_own, ↓Xa, Xb, Xc, ↓reduceIte, Nat.reduceLT, Nat.reduceEqDiff, Nat.reduceBEq, Nat.reduceLeDiff, Nat.reduceAdd, Nat.reduceMul]
  refine cpy_U (upd_same _ _ _) (by simp) rfl ?_
  simp (disch := first | assumption | (apply Ap.symm; assumption) | omega | decide | (simp only [Xd] <;> omega)) only [rs138, len_LS, len_own, ↓Xa, Xb, Xc, ↓reduceIte, Nat.reduceLT, Nat.reduceEqDiff, Nat.reduceBEq, Nat.reduceLeDiff, Nat.reduceAdd, Nat.reduceMul]
  refine SetR.frz b (upd_same _ _ _) ?_
  rw [upd_upd, upd_back _ hb]
  have e : frz b 1 (U (tr l)) (.own b (tr l).length 0 (tr l).length true) = LS (tr l) true := by simp [frz, frz2, frz1, LS, List.take_of_length_le]
  rw [e]; exact SetR.now hq

def cmpZ (a b : Nat) : Int := if a < b then -1 else if b < a then ((1 : Nat) : Int) else ((0 : Nat) : Int)

theorem cmp_fn {a b : List Nat} (ta tb : Bool) (ha : Lim 4294967296 a) (hb : Lim 4294967296 b) : PFn Tryd.prog 148 [LS a ta, LS b tb] (.int .i64 (cmpZ (val 4294967296 a) (val 4294967296 b))) := by
  intro H Q hq
  refine enter148 (by simp) ?_
  simp (disch := first | assumption | (apply Ap.symm; assumption) | omega | decide | (simp only [Xd] <;> omega)) only [ac148, len_LS, len_own, ↓Xa, Xb, Xc, ↓reduceIte, Nat.reduceLT, Nat.reduceEqDiff, Nat.reduceBEq, Nat.reduceLeDiff, Nat.reduceAdd, Nat.reduceMul]
  refine (trim_fn a ta).call ?_
  simp (disch := first | assumption | (apply Ap.symm; assumption) | omega | decide | (simp only [Xd] <;> omega)) only [len_LS, len_own, ↓Xa, Xb, Xc, ↓reduceIte, Nat.reduceLT, Nat.reduceEqDiff, Nat.reduceBEq, Nat.reduceLeDiff, Nat.reduceAdd, Nat.reduceMul]
  refine (trim_fn b tb).call ?_
  rw [tr_digs (by omega) ha, tr_digs (by omega) hb]
  generalize val 4294967296 a = m at *
  generalize val 4294967296 b = n at *
  have hx := lim_digs (B := 4294967296) (by omega) m
  have hy := lim_digs (B := 4294967296) (by omega) n
  have vx := val_digs (B := 4294967296) (by omega) m
  have vy := val_digs (B := 4294967296) (by omega) n
  have lt1 := digs_lt_len (B := 4294967296) (a := m) (b := n) (by omega)
  have lt2 := digs_lt_len (B := 4294967296) (a := n) (b := m) (by omega)
  generalize digs 4294967296 m = x at *
  generalize digs 4294967296 n = y at *
  have less : m < n → SetR Q (.int .i64 (-1)) H := fun h => by
    have : cmpZ m n = -1 := by simp [cmpZ, h]
    rw [← this]; exact SetR.now hq
  have more : n < m → SetR Q (.int .i64 ((1 : Nat) : Int)) H := fun h => by
    have : cmpZ m n = ((1 : Nat) : Int) := by simp [cmpZ, h, Nat.not_lt_of_lt h]
    rw [← this]; exact SetR.now hq
  by_cases c1 : x.length < y.length
  · simp (disch := first | assumption | (apply Ap.symm; assumption) | omega | decide | (simp only [Xd] <;> omega)) only [c1, rs148, len_LS, len_own, ↓Xa, Xb, Xc, ↓reduceIte, Nat.reduceLT, Nat.reduceEqDiff, Nat.reduceBEq, Nat.reduceLeDiff, Nat.reduceAdd, Nat.reduceMul]
    intro _ _
    exact less (lt1 c1)
  by_cases c2 : y.length < x.length
  · simp (disch := first | assumption | (apply Ap.symm; assumption) | omega | decide | (simp only [Xd] <;> omega)) only [c1, c2, rs148, len_LS, len_own, ↓Xa, Xb, Xc, ↓reduceIte, Nat.reduceLT, Nat.reduceEqDiff, Nat.reduceBEq, Nat.reduceLeDiff, Nat.reduceAdd, Nat.reduceMul]
    intro _ _ _ _
    exact more (lt2 c2)
  simp (disch := first | assumption | (apply Ap.symm; assumption) | omega | decide | (simp only [Xd] <;> omega)) only [c1, c2, len_LS, len_own, ↓Xa, Xb, Xc, ↓reduceIte, Nat.reduceLT, Nat.reduceEqDiff, Nat.reduceBEq, Nat.reduceLeDiff, Nat.reduceAdd, Nat.reduceMul]
  intro l1 l2
  intros
  simp (disch := first | assumption | (apply Ap.symm; assumption) | omega | decide | (simp only [Xd] <;> omega)) only [len_LS, len_own, ↓Xa, Xb, Xc, ↓reduceIte, Nat.reduceLT, Nat.reduceEqDiff, Nat.reduceBEq, Nat.reduceLeDiff, Nat.reduceAdd, Nat.reduceMul]
  have hlen : x.length = y.length := by omega
  refine W_loop (fun k : Nat => ⟨[], [(0, LS x true), (1, LS y true), (5, .int .i64 (dn k))], H⟩) (fun k => k ≤ x.length ∧ x.drop k = y.drop k) id x.length (Settle.now rfl) ⟨Nat.le_refl _, by rw [List.drop_of_length_le (Nat.le_refl _), List.drop_of_length_le (by omega)]⟩ ?_
  rintro k ⟨hk, hd⟩
  cases k with
  | zero =>
    simp (disch := first | assumption | (apply Ap.symm; assumption) | omega | decide | (simp only [Xd] <;> omega)) only [len_LS, len_own, ↓Xa, Xb, Xc, ↓reduceIte, Nat.reduceLT, Nat.reduceEqDiff, Nat.reduceBEq, Nat.reduceLeDiff, Nat.reduceAdd, Nat.reduceMul]
    refine Settle.now ?_
    simp (disch := first | assumption | (apply Ap.symm; assumption) | omega | decide | (simp only [Xd] <;> omega)) only [rs148, len_LS, len_own, ↓Xa, Xb, Xc, ↓reduceIte, Nat.reduceLT, Nat.reduceEqDiff, Nat.reduceBEq, Nat.reduceLeDiff, Nat.reduceAdd, Nat.reduceMul]
    have e : m = n := by rw [← vx, ← vy]; rw [List.drop_zero, List.drop_zero] at hd; rw [hd]
    have : cmpZ m n = ((0 : Nat) : Int) := by simp [cmpZ, e]
    rw [← this]; exact SetR.now hq
  | succ k =>
    by_cases d1 : x.getD k 0 < y.getD k 0
    · simp (disch := first | assumption | (apply Ap.symm; assumption) | omega | decide | (simp only [Xd] <;> omega)) only [d1, rs148, len_LS, len_own, ↓Xa, Xb, Xc, ↓reduceIte, Nat.reduceLT, Nat.reduceEqDiff, Nat.reduceBEq, Nat.reduceLeDiff, Nat.reduceAdd, Nat.reduceMul]
      exact less (by rw [← vx, ← vy]; exact val_lt_high hx (by omega) k (by omega) hlen hd d1)
    by_cases d2 : y.getD k 0 < x.getD k 0
    · simp (disch := first | assumption | (apply Ap.symm; assumption) | omega | decide | (simp only [Xd] <;> omega)) only [d1, d2, rs148, len_LS, len_own, ↓Xa, Xb, Xc, ↓reduceIte, Nat.reduceLT, Nat.reduceEqDiff, Nat.reduceBEq, Nat.reduceLeDiff, Nat.reduceAdd, Nat.reduceMul]
      exact more (by rw [← vx, ← vy]; exact val_lt_high hy (by omega) k (by omega) hlen.symm hd.symm d2)
    simp (disch := first | assumption | (apply Ap.symm; assumption) | omega | decide | (simp only [Xd] <;> omega)) only [d1, d2, len_LS, len_own, ↓Xa, Xb, Xc, ↓reduceIte, Nat.reduceLT, Nat.reduceEqDiff, Nat.reduceBEq, Nat.reduceLeDiff, Nat.reduceAdd, Nat.reduceMul]
    refine Settle.now ⟨k, Nat.lt_succ_self k, ⟨by omega, ?_⟩, rfl⟩
    rw [List.drop_eq_getElem_cons (by omega), List.drop_eq_getElem_cons (i := k) (l := y) (by omega), hd]
    congr 1
    have e1 : x.getD k 0 = x[k] := by simp [List.getD_eq_getElem?_getD, List.getElem?_eq_getElem (show k < x.length by omega)]
    have e2 : y.getD k 0 = y[k] := by simp [List.getD_eq_getElem?_getD, List.getElem?_eq_getElem (show k < y.length by omega)]
    omega
end Go.Proofs.YtanchgkiomfhhaaDoor.Fw

/- Decimal digits as bytes; a number's text, nine digits at a time. -/
namespace Go.Proofs.YtanchgkiomfhhaaDoor.Ma
set_option linter.unusedSimpArgs false
set_option linter.unusedVariables false

def chr (d : Nat) : UInt8 := UInt8.ofNat (48 + d)
theorem chr_nat {d : Nat} (h : d < 10) : (chr d).toNat = 48 + d := by unfold chr; rw [UInt8.toNat_ofNat']; omega
def dec (n : Nat) : List UInt8 := (digs 10 n).reverse.map chr
def wide (k n : Nat) : List UInt8 := (pad 10 n k).reverse.map chr
theorem dec_zero : dec 0 = [] := by simp [dec, digs_zero]
theorem wide_len {k n : Nat} (h : n < 10 ^ k) : (wide k n).length = k := by
  simp only [wide, List.length_map, List.length_reverse]
  exact pad_len (digs_len (by omega) k n h)
theorem dec_len {k n : Nat} (h : n < 10 ^ k) : (dec n).length ≤ k := by
  simp only [dec, List.length_map, List.length_reverse]
  exact digs_len (by omega) k n h
theorem last_append {l m : List Nat} (h : m ≠ []) : (l ++ m).getD ((l ++ m).length - 1) 0 = m.getD (m.length - 1) 0 := by
  have : 0 < m.length := List.length_pos_iff.2 h
  rw [List.getD_eq_getElem?_getD, List.getD_eq_getElem?_getD, List.length_append, List.getElem?_append_right (by omega)]
  congr 2; omega
theorem dec_app {k p m : Nat} (hp : p < 10 ^ k) (hm : 0 < m) : dec (p + 10 ^ k * m) = dec m ++ wide k p := by
  have hne : digs 10 m ≠ [] := fun e => by have := (digs_nil (B := 10) (by omega)).1 e; omega
  have hlen := pad_len (digs_len (B := 10) (by omega) k p hp)
  have e : digs 10 (p + 10 ^ k * m) = pad 10 p k ++ digs 10 m := by
    have h1 : Lim 10 (pad 10 p k ++ digs 10 m) := (pad_lim (by omega)).append (lim_digs (by omega) m)
    have h2 := digs_of (B := 10) (by omega) h1 (.inr (by rw [last_append hne]; exact digs_last (by omega) hm))
    rw [h2, val_append, pad_val (by omega), val_digs (by omega), hlen]
  simp only [dec, e, wide, List.reverse_append, List.map_append]
theorem wide_succ {j q : Nat} (h : q < 10 ^ (j + 1)) : wide (j + 1) q = chr (q / 10 ^ j) :: wide j (q % 10 ^ j) := by
  have hp : 0 < 10 ^ j := Nat.pow_pos (by omega)
  have hlt : q % 10 ^ j < 10 ^ j := Nat.mod_lt _ hp
  have hd : q / 10 ^ j < 10 := Nat.div_lt_of_lt_mul (by rw [Nat.pow_succ] at h; omega)
  have hlen := pad_len (digs_len (B := 10) (by omega) j _ hlt)
  have e : pad 10 q (j + 1) = pad 10 (q % 10 ^ j) j ++ [q / 10 ^ j] := by
    have h1 : Lim 10 (pad 10 (q % 10 ^ j) j ++ [q / 10 ^ j]) := (pad_lim (by omega)).append (Lim.one hd)
    have h2 := pad_of (B := 10) (by omega) h1
    rw [val_append, pad_val (by omega), hlen, val_one, List.length_append, hlen, Nat.mod_add_div] at h2
    exact h2.symm
  simp only [wide, e, List.reverse_append, List.map_append, List.reverse_singleton, List.map_cons, List.map_nil, List.singleton_append]
theorem wide_step {j p : Nat} : wide (j + 1) (p % 10 ^ (j + 1)) = chr (p / 10 ^ j % 10) :: wide j (p % 10 ^ j) := by
  have hp : 0 < 10 ^ (j + 1) := Nat.pow_pos (by omega)
  rw [wide_succ (Nat.mod_lt _ hp)]
  have e1 : p % 10 ^ (j + 1) / 10 ^ j = p / 10 ^ j % 10 := by rw [Nat.pow_succ, Nat.mod_mul_right_div_self]
  have e2 : p % 10 ^ (j + 1) % 10 ^ j = p % 10 ^ j := by rw [Nat.pow_succ]; exact Nat.mod_mod_of_dvd _ (Nat.dvd_mul_right _ _)
  rw [e1, e2]
theorem chr_48 {d : Nat} (h : d < 10) : (chr d = 48) ↔ d = 0 := by
  constructor
  · intro e
    have := congrArg UInt8.toNat e
    rw [chr_nat h] at this
    simp at this; omega
  · rintro rfl; rfl
theorem wide_trim {k p : Nat} : (wide k p).dropWhile (· == 48) = dec p := by
  have e : wide k p = List.replicate (k - (digs 10 p).length) 48 ++ dec p := by
    simp only [wide, pad, dec, List.reverse_append, List.map_append, List.reverse_replicate, List.map_replicate]
    rfl
  rw [e]
  have h : ∀ n (l : List UInt8), (List.replicate n 48 ++ l).dropWhile (· == 48) = l.dropWhile (· == 48) := by
    intro n
    induction n with
    | zero => intro l; simp
    | succ n ih => intro l; rw [List.replicate_succ, List.cons_append, List.dropWhile_cons]; simp [ih]
  rw [h]
  rcases Nat.eq_zero_or_pos p with hp | hp
  · subst hp; rw [dec_zero]; rfl
  · have hl := digs_last (B := 10) (by omega) hp
    have hne : digs 10 p ≠ [] := fun e => by have := (digs_nil (B := 10) (by omega)).1 e; omega
    obtain ⟨l, x, hx⟩ : ∃ l x, digs 10 p = l ++ [x] := ⟨_, _, (List.dropLast_concat_getLast hne).symm⟩
    have hx0 : x ≠ 0 := by
      rw [hx, last_append (by simp)] at hl
      simpa using hl
    have hx10 : x < 10 := lim_digs (B := 10) (by omega) p x (by rw [hx]; simp)
    have hd : dec p = chr x :: l.reverse.map chr := by simp [dec, hx]
    rw [hd, List.dropWhile_cons]
    have : (chr x == 48) = false := by
      rw [beq_eq_false_iff_ne]; exact fun h => hx0 ((chr_48 hx10).1 h)
    rw [this]; rfl

/-! ### a number, nine digits at a time -/
theorem digs_drop_pos {B n k : Nat} (hB : 2 ≤ B) (hk : k < (digs B n).length) : 0 < val B ((digs B n).drop k) := by
  have hn : 0 < n := by
    rcases Nat.eq_zero_or_pos n with h | h
    · subst h; rw [digs_zero] at hk; simp at hk
    · exact h
  have hl := digs_last hB hn
  have h1 : Lim B ((digs B n).drop k) := (lim_digs hB n).drop k
  have h2 : ((digs B n).drop k).getD (((digs B n).drop k).length - 1) 0 ≠ 0 := by
    rw [List.length_drop, List.getD_eq_getElem?_getD, List.getElem?_drop, ← List.getD_eq_getElem?_getD]
    have : k + ((digs B n).length - k - 1) = (digs B n).length - 1 := by omega
    rw [this]; exact hl
  have h3 := digs_of hB h1 (.inr h2)
  rcases Nat.eq_zero_or_pos (val B ((digs B n).drop k)) with h | h
  · rw [h, digs_zero] at h3
    have := congrArg List.length h3
    simp at this; omega
  · exact h
def decT (n : Nat) : List UInt8 := if n = 0 then [48] else dec n
theorem dec_pos {n : Nat} (h : 0 < n) : dec n ≠ [] := by
  intro e
  have : (digs 10 n) = [] := by simpa [dec] using e
  have := (digs_nil (B := 10) (by omega)).1 this
  omega
theorem piece_step {n k p : Nat} (hk : k < (digs 1000000000 n).length) (hp : p = (digs 1000000000 n).getD k 0) :
    p < 1000000000 ∧ dec (val 1000000000 ((digs 1000000000 n).drop k)) = dec (val 1000000000 ((digs 1000000000 n).drop (k + 1))) ++ (if k + 1 = (digs 1000000000 n).length then dec p else wide 9 p) := by
  have hlt : p < 1000000000 := hp ▸ (lim_digs (B := 1000000000) (by omega) n).getD (by omega) k
  refine ⟨hlt, ?_⟩
  rw [val_drop 1000000000 hk, ← hp]
  by_cases h : k + 1 = (digs 1000000000 n).length
  · rw [if_pos h, List.drop_of_length_le (by omega)]
    simp [val, dec_zero]
  · rw [if_neg h]
    have := digs_drop_pos (B := 1000000000) (n := n) (k := k + 1) (by omega) (by omega)
    exact dec_app (k := 9) hlt this
end Go.Proofs.YtanchgkiomfhhaaDoor.Ma

/- Slices held equal; strings without noughts ahead; the builder of strings. -/
namespace Go.Proofs.YtanchgkiomfhhaaDoor.Fw
set_option linter.unusedSimpArgs false
set_option linter.unusedVariables false
open Go Go.Proofs.YtanchgkiomfhhaaDoor.Ma
set_option maxRecDepth 20000

end Go.Proofs.YtanchgkiomfhhaaDoor.Fw

/- Strings: as lists of bytes; without noughts ahead; the builder of strings. -/
namespace Go.Proofs.YtanchgkiomfhhaaDoor.Fw
set_option linter.unusedSimpArgs false
set_option linter.unusedVariables false
open Go Go.Proofs.YtanchgkiomfhhaaDoor.Ma
set_option maxRecDepth 20000

def Sx (l : List UInt8) : AV := .str ⟨l.toArray⟩
theorem str_Sx {l : List UInt8} : AV.str ⟨l.toArray⟩ = Sx l := id rfl
theorem size_Sx {l : List UInt8} : (⟨l.toArray⟩ : ByteArray).size = l.length := by simp [ByteArray.size]
section
variable {K : AV → Prop} {K2 : AV → AHeap → Prop} {KD : AV → List Nat → Option (Nat × ABlk) → Prop} {l m : List UInt8} {k k' : IntKind} {H : AHeap}
theorem len_Sx : lenW true (Sx l) K = K (.int .i64 ((l.length : Nat) : Int)) := by simp only [Sx, lenW, size_Sx]
theorem idx_Sx {i : Nat} (h : i < l.length) : idxSW (Sx l) (.int k (i : Int)) K = K (.int .u8 (((l.getD i 0).toNat : Nat) : Int)) := by
  simp [Sx, idxSW, byteAt, size_Sx, h]
theorem extract_Sx {a b : Nat} : (⟨l.toArray⟩ : ByteArray).extract a b = ⟨((l.drop a).take (b - a)).toArray⟩ := by
  apply ByteArray.ext
  rw [ByteArray.data_extract]
  simp [List.extract_toArray]
theorem slc_Sx {a b : Nat} (hab : a ≤ b) (hb : b ≤ l.length) : slcSW (Sx l) (some (.int k (a : Int))) (some (.int k' (b : Int))) K = K (Sx ((l.drop a).take (b - a))) := by
  have h1 : (0 : Int) ≤ (a : Int) ∧ (a : Int) ≤ (b : Int) ∧ (b : Int) ≤ ((l.length : Nat) : Int) := by omega
  simp [Sx, slcSW, optI, size_Sx, h1, extract_Sx]
theorem slc_SxL {a : Nat} (hb : a ≤ l.length) : slcSW (Sx l) (some (.int k (a : Int))) none K = K (Sx (l.drop a)) := by
  have h1 : (0 : Int) ≤ (a : Int) ∧ (a : Int) ≤ ((l.length : Nat) : Int) := by omega
  have e : (l.drop a).take (l.length - a) = l.drop a := List.take_of_length_le (by simp)
  simp [Sx, slcSW, optI, size_Sx, h1, extract_Sx, e]
theorem slc_SxH {b : Nat} (hb : b ≤ l.length) : slcSW (Sx l) none (some (.int k' (b : Int))) K = K (Sx (l.take b)) := by
  have h1 : (0 : Int) ≤ (b : Int) ∧ (b : Int) ≤ ((l.length : Nat) : Int) := by omega
  simp [Sx, slcSW, optI, size_Sx, h1, extract_Sx]
theorem beq_dec {a b : List UInt8} : (a == b) = decide (a = b) := by by_cases h : a = b <;> simp [h]
theorem eql_Sx : binW .eql (Sx l) (Sx m) K = K (.bool (decide (l = m))) := by
  simp only [Sx, binW, binStr, ByteArray.toList_eq, List.toList_toArray, beq_dec]
theorem neq_Sx : binW .neq (Sx l) (Sx m) K = K (.bool (!decide (l = m))) := by
  simp only [Sx, binW, binStr, ByteArray.toList_eq, List.toList_toArray, beq_dec]
theorem add_Sx (h : l.length + m.length ≤ 9223372036854775807) : binW .add (Sx l) (Sx m) K = K (Sx (l ++ m)) := by
  have e : (⟨l.toArray⟩ : ByteArray) ++ ⟨m.toArray⟩ = ⟨(l ++ m).toArray⟩ := by
    apply ByteArray.ext; simp
  have h' : (l.length : Int) + (m.length : Int) ≤ 9223372036854775807 := by omega
  simp [Sx, binW, binStr, size_Sx, e, h']
  intro _; exact h
theorem cells_Sx : (Sx l).cells = some [Sx l] := id rfl
theorem app_S0 {ty : Nat} (h0 : 0 < l.length) (hb : l.length ≤ 70368744177664) (kk : ∀ b, H b = none → K2 (.own b l.length 0 l.length false) (H.upd b (some (.row ty 1 (Bt l))))) : appV H ty 1 1 (.seq 0 [] true) (Sx l) K2 := .inl <| by
  have hal : (Bt l).all AV.cell = true := by
    rw [List.all_eq_true]; intro x hx
    obtain ⟨b, _, rfl⟩ := List.mem_map.1 hx; rfl
  refine ⟨rfl, ?_⟩
  show (bytesA ⟨l.toArray⟩).all AV.cell = true ∧ _
  rw [bytesA_eq, size_Sx]
  refine ⟨hal, rfl, rfl, by omega, by omega, fun e => by omega, fun _ b hb' => ?_⟩
  simpa using kk b hb'
theorem app_S1 {ty b : Nat} {t : Bool} {o : List UInt8} (hH : H b = some (.row ty 1 (Bt o))) (hb : o.length + l.length ≤ 70368744177664) (kk : K2 (.own b (o ++ l).length 0 (o ++ l).length false) (H.upd b (some (.row ty 1 (Bt (o ++ l)))))) : appV H ty 1 1 (.own b o.length 0 o.length t) (Sx l) K2 := .inl <| by
  have hal : (Bt l).all AV.cell = true := by
    rw [List.all_eq_true]; intro x hx
    obtain ⟨b, _, rfl⟩ := List.mem_map.1 hx; rfl
  refine ⟨rfl, ?_⟩
  show (bytesA ⟨l.toArray⟩).all AV.cell = true ∧ _
  rw [bytesA_eq, size_Sx]
  refine ⟨hal, ?_⟩
  dsimp only
  rw [hH]
  refine ⟨Bt_len, rfl, by omega, rfl, rfl, by omega, by omega, ?_⟩
  have e : Bt o ++ Bt l = Bt (o ++ l) := by simp [Bt]
  rw [List.length_append] at kk
  rw [Nat.mul_one, e]
  exact kk
end
theorem trimB_fn {l : List UInt8} {c : UInt8} (hl : l.length < 9223372036854775808) : PFn Tryd.prog 223 [Sx l, .int .u8 ((c.toNat : Nat) : Int)] (Sx (l.dropWhile (· == c))) := by
  intro H Q hq
  refine enter223 (by simp) ?_
  simp (disch := first | assumption | (apply Ap.symm; assumption) | omega | decide | (simp only [Xd] <;> omega)) only [ac223, ↓Xa, Xb, Xc, ↓reduceIte, Nat.reduceLT, Nat.reduceEqDiff, Nat.reduceBEq, Nat.reduceLeDiff, Nat.reduceAdd, Nat.reduceMul]
  refine W_loop (fun m : List UInt8 => ⟨[], [(0, Sx m), (1, .int .u8 ((c.toNat : Nat) : Int))], _⟩) (fun m => m.length ≤ l.length ∧ m.dropWhile (· == c) = l.dropWhile (· == c)) (fun m => m.length) l (Settle.now rfl) ⟨Nat.le_refl _, rfl⟩ ?_
  rintro m ⟨hm, h1⟩
  cases m with
  | nil =>
    simp (disch := first | assumption | (apply Ap.symm; assumption) | omega | decide | (simp only [Xd] <;> omega)) only [len_Sx, List.length_nil, ↓Xa, Xb, Xc, ↓reduceIte, Nat.reduceLT, Nat.reduceEqDiff, Nat.reduceBEq, Nat.reduceLeDiff, Nat.reduceAdd, Nat.reduceMul]
    refine Settle.now ?_
    simp (disch := first | assumption | (apply Ap.symm; assumption) | omega | decide | (simp only [Xd] <;> omega)) only [rs223, ↓Xa, Xb, Xc, ↓reduceIte, Nat.reduceLT, Nat.reduceEqDiff, Nat.reduceBEq, Nat.reduceLeDiff, Nat.reduceAdd, Nat.reduceMul]
    rw [← h1] at hq
    exact SetR.now hq
  | cons x m =>
    have hpos : 0 < m.length + 1 := Nat.succ_pos _
    have e : (x :: m).getD 0 0 = x := rfl
    have hm' : m.length + 1 ≤ l.length := hm
    rw [List.dropWhile_cons] at h1
    by_cases hx : x = c
    · have hb : (x == c) = true := by simp [hx]
      have hx' : x.toNat = c.toNat := by rw [hx]
      rw [if_pos hb] at h1
      simp (disch := first | assumption | (apply Ap.symm; assumption) | omega | decide | (simp only [Xd] <;> omega)) only [len_Sx, hpos, idx_Sx, e, hx', slc_SxL, List.drop_succ_cons, List.drop_zero, ↓Xa, Xb, Xc, ↓reduceIte, Nat.reduceLT, Nat.reduceEqDiff, Nat.reduceBEq, Nat.reduceLeDiff, Nat.reduceAdd, Nat.reduceMul]
      exact Settle.now ⟨m, by simp, ⟨by omega, h1⟩, rfl⟩
    · have hb : ¬ (x == c) = true := by simp [hx]
      have hx' : ¬ x.toNat = c.toNat := fun h => hx (UInt8.toNat_inj.1 h)
      rw [if_neg hb] at h1
      simp (disch := first | assumption | (apply Ap.symm; assumption) | omega | decide | (simp only [Xd] <;> omega)) only [len_Sx, hpos, idx_Sx, e, hx', ↓Xa, Xb, Xc, ↓reduceIte, Nat.reduceLT, Nat.reduceEqDiff, Nat.reduceBEq, Nat.reduceLeDiff, Nat.reduceAdd, Nat.reduceMul]
      refine Settle.now ?_
      simp (disch := first | assumption | (apply Ap.symm; assumption) | omega | decide | (simp only [Xd] <;> omega)) only [rs223, ↓Xa, Xb, Xc, ↓reduceIte, Nat.reduceLT, Nat.reduceEqDiff, Nat.reduceBEq, Nat.reduceLeDiff, Nat.reduceAdd, Nat.reduceMul]
      rw [← h1] at hq
      exact SetR.now hq
theorem trimL_fn {l : List UInt8} {c : UInt8} (hl : l.length < 9223372036854775808) (hc : c.toNat < 128) : PFn Tryd.prog 213 [Sx l, Sx [c]] (Sx (l.dropWhile (· == c))) := by
  intro H Q hq
  refine enter213 (by simp) ?_
  have e : ([c] : List UInt8).getD 0 0 = c := rfl
  have h1 : ([c] = ([] : List UInt8)) = False := by simp
  have h2 : 0 < ([c] : List UInt8).length := by simp
  cases l with
  | nil =>
    simp (disch := first | assumption | (apply Ap.symm; assumption) | omega | decide | (simp only [Xd] <;> omega)) only [ac213, str_Sx, eql_Sx, rs213, ↓Xa, Xb, Xc, ↓reduceIte, Nat.reduceLT, Nat.reduceEqDiff, Nat.reduceBEq, Nat.reduceLeDiff, Nat.reduceAdd, Nat.reduceMul]
    exact SetR.now hq
  | cons x l =>
    have h3 : (x :: l = ([] : List UInt8)) = False := by simp
    simp (disch := first | assumption | (apply Ap.symm; assumption) | omega | decide | (simp only [Xd] <;> omega)) only [ac213, str_Sx, eql_Sx, h1, h3, len_Sx, idx_Sx, h2, e, hc, ↓Xa, Xb, Xc, ↓reduceIte, Nat.reduceLT, Nat.reduceEqDiff, Nat.reduceBEq, Nat.reduceLeDiff, Nat.reduceAdd, Nat.reduceMul]
    refine (trimB_fn hl).call ?_
    simp (disch := first | assumption | (apply Ap.symm; assumption) | omega | decide | (simp only [Xd] <;> omega)) only [rs213, ↓Xa, Xb, Xc, ↓reduceIte, Nat.reduceLT, Nat.reduceEqDiff, Nat.reduceBEq, Nat.reduceLeDiff, Nat.reduceAdd, Nat.reduceMul]
    exact SetR.now hq
end Go.Proofs.YtanchgkiomfhhaaDoor.Fw

/- The builder of strings. -/
namespace Go.Proofs.YtanchgkiomfhhaaDoor.Fw
set_option linter.unusedSimpArgs false
set_option linter.unusedVariables false
open Go Go.Proofs.YtanchgkiomfhhaaDoor.Ma
set_option maxRecDepth 20000

theorem check_new {H : AHeap} {p : Nat} {v : AV} {K : AV → AHeap → Prop} (hH : H p = some (.row 234 0 [.nilP, v])) (k : K (.tup []) (H.upd p (some (.row 234 0 [.ptr p 2 0, v])))) : Run Tryd.prog 215 [.ptr p 2 0] H K := by
  refine enter215 (by simp) ?_
  simp (disch := first | assumption | (apply Ap.symm; assumption) | omega | decide | (simp only [Xd] <;> omega)) only [ac215, hH, rs215, ↓Xa, Xb, Xc, ↓reduceIte, Nat.reduceLT, Nat.reduceEqDiff, Nat.reduceBEq, Nat.reduceLeDiff, Nat.reduceAdd, Nat.reduceMul]
  exact SetR.now k
theorem check_used {H : AHeap} {p : Nat} {v : AV} {K : AV → AHeap → Prop} (hH : H p = some (.row 234 0 [.ptr p 2 0, v])) (k : K (.tup []) H) : Run Tryd.prog 215 [.ptr p 2 0] H K := by
  refine enter215 (by simp) ?_
  simp (disch := first | assumption | (apply Ap.symm; assumption) | omega | decide | (simp only [Xd] <;> omega)) only [ac215, hH, rs215, ↓Xa, Xb, Xc, ↓reduceIte, Nat.reduceLT, Nat.reduceEqDiff, Nat.reduceBEq, Nat.reduceLeDiff, Nat.reduceAdd, Nat.reduceMul]
  exact SetR.now k
def bld (p : Nat) (l : List UInt8) (H0 H : AHeap) : Prop :=
  (l = [] ∧ (H = H0.upd p (some (.row 234 0 [.nilP, .seq 0 [] true])) ∨ H = H0.upd p (some (.row 234 0 [.ptr p 2 0, .seq 0 [] true])))) ∨
  (l ≠ [] ∧ ∃ bb, H0 bb = none ∧ Ap bb p ∧ H = (H0.upd p (some (.row 234 0 [.ptr p 2 0, .own bb l.length 0 l.length false]))).upd bb (some (.row 5 1 (Bt l))))
theorem bld_new {p : Nat} {H : AHeap} : bld p [] H (H.upd p (some (.row 234 0 [.nilP, .seq 0 [] true]))) := .inl ⟨rfl, .inl rfl⟩
theorem bld_upd {p q : Nat} {l : List UInt8} {H0 H : AHeap} {x : ABlk} (h : bld p l H0 H) (hq : H q = none) : Ap q p ∧ H0 q = none ∧ bld p l (H0.upd q (some x)) (H.upd q (some x)) := by
  rcases h with ⟨rfl, rfl | rfl⟩ | ⟨h0, bb, hbb, hap, rfl⟩
  · obtain ⟨a, b⟩ := upd_none.1 hq
    exact ⟨a, b, .inl ⟨rfl, .inl (upd_comm _ _ _ (Ap.symm a))⟩⟩
  · obtain ⟨a, b⟩ := upd_none.1 hq
    exact ⟨a, b, .inl ⟨rfl, .inr (upd_comm _ _ _ (Ap.symm a))⟩⟩
  · obtain ⟨a1, a2, b⟩ : Ap q bb ∧ Ap q p ∧ H0 q = none := by simpa only [upd_none] using hq
    refine ⟨a2, b, .inr ⟨h0, bb, ?_, hap, ?_⟩⟩
    · rw [upd_otherA (Ap.symm a1)]; exact hbb
    · rw [upd_comm _ _ _ (Ap.symm a1), upd_comm (b := p) (b' := q) _ _ _ (Ap.symm a2)]
theorem wstr_run {p : Nat} {l m : List UInt8} {H0 H : AHeap} {K : AV → AHeap → Prop} (hb : bld p l H0 H) (hl : l.length + m.length ≤ 70368744177664) (hm : 0 < m.length)
    (k : ∀ H', bld p (l ++ m) H0 H' → K (.tup [.int .i64 ((m.length : Nat) : Int), .nilI]) H') : Run Tryd.prog 204 [.ptr p 2 0, Sx m] H K := by
  refine enter204 (by simp) ?_
  simp (disch := first | assumption | (apply Ap.symm; assumption) | omega | decide | (simp only [Xd] <;> omega)) only [ac204, ↓Xa, Xb, Xc, ↓reduceIte, Nat.reduceLT, Nat.reduceEqDiff, Nat.reduceBEq, Nat.reduceLeDiff, Nat.reduceAdd, Nat.reduceMul]
  have hne : ∀ {x : List UInt8}, x ++ m ≠ [] := fun {x} e => by have := congrArg List.length e; rw [List.length_append, List.length_nil] at this; omega
  have first : ∀ {M : AHeap}, M = H0.upd p (some (.row 234 0 [.ptr p 2 0, .seq 0 [] true])) → l = [] →
      W Tryd.prog (sndC (sndC ac204)) (retN rs204 K) ⟨[], [(0, .ptr p 2 0), (1, Sx m)], M⟩ := by
    rintro M rfl rfl
    simp (disch := first | assumption | (apply Ap.symm; assumption) | omega | decide | (simp only [Xd] <;> omega)) only [sndC, ac204, ↓Xa, Xb, Xc, ↓reduceIte, Nat.reduceLT, Nat.reduceEqDiff, Nat.reduceBEq, Nat.reduceLeDiff, Nat.reduceAdd, Nat.reduceMul]
    refine app_S0 hm (by simp at hl; omega) fun b hb => ?_
    obtain ⟨a1, a2⟩ := upd_none.1 hb
    simp (disch := first | assumption | (apply Ap.symm; assumption) | omega | decide | (simp only [Xd] <;> omega)) only [len_Sx, rs204, ↓Xa, Xb, Xc, ↓reduceIte, Nat.reduceLT, Nat.reduceEqDiff, Nat.reduceBEq, Nat.reduceLeDiff, Nat.reduceAdd, Nat.reduceMul]
    refine SetR.now (k _ (.inr ⟨by simpa using hne (x := []), b, a2, a1, ?_⟩))
    simp only [List.nil_append]
  rcases hb with ⟨rfl, rfl | rfl⟩ | ⟨h0, bb, hbb, hap, rfl⟩
  · refine run_call (check_new (upd_same _ _ _) ?_)
    have f := first rfl rfl
    simp (disch := first | assumption | (apply Ap.symm; assumption) | omega | decide | (simp only [Xd] <;> omega)) only [sndC, ac204, ↓Xa, Xb, Xc, ↓reduceIte, Nat.reduceLT, Nat.reduceEqDiff, Nat.reduceBEq, Nat.reduceLeDiff, Nat.reduceAdd, Nat.reduceMul] at f
    simp (disch := first | assumption | (apply Ap.symm; assumption) | omega | decide | (simp only [Xd] <;> omega)) only [↓Xa, Xb, Xc, ↓reduceIte, Nat.reduceLT, Nat.reduceEqDiff, Nat.reduceBEq, Nat.reduceLeDiff, Nat.reduceAdd, Nat.reduceMul]
    exact f
  · refine run_call (check_used (upd_same _ _ _) ?_)
    have f := first rfl rfl
    simp (disch := first | assumption | (apply Ap.symm; assumption) | omega | decide | (simp only [Xd] <;> omega)) only [sndC, ac204, ↓Xa, Xb, Xc, ↓reduceIte, Nat.reduceLT, Nat.reduceEqDiff, Nat.reduceBEq, Nat.reduceLeDiff, Nat.reduceAdd, Nat.reduceMul] at f
    simp (disch := first | assumption | (apply Ap.symm; assumption) | omega | decide | (simp only [Xd] <;> omega)) only [↓Xa, Xb, Xc, ↓reduceIte, Nat.reduceLT, Nat.reduceEqDiff, Nat.reduceBEq, Nat.reduceLeDiff, Nat.reduceAdd, Nat.reduceMul]
    exact f
  · refine run_call (check_used (v := .own bb l.length 0 l.length false) (by rw [upd_otherA (Ap.symm hap), upd_same]) ?_)
    simp (disch := first | assumption | (apply Ap.symm; assumption) | omega | decide | (simp only [Xd] <;> omega)) only [↓Xa, Xb, Xc, ↓reduceIte, Nat.reduceLT, Nat.reduceEqDiff, Nat.reduceBEq, Nat.reduceLeDiff, Nat.reduceAdd, Nat.reduceMul]
    refine app_S1 (upd_same _ _ _) hl ?_
    simp (disch := first | assumption | (apply Ap.symm; assumption) | omega | decide | (simp only [Xd] <;> omega)) only [len_Sx, rs204, ↓Xa, Xb, Xc, ↓reduceIte, Nat.reduceLT, Nat.reduceEqDiff, Nat.reduceBEq, Nat.reduceLeDiff, Nat.reduceAdd, Nat.reduceMul]
    refine SetR.now (k _ (.inr ⟨hne, bb, hbb, hap, ?_⟩))
    simp only [List.length_append]
theorem bstr_run {p : Nat} {l : List UInt8} {H0 H : AHeap} {K : AV → AHeap → Prop} (hb : bld p l H0 H) (hp : H0 p = none) (hl : l.length ≤ 70368744177664) (h0 : 0 < l.length) (k : ∀ H', Le H0 H' → K (Sx l) H') : Run Tryd.prog 205 [.ptr p 2 0] H K := by
  refine enter205 (by simp) ?_
  rcases hb with ⟨rfl, _⟩ | ⟨h1, bb, hbb, hap, rfl⟩
  · simp at h0
  · have hbl : (Bt l).length = l.length := Bt_len
    simp (disch := first | assumption | (apply Ap.symm; assumption) | omega | decide | (simp only [Xd] <;> omega)) only [ac205, h0, rs205, ↓Xa, Xb, Xc, ↓reduceIte, Nat.reduceLT, Nat.reduceEqDiff, Nat.reduceBEq, Nat.reduceLeDiff, Nat.reduceAdd, Nat.reduceMul]
    exact SetR.now (k _ (((Le.refl H0).updB hp).updB hbb))
end Go.Proofs.YtanchgkiomfhhaaDoor.Fw

/- What package limb computes: sums, differences, products, quotients by one limb. -/
namespace Go.Proofs.YtanchgkiomfhhaaDoor.Fw
set_option linter.unusedSimpArgs false
set_option linter.unusedVariables false
open Go Go.Proofs.YtanchgkiomfhhaaDoor.Ma
set_option maxRecDepth 20000

theorem add_tail {a b : List Nat} {ta tb : Bool} {H : AHeap} {Q : AV → AHeap → Prop} (hab : b.length ≤ a.length) (ha : Lim 4294967296 a) (hb : Lim 4294967296 b) (hl : a.length ≤ 1099511627776)
    (hq : Q (LS (digs 4294967296 (val 4294967296 a + val 4294967296 b)) true) H) : W Tryd.prog (hold (sndC (sndC ac186))) (retN rs186 Q) ⟨[], [(0, LS a ta), (1, LS b tb)], H⟩ := by
  simp (disch := first | assumption | (apply Ap.symm; assumption) | omega | decide | (simp only [Xd] <;> omega)) only [ac186, hold, sndC, ↓Xa, Xb, Xc, ↓reduceIte, Nat.reduceLT, Nat.reduceEqDiff, Nat.reduceBEq, Nat.reduceLeDiff, Nat.reduceAdd, Nat.reduceMul]
  refine newU_i fun o ho => ?_
  simp (disch := first | assumption | (apply Ap.symm; assumption) | omega | decide | (simp only [Xd] <;> omega)) only [↓Xa, Xb, Xc, ↓reduceIte, Nat.reduceLT, Nat.reduceEqDiff, Nat.reduceBEq, Nat.reduceLeDiff, Nat.reduceAdd, Nat.reduceMul]
  refine W_loop (fun p : Nat × Nat × List Nat => ⟨[], [(0, LS a ta), (1, LS b tb), (5, .own o (a.length + 1) 0 (a.length + 1) true), (6, .int .u64 p.2.1), (20, LS a ta), (21, .int .i64 a.length), (22, .int .i64 p.1)],
      H.upd o (some (.row 172 1 (U (p.2.2 ++ List.replicate (a.length + 1 - p.1) 0))))⟩)
    (fun p => p.1 ≤ a.length ∧ AddI a b p.1 p.2.1 p.2.2) (fun p => a.length - p.1) (0, 0, []) (Settle.now rfl) ⟨by simp, AddI.zero a b⟩ ?_
  rintro ⟨i, c, done⟩ ⟨h1, h2⟩
  dsimp only at h1 h2 ⊢
  have hdl := h2.1
  have hc := h2.2.2.1
  by_cases hi : i < a.length
  · have hx := ha.getD (by omega) i
    have hy := hb.getD (by omega) i
    by_cases hj : i < b.length
    · simp (disch := first | assumption | (apply Ap.symm; assumption) | omega | decide | (simp only [Xd] <;> omega)) only [hi, hj, ↓Xa, Xb, Xc, ↓reduceIte, Nat.reduceLT, Nat.reduceEqDiff, Nat.reduceBEq, Nat.reduceLeDiff, Nat.reduceAdd, Nat.reduceMul]
      refine Settle.now ⟨(i + 1, _, done ++ [_]), by dsimp only; omega, ⟨by dsimp only; omega, h2.step ha hb rfl⟩, ?_⟩
      rw [set_zeros' _ _ _ _ hdl (by omega)]
    · simp (disch := first | assumption | (apply Ap.symm; assumption) | omega | decide | (simp only [Xd] <;> omega)) only [hi, hj, ↓Xa, Xb, Xc, ↓reduceIte, Nat.reduceLT, Nat.reduceEqDiff, Nat.reduceBEq, Nat.reduceLeDiff, Nat.reduceAdd, Nat.reduceMul]
      have := getD_beyond (show b.length ≤ i by omega)
      refine Settle.now ⟨(i + 1, _, done ++ [_]), by dsimp only; omega, ⟨by dsimp only; omega, h2.step ha hb (s := c + a.getD i 0) (by omega)⟩, ?_⟩
      rw [set_zeros' _ _ _ _ hdl (by omega)]
  · obtain rfl : i = a.length := by omega
    simp (disch := first | assumption | (apply Ap.symm; assumption) | omega | decide | (simp only [Xd] <;> omega)) only [hi, ↓Xa, Xb, Xc, ↓reduceIte, Nat.reduceLT, Nat.reduceEqDiff, Nat.reduceBEq, Nat.reduceLeDiff, Nat.reduceAdd, Nat.reduceMul]
    refine Settle.now ?_
    simp (disch := first | assumption | (apply Ap.symm; assumption) | omega | decide | (simp only [Xd] <;> omega)) only [↓Xa, Xb, Xc, ↓reduceIte, Nat.reduceLT, Nat.reduceEqDiff, Nat.reduceBEq, Nat.reduceLeDiff, Nat.reduceAdd, Nat.reduceMul]
    rw [set_zeros _ _ _ _ hdl (by omega), show a.length + 1 - a.length - 1 = 0 by omega, List.replicate_zero, List.append_nil]
    refine trim_call (upd_same _ _ _) (by simp [hdl]) ?_
    simp (disch := first | assumption | (apply Ap.symm; assumption) | omega | decide | (simp only [Xd] <;> omega)) only [rs186, ↓Xa, Xb, Xc, ↓reduceIte, Nat.reduceLT, Nat.reduceEqDiff, Nat.reduceBEq, Nat.reduceLeDiff, Nat.reduceAdd, Nat.reduceMul]
    exact fin_tr ho (by simp [hdl]) (by rw [h2.end hab]; exact hq)

theorem add_fn {a b : List Nat} (ta tb : Bool) (ha : Lim 4294967296 a) (hb : Lim 4294967296 b) (hla : a.length ≤ 1099511627776) (hlb : b.length ≤ 1099511627776) : PFn Tryd.prog 186 [LS a ta, LS b tb] (LS (digs 4294967296 (val 4294967296 a + val 4294967296 b)) true) := by
  intro H Q hq
  refine enter186 (by simp) ?_
  rw [show ac186 = .seq (fstC ac186) (.seq (fstC (sndC ac186)) (hold (sndC (sndC ac186)))) from rfl]
  by_cases c : a.length < b.length
  · simp (disch := first | assumption | (apply Ap.symm; assumption) | omega | decide | (simp only [Xd] <;> omega)) only [c, fstC, sndC, ac186, ↓Xa, Xb, Xc, ↓reduceIte, Nat.reduceLT, Nat.reduceEqDiff, Nat.reduceBEq, Nat.reduceLeDiff, Nat.reduceAdd, Nat.reduceMul]
    exact add_tail (by omega) hb ha hlb (by rw [Nat.add_comm]; exact hq)
  · simp (disch := first | assumption | (apply Ap.symm; assumption) | omega | decide | (simp only [Xd] <;> omega)) only [c, fstC, sndC, ac186, ↓Xa, Xb, Xc, ↓reduceIte, Nat.reduceLT, Nat.reduceEqDiff, Nat.reduceBEq, Nat.reduceLeDiff, Nat.reduceAdd, Nat.reduceMul]
    exact add_tail (by omega) ha hb hla hq

theorem sub_fn {a b : List Nat} (ta tb : Bool) (ha : Lim 4294967296 a) (hb : Lim 4294967296 b) (hab : val 4294967296 b ≤ val 4294967296 a) (hl : a.length ≤ 1099511627776) (hlb : b.length ≤ 1099511627776) :
    PFn Tryd.prog 187 [LS a ta, LS b tb] (.tup [LS (digs 4294967296 (val 4294967296 a - val 4294967296 b)) true, .int .i64 ((0 : Nat) : Int)]) := by
  intro H Q hq
  refine enter187 (by simp) ?_
  simp (disch := first | assumption | (apply Ap.symm; assumption) | omega | decide | (simp only [Xd] <;> omega)) only [ac187, ↓Xa, Xb, Xc, ↓reduceIte, Nat.reduceLT, Nat.reduceEqDiff, Nat.reduceBEq, Nat.reduceLeDiff, Nat.reduceAdd, Nat.reduceMul]
  refine (cmp_fn ta tb ha hb).call ?_
  have hc : ∃ n : Nat, cmpZ (val 4294967296 a) (val 4294967296 b) = (n : Int) := by
    by_cases e : val 4294967296 b < val 4294967296 a
    · exact ⟨1, by simp [cmpZ, e, Nat.not_lt_of_lt e]⟩
    · exact ⟨0, by simp [cmpZ, show val 4294967296 a = val 4294967296 b by omega]⟩
  obtain ⟨n, hc⟩ := hc
  simp (disch := first | assumption | (apply Ap.symm; assumption) | omega | decide | (simp only [Xd] <;> omega)) only [hc, ↓Xa, Xb, Xc, ↓reduceIte, Nat.reduceLT, Nat.reduceEqDiff, Nat.reduceBEq, Nat.reduceLeDiff, Nat.reduceAdd, Nat.reduceMul]
  refine newU_i fun o ho => ?_
  simp (disch := first | assumption | (apply Ap.symm; assumption) | omega | decide | (simp only [Xd] <;> omega)) only [↓Xa, Xb, Xc, ↓reduceIte, Nat.reduceLT, Nat.reduceEqDiff, Nat.reduceBEq, Nat.reduceLeDiff, Nat.reduceAdd, Nat.reduceMul]
  refine W_loop (fun p : Nat × Nat × List Nat => ⟨[], [(1, LS b tb), (6, .own o a.length 0 a.length true), (7, .int .u64 p.2.1), (19, LS a ta), (20, .int .i64 a.length), (21, .int .i64 p.1)],
      H.upd o (some (.row 172 1 (U (p.2.2 ++ List.replicate (a.length - p.1) 0))))⟩)
    (fun p => p.1 ≤ a.length ∧ SubI a b p.1 p.2.1 p.2.2) (fun p => a.length - p.1) (0, 0, []) (Settle.now rfl) ⟨by simp, SubI.zero a b⟩ ?_
  rintro ⟨i, c, done⟩ ⟨h1, h2⟩
  dsimp only at h1 h2 ⊢
  have hdl := h2.1
  have hc := h2.2.2.1
  by_cases hi : i < a.length
  · have hx := ha.getD (by omega) i
    have hy := hb.getD (by omega) i
    by_cases hj : i < b.length
    · simp (disch := first | assumption | (apply Ap.symm; assumption) | omega | decide | (simp only [Xd] <;> omega)) only [hi, hj, ↓Xa, Xb, Xc, ↓reduceIte, Nat.reduceLT, Nat.reduceEqDiff, Nat.reduceBEq, Nat.reduceLeDiff, Nat.reduceAdd, Nat.reduceMul]
      refine Settle.now ⟨(i + 1, _, done ++ [_]), by dsimp only; omega, ⟨by dsimp only; omega, h2.step ha hb rfl rfl⟩, ?_⟩
      rw [set_zeros' _ _ _ _ hdl (by omega)]
    · simp (disch := first | assumption | (apply Ap.symm; assumption) | omega | decide | (simp only [Xd] <;> omega)) only [hi, hj, ↓Xa, Xb, Xc, ↓reduceIte, Nat.reduceLT, Nat.reduceEqDiff, Nat.reduceBEq, Nat.reduceLeDiff, Nat.reduceAdd, Nat.reduceMul]
      have := getD_beyond (show b.length ≤ i by omega)
      refine Settle.now ⟨(i + 1, _, done ++ [_]), by dsimp only; omega, ⟨by dsimp only; omega, h2.step ha hb (y := c) (by omega) rfl⟩, ?_⟩
      rw [set_zeros' _ _ _ _ hdl (by omega)]
  · obtain rfl : i = a.length := by omega
    simp (disch := first | assumption | (apply Ap.symm; assumption) | omega | decide | (simp only [Xd] <;> omega)) only [hi, ↓Xa, Xb, Xc, ↓reduceIte, Nat.reduceLT, Nat.reduceEqDiff, Nat.reduceBEq, Nat.reduceLeDiff, Nat.reduceAdd, Nat.reduceMul]
    refine Settle.now ?_
    simp (disch := first | assumption | (apply Ap.symm; assumption) | omega | decide | (simp only [Xd] <;> omega)) only [Nat.sub_self, List.replicate_zero, ↓Xa, Xb, Xc, ↓reduceIte, Nat.reduceLT, Nat.reduceEqDiff, Nat.reduceBEq, Nat.reduceLeDiff, Nat.reduceAdd, Nat.reduceMul]
    refine trim_call (upd_same _ _ _) hdl ?_
    simp (disch := first | assumption | (apply Ap.symm; assumption) | omega | decide | (simp only [Xd] <;> omega)) only [rs187, ↓Xa, Xb, Xc, ↓reduceIte, Nat.reduceLT, Nat.reduceEqDiff, Nat.reduceBEq, Nat.reduceLeDiff, Nat.reduceAdd, Nat.reduceMul]
    exact fin_tr2 ho hdl (by rw [h2.end ha hab]; exact hq)

theorem mul_fn {a b : List Nat} (ta tb : Bool) (ha : Lim 4294967296 a) (hb : Lim 4294967296 b) (hla : a.length ≤ 1099511627776) (hlb : b.length ≤ 1099511627776) :
    PFn Tryd.prog 171 [LS a ta, LS b tb] (LS (digs 4294967296 (val 4294967296 a * val 4294967296 b)) true) := by
  intro H Q hq
  refine enter171 (by simp) ?_
  simp (disch := first | assumption | (apply Ap.symm; assumption) | omega | decide | (simp only [Xd] <;> omega)) only [ac171, ↓Xa, Xb, Xc, ↓reduceIte, Nat.reduceLT, Nat.reduceEqDiff, Nat.reduceBEq, Nat.reduceLeDiff, Nat.reduceAdd, Nat.reduceMul]
  refine newU_i fun o ho => ?_
  simp (disch := first | assumption | (apply Ap.symm; assumption) | omega | decide | (simp only [Xd] <;> omega)) only [↓Xa, Xb, Xc, ↓reduceIte, Nat.reduceLT, Nat.reduceEqDiff, Nat.reduceBEq, Nat.reduceLeDiff, Nat.reduceAdd, Nat.reduceMul]
  refine W_loop (fun p : Nat × List Nat => ⟨[], [(1, LS b tb), (5, .own o (a.length + b.length) 0 (a.length + b.length) true), (17, LS a ta), (18, .int .i64 a.length), (19, .int .i64 p.1)],
      H.upd o (some (.row 172 1 (U p.2)))⟩)
    (fun p => p.1 ≤ a.length ∧ MulI a b p.1 p.2) (fun p => a.length - p.1) (0, List.replicate (a.length + b.length) 0) (Settle.now rfl) ⟨by simp, MulI.zero a b⟩ ?_
  rintro ⟨i, out⟩ ⟨h1, h2⟩
  dsimp only at h1 h2 ⊢
  have hol := h2.1
  by_cases hi : i < a.length
  · simp (disch := first | assumption | (apply Ap.symm; assumption) | omega | decide | (simp only [Xd] <;> omega)) only [hi, ↓Xa, Xb, Xc, ↓reduceIte, Nat.reduceLT, Nat.reduceEqDiff, Nat.reduceBEq, Nat.reduceLeDiff, Nat.reduceAdd, Nat.reduceMul]
    refine W_loop (fun p : Nat × Nat × List Nat => ⟨[], [(1, LS b tb), (5, .own o (a.length + b.length) 0 (a.length + b.length) true), (6, .int .i64 i), (7, .int .u32 (a.getD i 0 : Nat)), (8, .int .u64 p.2.1), (17, LS a ta), (18, .int .i64 a.length), (19, .int .i64 i), (24, LS b tb), (25, .int .i64 b.length), (26, .int .i64 p.1)],
      H.upd o (some (.row 172 1 (U p.2.2)))⟩)
      (fun p => p.1 ≤ b.length ∧ MulK a b i p.1 p.2.1 p.2.2) (fun p => b.length - p.1) (0, 0, out) (Settle.now rfl) ⟨by simp, MulK.start h2⟩ ?_
    rintro ⟨k, c, out⟩ ⟨g1, g2⟩
    dsimp only at g1 g2 ⊢
    have gol := g2.1
    have gc := g2.2.2.1
    have hx := ha.getD (by omega) i
    by_cases hk : k < b.length
    · have hy := hb.getD (by omega) k
      have ho := g2.2.1.getD (by omega) (i + k)
      have hm : a.getD i 0 * b.getD k 0 ≤ 4294967295 * 4294967295 := Nat.mul_le_mul (by omega) (by omega)
      simp (disch := first | assumption | (apply Ap.symm; assumption) | omega | decide | (simp only [Xd] <;> omega)) only [hk, ↓Xa, Xb, Xc, ↓reduceIte, Nat.reduceLT, Nat.reduceEqDiff, Nat.reduceBEq, Nat.reduceLeDiff, Nat.reduceAdd, Nat.reduceMul]
      refine Settle.now ⟨(k + 1, _, _), by dsimp only; omega, ⟨by dsimp only; omega, g2.step hi hk ha hb rfl⟩, rfl⟩
    · obtain rfl : k = b.length := by omega
      simp (disch := first | assumption | (apply Ap.symm; assumption) | omega | decide | (simp only [Xd] <;> omega)) only [hk, ↓Xa, Xb, Xc, ↓reduceIte, Nat.reduceLT, Nat.reduceEqDiff, Nat.reduceBEq, Nat.reduceLeDiff, Nat.reduceAdd, Nat.reduceMul]
      refine Settle.now ?_
      simp (disch := first | assumption | (apply Ap.symm; assumption) | omega | decide | (simp only [Xd] <;> omega)) only [↓Xa, Xb, Xc, ↓reduceIte, Nat.reduceLT, Nat.reduceEqDiff, Nat.reduceBEq, Nat.reduceLeDiff, Nat.reduceAdd, Nat.reduceMul]
      refine Settle.now ⟨(i + 1, _), by dsimp only; omega, ⟨by dsimp only; omega, g2.end hi⟩, rfl⟩
  · obtain rfl : i = a.length := by omega
    simp (disch := first | assumption | (apply Ap.symm; assumption) | omega | decide | (simp only [Xd] <;> omega)) only [hi, ↓Xa, Xb, Xc, ↓reduceIte, Nat.reduceLT, Nat.reduceEqDiff, Nat.reduceBEq, Nat.reduceLeDiff, Nat.reduceAdd, Nat.reduceMul]
    refine Settle.now ?_
    simp (disch := first | assumption | (apply Ap.symm; assumption) | omega | decide | (simp only [Xd] <;> omega)) only [↓Xa, Xb, Xc, ↓reduceIte, Nat.reduceLT, Nat.reduceEqDiff, Nat.reduceBEq, Nat.reduceLeDiff, Nat.reduceAdd, Nat.reduceMul]
    refine trim_call (upd_same _ _ _) hol ?_
    simp (disch := first | assumption | (apply Ap.symm; assumption) | omega | decide | (simp only [Xd] <;> omega)) only [rs171, ↓Xa, Xb, Xc, ↓reduceIte, Nat.reduceLT, Nat.reduceEqDiff, Nat.reduceBEq, Nat.reduceLeDiff, Nat.reduceAdd, Nat.reduceMul]
    exact fin_tr ho hol (by rw [h2.end]; exact hq)

theorem divsmall_fn {a : List Nat} {d : Nat} (ta : Bool) (ha : Lim 4294967296 a) (hd : 0 < d) (hd' : d < 4294967296) (hla : a.length ≤ 1099511627776) :
    PFn Tryd.prog 212 [LS a ta, .int .u32 (d : Nat)] (.tup [LS (digs 4294967296 (val 4294967296 a / d)) true, .int .u32 ((val 4294967296 a % d : Nat) : Int), .int .i64 ((0 : Nat) : Int)]) := by
  intro H Q hq
  refine enter212 (by simp) ?_
  have hne : (d = 0) = False := by simp; omega
  simp (disch := first | assumption | (apply Ap.symm; assumption) | omega | decide | (simp only [Xd] <;> omega)) only [ac212, hne, ↓Xa, Xb, Xc, ↓reduceIte, Nat.reduceLT, Nat.reduceEqDiff, Nat.reduceBEq, Nat.reduceLeDiff, Nat.reduceAdd, Nat.reduceMul]
  refine newU_i fun o ho => ?_
  simp (disch := first | assumption | (apply Ap.symm; assumption) | omega | decide | (simp only [Xd] <;> omega)) only [↓Xa, Xb, Xc, ↓reduceIte, Nat.reduceLT, Nat.reduceEqDiff, Nat.reduceBEq, Nat.reduceLeDiff, Nat.reduceAdd, Nat.reduceMul]
  refine W_loop (fun p : Nat × Nat × List Nat => ⟨[], [(0, LS a ta), (1, .int .u32 (d : Nat)), (7, .own o a.length 0 a.length true), (8, .int .u64 p.2.1), (9, .int .i64 (dn p.1))],
      H.upd o (some (.row 172 1 (U p.2.2)))⟩)
    (fun p => p.1 ≤ a.length ∧ DivI a d p.1 p.2.1 p.2.2) (fun p => p.1) (a.length, 0, List.replicate a.length 0) (Settle.now rfl) ⟨by simp, DivI.zero a hd⟩ ?_
  rintro ⟨k, r, out⟩ ⟨h1, h2⟩
  dsimp only at h1 h2 ⊢
  have hol := h2.1
  have hr := h2.2.2.1
  cases k with
  | zero =>
    simp (disch := first | assumption | (apply Ap.symm; assumption) | omega | decide | (simp only [Xd] <;> omega)) only [↓Xa, Xb, Xc, ↓reduceIte, Nat.reduceLT, Nat.reduceEqDiff, Nat.reduceBEq, Nat.reduceLeDiff, Nat.reduceAdd, Nat.reduceMul]
    refine Settle.now ?_
    simp (disch := first | assumption | (apply Ap.symm; assumption) | omega | decide | (simp only [Xd] <;> omega)) only [↓Xa, Xb, Xc, ↓reduceIte, Nat.reduceLT, Nat.reduceEqDiff, Nat.reduceBEq, Nat.reduceLeDiff, Nat.reduceAdd, Nat.reduceMul]
    refine trim_call (upd_same _ _ _) hol ?_
    simp (disch := first | assumption | (apply Ap.symm; assumption) | omega | decide | (simp only [Xd] <;> omega)) only [rs212, ↓Xa, Xb, Xc, ↓reduceIte, Nat.reduceLT, Nat.reduceEqDiff, Nat.reduceBEq, Nat.reduceLeDiff, Nat.reduceAdd, Nat.reduceMul]
    rw [h2.end.2]
    exact fin_tr3 ho hol (by rw [h2.end.1]; exact hq)
  | succ k =>
    have hx := ha.getD (by omega) k
    have hs : r * 2 ^ 32 + a.getD k 0 < 18446744073709551616 := by omega
    have hq : (r * 2 ^ 32 + a.getD k 0) / d < 18446744073709551616 := Nat.lt_of_le_of_lt (Nat.div_le_self _ _) hs
    simp (disch := first | assumption | (apply Ap.symm; assumption) | omega | decide | (simp only [Xd] <;> omega)) only [hne, ne_eq, ↓Xa, Xb, Xc, ↓reduceIte, Nat.reduceLT, Nat.reduceEqDiff, Nat.reduceBEq, Nat.reduceLeDiff, Nat.reduceAdd, Nat.reduceMul]
    refine Settle.now ⟨(k, _, _), by dsimp only; omega, ⟨by dsimp only; omega, h2.step (by omega) ha hd' rfl⟩, rfl⟩
end Go.Proofs.YtanchgkiomfhhaaDoor.Fw

/- A number's decimal text, as package limb writes it. -/
namespace Go.Proofs.YtanchgkiomfhhaaDoor.Fw
set_option linter.unusedSimpArgs false
set_option linter.unusedVariables false
open Go Go.Proofs.YtanchgkiomfhhaaDoor.Ma
set_option maxRecDepth 20000

theorem bld_drop {p q : Nat} {l : List UInt8} {H0 H : AHeap} {x : ABlk} (h : bld p l (H0.upd q (some x)) H) (hqp : Ap q p) (hq : H0 q = none) : ∃ H', bld p l H0 H' ∧ Le H' H := by
  have up : ∀ {M : AHeap} {r : Option ABlk}, M = (H0.upd q (some x)).upd p r → Le (H0.upd p r) M := fun {M r} e => by
    rw [e, upd_comm _ _ _ hqp]
    exact (Le.refl _).updB (by rw [upd_otherA hqp]; exact hq)
  rcases h with ⟨rfl, rfl | rfl⟩ | ⟨h0, bb, hbb, hap, rfl⟩
  · exact ⟨_, .inl ⟨rfl, .inl rfl⟩, up rfl⟩
  · exact ⟨_, .inl ⟨rfl, .inr rfl⟩, up rfl⟩
  · obtain ⟨a1, a2⟩ := upd_none.1 hbb
    refine ⟨_, .inr ⟨h0, bb, a2, hap, rfl⟩, ?_⟩
    rw [upd_comm _ _ _ hqp, upd_comm (b := q) (b' := bb) _ _ _ (Ap.symm a1)]
    exact (Le.refl _).updB (by rw [upd_otherA (Ap.symm a1), upd_otherA hqp]; exact hq)
theorem stP_Bt {H : AHeap} {K2 : AV → AHeap → Prop} {b L off ty es c : Nat} {l : List UInt8} (hL : l.length = L) (h : off < L) (hc : c < 256) : stP H 1 b L off K2 (some [.int .u8 (c : Int)]) (some (.row ty es (Bt l))) = K2 .bot (H.upd b (some (.row ty es (Bt (l.set off (UInt8.ofNat c)))))) := by
  subst hL
  have h1 : off + 1 ≤ l.length := h
  have e : splice (Bt l) off [.int .u8 (c : Int)] = Bt (l.set off (UInt8.ofNat c)) := by
    have e2 : (AV.int .u8 (c : Int)) = .int .u8 (((UInt8.ofNat c).toNat : Nat) : Int) := by
      rw [UInt8.toNat_ofNat', Nat.mod_eq_of_lt hc]
    rw [e2]
    unfold splice Bt
    rw [List.map_set, List.set_eq_take_append_cons_drop]
    simp [h]
  simp [stP, Bt_len, h1, e]
def TxI (p j : Nat) (cells : List UInt8) (x : Nat) : Prop := j ≤ 9 ∧ cells = List.replicate j 0 ++ wide (9 - j) (p % 10 ^ (9 - j)) ∧ x = p / 10 ^ (9 - j)
theorem TxI.len {p j x : Nat} {cells : List UInt8} (h : TxI p j cells x) : cells.length = 9 := by
  obtain ⟨h1, rfl, _⟩ := h
  rw [List.length_append, List.length_replicate, wide_len (Nat.mod_lt _ (Nat.pow_pos (by omega)))]; omega
theorem TxI.step {p j x : Nat} {cells : List UInt8} (h : TxI p (j + 1) cells x) : TxI p j (cells.set j (UInt8.ofNat (48 + x % 10))) (x / 10) := by
  obtain ⟨h1, rfl, rfl⟩ := h
  have e9 : 9 - j = (9 - (j + 1)) + 1 := by omega
  refine ⟨by omega, ?_, ?_⟩
  · rw [e9, wide_step]
    rw [List.replicate_succ', List.append_assoc, List.set_append_right _ _ (by simp)]
    simp [chr]
  · rw [e9, Nat.pow_succ, Nat.div_div_eq_div_mul]

theorem text_fn {l : List Nat} (t : Bool) (hl : Lim 4294967296 l) (hn : l.length ≤ 1099511627776) : PFn Tryd.prog 190 [LS l t] (Sx (decT (val 4294967296 l))) := by
  intro H Q hq
  have hP : (2 : Nat) ≤ 1000000000 := by omega
  refine enter190 (by simp) ?_
  simp (disch := first | assumption | (apply Ap.symm; assumption) | omega | decide | (simp only [Xd] <;> omega)) only [ac190, str_Sx, ↓Xa, Xb, Xc, ↓reduceIte, Nat.reduceLT, Nat.reduceEqDiff, Nat.reduceBEq, Nat.reduceLeDiff, Nat.reduceAdd, Nat.reduceMul]
  refine (norm_fn t (by omega)).call ?_
  rw [tr_digs (by omega) hl]
  have hN : val 4294967296 l < 4294967296 ^ l.length := val_lt hl
  have hp2 : (digs 1000000000 (val 4294967296 l)).length ≤ 2 * l.length := digs_len hP _ _ (Nat.lt_of_lt_of_le hN (by rw [Nat.pow_mul]; exact Nat.pow_le_pow_left (by omega) _))
  have hdl : (dec (val 4294967296 l)).length ≤ 10 * l.length := dec_len (Nat.lt_of_lt_of_le hN (by rw [Nat.pow_mul]; exact Nat.pow_le_pow_left (by omega) _))
  generalize hNe : val 4294967296 l = N at *
  simp (disch := first | assumption | (apply Ap.symm; assumption) | omega | decide | (simp only [Xd] <;> omega)) only [↓Xa, Xb, Xc, ↓reduceIte, Nat.reduceLT, Nat.reduceEqDiff, Nat.reduceBEq, Nat.reduceLeDiff, Nat.reduceAdd, Nat.reduceMul]
  refine W_loop (fun s : List Nat × AV × AHeap × Nat => ⟨[], [(3, s.2.1), (4, LS (digs 4294967296 s.2.2.2) true)], s.2.2.1⟩) (fun s => grow H 172 s.1 s.2.1 s.2.2.1 ∧ digs 1000000000 N = s.1 ++ digs 1000000000 s.2.2.2 ∧ s.2.2.2 ≤ N) (fun s => s.2.2.2)
    ([], .seq 0 [] true, H, N) (Settle.now rfl) ⟨grow_nil, rfl, Nat.le_refl _⟩ ?_
  rintro ⟨done, x, G, n⟩ ⟨hg, he, hle⟩
  dsimp only at hg he hle ⊢
  have hdn : (digs 4294967296 n).length ≤ l.length := digs_len (by omega) _ _ (Nat.lt_of_le_of_lt hle (hNe ▸ hN))
  have hz := digs_len0 (B := 4294967296) (n := n) (by omega)
  by_cases hn0 : n = 0
  · have h1 : (digs 4294967296 n).length = 0 := by rw [hz]; exact hn0
    simp (disch := first | assumption | (apply Ap.symm; assumption) | omega | decide | (simp only [Xd] <;> omega)) only [h1, ↓Xa, Xb, Xc, ↓reduceIte, Nat.reduceLT, Nat.reduceEqDiff, Nat.reduceBEq, Nat.reduceLeDiff, Nat.reduceAdd, Nat.reduceMul]
    refine Settle.grown 3 rfl hg (Settle.now ?_)
    rw [hn0, digs_zero, List.append_nil] at he
    subst he
    have hlim := lim_digs hP N
    have hdig := fun k p => piece_step (n := N) (k := k) (p := p)
    have hv : val 1000000000 (digs 1000000000 N) = N := val_digs hP N
    have hlast := digs_last (B := 1000000000) (n := N) hP
    have hnil := digs_len0 (B := 1000000000) (n := N) hP
    generalize digs 1000000000 N = ps at *
    by_cases hp0 : ps.length = 0
    · rw [hnil] at hp0
      have hL : ps.length = 0 := by rw [hnil]; exact hp0
      simp (disch := first | assumption | (apply Ap.symm; assumption) | omega | decide | (simp only [Xd] <;> omega)) only [hL, str_Sx, rs190, ↓Xa, Xb, Xc, ↓reduceIte, Nat.reduceLT, Nat.reduceEqDiff, Nat.reduceBEq, Nat.reduceLeDiff, Nat.reduceAdd, Nat.reduceMul]
      have e : decT N = [48] := by rw [hp0]; rfl
      rw [e] at hq
      exact SetR.now hq
    · have hN0 : 0 < N := by rcases Nat.eq_zero_or_pos N with h | h
                             · exact absurd (hnil ▸ h) hp0
                             · exact h
      have eT : decT N = dec N := by unfold decT; rw [if_neg (by omega)]
      rw [eT] at hq
      obtain ⟨L, hL⟩ : ∃ L, ps.length = L + 1 := ⟨ps.length - 1, by omega⟩
      have hLp : (0 < L + 1) = True := by simp
      have hL0 : (L + 1 = 0) = False := by simp
      simp (disch := first | assumption | (apply Ap.symm; assumption) | omega | decide | (simp only [Xd] <;> omega)) only [hL, hL0, ↓Xa, Xb, Xc, ↓reduceIte, Nat.reduceLT, Nat.reduceEqDiff, Nat.reduceBEq, Nat.reduceLeDiff, Nat.reduceAdd, Nat.reduceMul]
      refine alloc_i fun p hp => ?_
      simp (disch := first | assumption | (apply Ap.symm; assumption) | omega | decide | (simp only [Xd] <;> omega)) only [hL, dn_succ, ↓Xa, Xb, Xc, ↓reduceIte, Nat.reduceLT, Nat.reduceEqDiff, Nat.reduceBEq, Nat.reduceLeDiff, Nat.reduceAdd, Nat.reduceMul]
      refine W_atH fun M0 hM0 => ?_
      refine W_loop (fun s : Nat × AHeap => ⟨[], [(3, LS ps false), (8, .ptr p 2 0), (9, .int .i64 (dn s.1))], s.2⟩) (fun s => s.1 ≤ ps.length ∧ bld p (dec (val 1000000000 (ps.drop s.1))) H s.2) (fun s => s.1) (L + 1, M0) (Settle.now rfl) ⟨by dsimp only; omega, ?_⟩ ?_
      · dsimp only
        rw [List.drop_of_length_le (by omega), show val 1000000000 [] = 0 from rfl, dec_zero, hM0]
        exact bld_new
      rintro ⟨k, M⟩ ⟨hk, hb⟩
      dsimp only at hk hb ⊢
      cases k with
      | zero =>
        simp (disch := first | assumption | (apply Ap.symm; assumption) | omega | decide | (simp only [Xd] <;> omega)) only [dn_zero, ↓Xa, Xb, Xc, ↓reduceIte, Nat.reduceLT, Nat.reduceEqDiff, Nat.reduceBEq, Nat.reduceLeDiff, Nat.reduceAdd, Nat.reduceMul]
        refine Settle.now ?_
        rw [List.drop_zero, hv] at hb
        simp (disch := first | assumption | (apply Ap.symm; assumption) | omega | decide | (simp only [Xd] <;> omega)) only [↓Xa, Xb, Xc, ↓reduceIte, Nat.reduceLT, Nat.reduceEqDiff, Nat.reduceBEq, Nat.reduceLeDiff, Nat.reduceAdd, Nat.reduceMul]
        have hd0 : 0 < (dec N).length := List.length_pos_iff.2 (dec_pos hN0)
        refine run_call (bstr_run hb hp (by omega) hd0 fun H' hH' => ?_)
        simp (disch := first | assumption | (apply Ap.symm; assumption) | omega | decide | (simp only [Xd] <;> omega)) only [rs190, ↓Xa, Xb, Xc, ↓reduceIte, Nat.reduceLT, Nat.reduceEqDiff, Nat.reduceBEq, Nat.reduceLeDiff, Nat.reduceAdd, Nat.reduceMul]
        exact SetR.dropTo hH' (SetR.now hq)
      | succ k =>
        obtain ⟨hlt, hstep⟩ := hdig k _ (by omega) rfl
        have hlt2 : ps.getD k 0 < 1000000000 := hlt
        simp (disch := first | assumption | (apply Ap.symm; assumption) | omega | decide | (simp only [Xd] <;> omega)) only [dn_succ, hL, ↓Xa, Xb, Xc, ↓reduceIte, Nat.reduceLT, Nat.reduceEqDiff, Nat.reduceBEq, Nat.reduceLeDiff, Nat.reduceAdd, Nat.reduceMul]
        refine alloc_i fun q hq' => ?_
        generalize hpk : ps.getD k 0 = pk at *
        simp (disch := first | assumption | (apply Ap.symm; assumption) | omega | decide | (simp only [Xd] <;> omega)) only [hpk, dn_succ, hL, ↓Xa, Xb, Xc, ↓reduceIte, Nat.reduceLT, Nat.reduceEqDiff, Nat.reduceBEq, Nat.reduceLeDiff, Nat.reduceAdd, Nat.reduceMul]
        refine W_loop (fun s : Nat × List UInt8 × Nat => ⟨[], [(3, LS ps false), (8, .ptr p 2 0), (9, .int .i64 (k : Nat)), (10, .ptr q 9 0), (11, .int .u32 (s.2.2 : Nat)), (12, .int .i64 (dn s.1))], M.upd q (some (.row 248 1 (Bt s.2.1)))⟩)
          (fun s => TxI pk s.1 s.2.1 s.2.2) (fun s => s.1) (9, List.replicate 9 0, pk) (Settle.now rfl) ⟨Nat.le_refl _, by simp [wide, pad, digs_zero, Nat.mod_one], by simp⟩ ?_
        rintro ⟨j, cells, x⟩ hx
        dsimp only at hx ⊢
        have hcl := hx.len
        have hx32 : x < 4294967296 := by
          have := hx.2.2
          have := Nat.div_le_self pk (10 ^ (9 - j))
          omega
        cases j with
        | zero =>
          have ecells : cells = wide 9 pk := by
            rw [hx.2.1]; simp [Nat.mod_eq_of_lt hlt2]
          have htk : (Bt cells).take 9 = Bt cells := List.take_of_length_le (by rw [Bt_len]; omega)
          have hbl : (Bt cells).length = 9 := by rw [Bt_len]; exact hcl
          simp (disch := first | assumption | (apply Ap.symm; assumption) | omega | decide | (simp only [Xd] <;> omega)) only [dn_zero, ↓Xa, Xb, Xc, ↓reduceIte, Nat.reduceLT, Nat.reduceEqDiff, Nat.reduceBEq, Nat.reduceLeDiff, Nat.reduceAdd, Nat.reduceMul]
          refine Settle.now ?_
          simp (disch := first | assumption | (apply Ap.symm; assumption) | omega | decide | (simp only [Xd] <;> omega)) only [htk, str_Sx, hL, dn_succ, ↓Xa, Xb, Xc, ↓reduceIte, Nat.reduceLT, Nat.reduceEqDiff, Nat.reduceBEq, Nat.reduceLeDiff, Nat.reduceAdd, Nat.reduceMul]
          refine ⟨by decide, ?_⟩
          obtain ⟨a1, a2, w0⟩ := bld_upd (x := .row 248 1 (Bt cells)) hb hq'
          have fin : ∀ (m : List UInt8) (M' : AHeap), bld p (dec (val 1000000000 (ps.drop (k + 1))) ++ m) (H.upd q (some (.row 248 1 (Bt cells)))) M' → dec (val 1000000000 (ps.drop k)) = dec (val 1000000000 (ps.drop (k + 1))) ++ m →
              Settle (fun s' => ∃ x' : Nat × AHeap, x'.1 < k + 1 ∧ (x'.1 ≤ L + 1 ∧ bld p (dec (val 1000000000 (ps.drop x'.1))) H x'.2) ∧ s' = ⟨[], [(3, LS ps false), (8, .ptr p 2 0), (9, .int .i64 (dn x'.1))], x'.2⟩) ⟨[], [(3, LS ps false), (8, .ptr p 2 0), (9, .int .i64 (dn k))], M'⟩ := fun m M' hb' e => by
            obtain ⟨M'', h1, h2⟩ := bld_drop hb' a1 a2
            exact Settle.dropTo h2 (Settle.now ⟨(k, M''), Nat.lt_succ_self k, ⟨by dsimp only; omega, by dsimp only; rw [e]; exact h1⟩, rfl⟩)
          have hbd : (dec (val 1000000000 (ps.drop (k + 1)))).length ≤ 9 * ps.length := by
            refine dec_len (Nat.lt_of_lt_of_le (val_lt (hlim.drop (k + 1))) ?_)
            rw [show (1000000000 : Nat) = 10 ^ 9 from rfl, ← Nat.pow_mul]
            exact Nat.pow_le_pow_right (by omega) (Nat.mul_le_mul_left _ (by simp))
          by_cases hkL : k = L
          · rw [if_pos (by omega)] at hstep
            have hpk0 : pk ≠ 0 := by
              have := hlast hN0
              rwa [hL, Nat.add_sub_cancel, ← hkL, hpk] at this
            have hm0 : 0 < (dec pk).length := List.length_pos_iff.2 (dec_pos (by omega))
            have hm9 : (dec pk).length ≤ 9 := dec_len (k := 9) hlt2
            have hd1 : decide (k = L + 1 - 1) = true := by simp [hkL]
            simp (disch := first | assumption | (apply Ap.symm; assumption) | omega | decide | (simp only [Xd] <;> omega)) only [hd1, ↓Xa, Xb, Xc, ↓reduceIte, Nat.reduceLT, Nat.reduceEqDiff, Nat.reduceBEq, Nat.reduceLeDiff, Nat.reduceAdd, Nat.reduceMul]
            refine (trimL_fn (c := 48) (l := cells) (by omega) (by decide)).call ?_
            rw [ecells, wide_trim, ← ecells]
            simp (disch := first | assumption | (apply Ap.symm; assumption) | omega | decide | (simp only [Xd] <;> omega)) only [↓Xa, Xb, Xc, ↓reduceIte, Nat.reduceLT, Nat.reduceEqDiff, Nat.reduceBEq, Nat.reduceLeDiff, Nat.reduceAdd, Nat.reduceMul]
            refine run_call (wstr_run w0 (by omega) hm0 fun M' hM' => ?_)
            simp (disch := first | assumption | (apply Ap.symm; assumption) | omega | decide | (simp only [Xd] <;> omega)) only [↓Xa, Xb, Xc, ↓reduceIte, Nat.reduceLT, Nat.reduceEqDiff, Nat.reduceBEq, Nat.reduceLeDiff, Nat.reduceAdd, Nat.reduceMul]
            exact fin _ _ hM' hstep
          · rw [if_neg (by omega)] at hstep
            rw [← ecells] at hstep
            have hd1 : decide (k = L + 1 - 1) = false := by simp [hkL]
            simp (disch := first | assumption | (apply Ap.symm; assumption) | omega | decide | (simp only [Xd] <;> omega)) only [hd1, ↓Xa, Xb, Xc, ↓reduceIte, Nat.reduceLT, Nat.reduceEqDiff, Nat.reduceBEq, Nat.reduceLeDiff, Nat.reduceAdd, Nat.reduceMul]
            refine run_call (wstr_run w0 (by omega) (by omega) fun M' hM' => ?_)
            simp (disch := first | assumption | (apply Ap.symm; assumption) | omega | decide | (simp only [Xd] <;> omega)) only [↓Xa, Xb, Xc, ↓reduceIte, Nat.reduceLT, Nat.reduceEqDiff, Nat.reduceBEq, Nat.reduceLeDiff, Nat.reduceAdd, Nat.reduceMul]
            exact fin _ _ hM' hstep
        | succ j =>
          have hj : j < 9 := by have := hx.1; omega
          have hbl : (Bt cells).length = 9 := by rw [Bt_len]; exact hcl
          have hd : x % 10 < 10 := Nat.mod_lt _ (by omega)
          simp (disch := first | assumption | (apply Ap.symm; assumption) | omega | decide | (simp only [Xd] <;> omega)) only [dn_succ, stP_Bt, ↓Xa, Xb, Xc, ↓reduceIte, Nat.reduceLT, Nat.reduceEqDiff, Nat.reduceBEq, Nat.reduceLeDiff, Nat.reduceAdd, Nat.reduceMul]
          exact ⟨by omega, by omega, Settle.now ⟨(j, _, x / 10), Nat.lt_succ_self j, hx.step, rfl⟩⟩
  · have h1 : 0 < (digs 4294967296 n).length := by
      have : ¬ (digs 4294967296 n).length = 0 := by rw [hz]; exact hn0
      omega
    simp (disch := first | assumption | (apply Ap.symm; assumption) | omega | decide | (simp only [Xd] <;> omega)) only [h1, ↓Xa, Xb, Xc, ↓reduceIte, Nat.reduceLT, Nat.reduceEqDiff, Nat.reduceBEq, Nat.reduceLeDiff, Nat.reduceAdd, Nat.reduceMul]
    refine (divsmall_fn (d := 1000000000) true (lim_digs (by omega) n) (by omega) (by omega) (by omega)).call ?_
    rw [val_digs (by omega)]
    simp (disch := first | assumption | (apply Ap.symm; assumption) | omega | decide | (simp only [Xd] <;> omega)) only [↓Xa, Xb, Xc, ↓reduceIte, Nat.reduceLT, Nat.reduceEqDiff, Nat.reduceBEq, Nat.reduceLeDiff, Nat.reduceAdd, Nat.reduceMul]
    have hlen := congrArg List.length he
    rw [List.length_append] at hlen
    refine app_grow (m := [n % 1000000000]) hg rfl (by simp) (by simp; omega) fun x' H2 hg2 => ?_
    simp (disch := first | assumption | (apply Ap.symm; assumption) | omega | decide | (simp only [Xd] <;> omega)) only [↓Xa, Xb, Xc, ↓reduceIte, Nat.reduceLT, Nat.reduceEqDiff, Nat.reduceBEq, Nat.reduceLeDiff, Nat.reduceAdd, Nat.reduceMul]
    refine Settle.now ⟨(done ++ [n % 1000000000], x', H2, n / 1000000000), Nat.div_lt_self (by omega) (by omega), ⟨hg2, ?_, Nat.le_trans (Nat.div_le_self _ _) hle⟩, rfl⟩
    dsimp only
    rw [he, digs_pos hP (show 0 < n by omega), List.append_assoc]; rfl
end Go.Proofs.YtanchgkiomfhhaaDoor.Fw

/- Binary digits of limbs. -/
namespace Go.Proofs.YtanchgkiomfhhaaDoor.Fw
set_option linter.unusedSimpArgs false
set_option linter.unusedVariables false
open Go Go.Proofs.YtanchgkiomfhhaaDoor.Ma
set_option maxRecDepth 20000

end Go.Proofs.YtanchgkiomfhhaaDoor.Fw

/- What package limb computes: shifts. -/
namespace Go.Proofs.YtanchgkiomfhhaaDoor.Fw
set_option linter.unusedSimpArgs false
set_option linter.unusedVariables false
open Go Go.Proofs.YtanchgkiomfhhaaDoor.Ma
set_option maxRecDepth 20000

end Go.Proofs.YtanchgkiomfhhaaDoor.Fw

/- What package limb computes: a quotient's digit. -/
namespace Go.Proofs.YtanchgkiomfhhaaDoor.Fw
set_option linter.unusedSimpArgs false
set_option linter.unusedVariables false
open Go Go.Proofs.YtanchgkiomfhhaaDoor.Ma
set_option maxRecDepth 20000

section
variable {H : AHeap} {b ty off L n : Nat} {ti : Bool} {pre u post : List Nat}
def scC : ACode → ACode
  | .scope0 c => c
  | x => x
end
end Go.Proofs.YtanchgkiomfhhaaDoor.Fw

/- What package limb computes: quotients and remainders. -/
namespace Go.Proofs.YtanchgkiomfhhaaDoor.Fw
set_option linter.unusedSimpArgs false
set_option linter.unusedVariables false
open Go Go.Proofs.YtanchgkiomfhhaaDoor.Ma
set_option maxRecDepth 20000

end Go.Proofs.YtanchgkiomfhhaaDoor.Fw

/- The laws' first question: are numbers added, multiplied, divided, told? -/
namespace Go.Proofs.YtanchgkiomfhhaaDoor.Fw
set_option linter.unusedSimpArgs false
set_option linter.unusedVariables false
open Go Go.Proofs.YtanchgkiomfhhaaDoor.Ma
set_option maxRecDepth 20000

end Go.Proofs.YtanchgkiomfhhaaDoor.Fw

/- What package limb computes, in terms of numbers. -/
namespace Go.Proofs.YtanchgkiomfhhaaDoor.Fw
set_option linter.unusedSimpArgs false
set_option linter.unusedVariables false
open Go Go.Proofs.YtanchgkiomfhhaaDoor.Ma
set_option maxRecDepth 20000

structure Nm (l : List Nat) (n k : Nat) : Prop where
  lim : Lim 4294967296 l
  val : val 4294967296 l = n
  len : l.length ≤ k
theorem Nm.lt {l : List Nat} {n k : Nat} (h : Nm l n k) : n < 4294967296 ^ k := by
  rw [← h.val]; exact Nat.lt_of_lt_of_le (val_lt h.lim) (Nat.pow_le_pow_right (by omega) h.len)
theorem Nm.digs {n k : Nat} (h : n < 4294967296 ^ k) : Nm (digs 4294967296 n) n k := ⟨lim_digs (by omega) n, val_digs (by omega) n, digs_len (by omega) k n h⟩
theorem Nm.raw {l : List Nat} {k : Nat} (h : Lim 4294967296 l) (hk : l.length ≤ k) : Nm l (Ma.val 4294967296 l) k := ⟨h, rfl, hk⟩
theorem Nm.mono {l : List Nat} {n k k' : Nat} (h : Nm l n k) (hk : k ≤ k') : Nm l n k' := ⟨h.lim, h.val, Nat.le_trans h.len hk⟩
theorem lt_mul {m n k k' : Nat} (h : m < 4294967296 ^ k) (h' : n < 4294967296 ^ k') : m * n < 4294967296 ^ (k + k') := by
  rw [Nat.pow_add]; exact Nat.mul_lt_mul_of_lt_of_lt h h'
theorem add_n {a b : List Nat} {m n k k' : Nat} (ta tb : Bool) (ha : Nm a m k) (hb : Nm b n k') (hk : k ≤ 1000000) (hk' : k' ≤ 1000000) : PFn Tryd.prog 186 [LS a ta, LS b tb] (LS (Ma.digs 4294967296 (m + n)) true) := by
  have := add_fn ta tb ha.lim hb.lim (Nat.le_trans ha.len (by omega)) (Nat.le_trans hb.len (by omega))
  rwa [ha.val, hb.val] at this
theorem mul_n {a b : List Nat} {m n k k' : Nat} (ta tb : Bool) (ha : Nm a m k) (hb : Nm b n k') (hk : k ≤ 1000000) (hk' : k' ≤ 1000000) : PFn Tryd.prog 171 [LS a ta, LS b tb] (LS (Ma.digs 4294967296 (m * n)) true) := by
  have := mul_fn ta tb ha.lim hb.lim (Nat.le_trans ha.len (by omega)) (Nat.le_trans hb.len (by omega))
  rwa [ha.val, hb.val] at this
end Go.Proofs.YtanchgkiomfhhaaDoor.Fw

/- The law of quotients and remainders of limbs, without the reference, as what its code computes: true. -/
namespace Go.Proofs.YtanchgkiomfhhaaDoor.Fw
set_option linter.unusedSimpArgs false
set_option linter.unusedVariables false
open Go Go.Proofs.YtanchgkiomfhhaaDoor.Ma
set_option maxRecDepth 20000

theorem Nm.one {c : Nat} (h : c < 4294967296) : Nm [c] c 1 := ⟨Lim.one h, val_one _ _, Nat.le_refl _⟩
theorem muls_n {a : List Nat} {m k c : Nat} (ta : Bool) (ha : Nm a m k) (hk : k ≤ 1000000) (hc : c < 4294967296) : PFn Tryd.prog 214 [LS a ta, .int .u32 (c : Nat)] (LS (Ma.digs 4294967296 (m * c)) true) := by
  intro H Q hq
  refine enter214 (by simp) ?_
  simp (disch := first | assumption | (apply Ap.symm; assumption) | omega | decide | (simp only [Xd] <;> omega)) only [ac214, ↓Xa, Xb, Xc, ↓reduceIte, Nat.reduceLT, Nat.reduceEqDiff, Nat.reduceBEq, Nat.reduceLeDiff, Nat.reduceAdd, Nat.reduceMul]
  refine (mul_n (b := [c]) ta true ha (Nm.one hc) hk (by omega)).call ?_
  simp (disch := first | assumption | (apply Ap.symm; assumption) | omega | decide | (simp only [Xd] <;> omega)) only [rs214, ↓Xa, Xb, Xc, ↓reduceIte, Nat.reduceLT, Nat.reduceEqDiff, Nat.reduceBEq, Nat.reduceLeDiff, Nat.reduceAdd, Nat.reduceMul]
  exact SetR.now hq
end Go.Proofs.YtanchgkiomfhhaaDoor.Fw

/- The number of a decimal text, and back. -/
namespace Go.Proofs.YtanchgkiomfhhaaDoor.Ma
set_option linter.unusedSimpArgs false
set_option linter.unusedVariables false

def decF (v : Nat) (l : List UInt8) : Nat := l.foldl (fun v b => 10 * v + (b.toNat - 48)) v
def decV (l : List UInt8) : Nat := decF 0 l
theorem decF_eq : ∀ (l : List UInt8) (v : Nat), decF v l = 10 ^ l.length * v + decV l
  | [], v => by simp [decF, decV]
  | b :: l, v => by
    have h1 := decF_eq l (10 * v + (b.toNat - 48))
    have h2 := decF_eq l (10 * 0 + (b.toNat - 48))
    have e1 : decF v (b :: l) = decF (10 * v + (b.toNat - 48)) l := rfl
    have e2 : decV (b :: l) = decF (10 * 0 + (b.toNat - 48)) l := rfl
    rw [e1, e2, h1, h2, List.length_cons, Nat.pow_succ]
    grind
theorem decV_app (l m : List UInt8) : decV (l ++ m) = 10 ^ m.length * decV l + decV m := by
  have : decV (l ++ m) = decF (decV l) m := by simp only [decV, decF, List.foldl_append]
  rw [this, decF_eq]
theorem decV_one (b : UInt8) : decV [b] = b.toNat - 48 := by simp [decV, decF]
theorem decV_chr : ∀ {l : List Nat}, Lim 10 l → decV (l.reverse.map chr) = val 10 l
  | [], _ => rfl
  | x :: l, h => by
    rw [List.reverse_cons, List.map_append, decV_app, decV_chr h.tail, List.map_singleton, decV_one, chr_nat h.head]
    simp [val]; omega
theorem decV_dec (n : Nat) : decV (dec n) = n := by
  unfold dec; rw [decV_chr (lim_digs (by omega) n), val_digs (by omega)]
theorem decV_decT (n : Nat) : decV (decT n) = n := by
  unfold decT
  split
  · subst_vars; rfl
  · exact decV_dec n
theorem decF_lt : ∀ {l : List UInt8} {v : Nat}, (∀ b, b ∈ l → b.toNat ≤ 57) → decF v l < 10 ^ l.length * (v + 1)
  | [], v, _ => by simp [decF]
  | b :: l, v, h => by
    have h1 := decF_lt (l := l) (v := 10 * v + (b.toNat - 48)) fun x hx => h x (List.mem_cons_of_mem _ hx)
    have h2 := h b List.mem_cons_self
    have e1 : decF v (b :: l) = decF (10 * v + (b.toNat - 48)) l := rfl
    rw [e1]
    refine Nat.lt_of_lt_of_le h1 ?_
    rw [List.length_cons, Nat.pow_succ, Nat.mul_assoc]
    exact Nat.mul_le_mul_left _ (by omega)
theorem decV_lt {l : List UInt8} (h : ∀ b, b ∈ l → b.toNat ≤ 57) : decV l < 10 ^ l.length := by
  have := decF_lt (v := 0) h
  simpa [decV] using this
def isDig (b : UInt8) : Prop := 48 ≤ b.toNat ∧ b.toNat ≤ 57
def Good (l : List UInt8) : Prop := l ≠ [] ∧ (∀ b, b ∈ l → isDig b) ∧ (l.length = 1 ∨ (l.getD 0 0).toNat ≠ 48)
theorem decT_decV {l : List UInt8} (h : Good l) : decT (decV l) = l := by
  obtain ⟨h0, h1, h2⟩ := h
  obtain ⟨ds, hds⟩ : ∃ ds : List Nat, ds = l.reverse.map fun b => b.toNat - 48 := ⟨_, rfl⟩
  have hlim : Lim 10 ds := by
    intro x hx
    rw [hds] at hx
    obtain ⟨b, hb, rfl⟩ := List.mem_map.1 hx
    have := h1 b (List.mem_reverse.1 hb)
    unfold isDig at this; omega
  have hl : l = ds.reverse.map chr := by
    have hr : ds.reverse = l.map fun b => b.toNat - 48 := by rw [hds, ← List.map_reverse, List.reverse_reverse]
    rw [hr, List.map_map]
    conv => lhs; rw [← List.map_id l]
    apply List.map_congr_left
    intro b hb
    have := h1 b hb
    unfold isDig at this
    apply UInt8.toNat_inj.1
    show b.toNat = (chr (b.toNat - 48)).toNat
    rw [chr_nat (by omega)]; omega
  have hv : decV l = val 10 ds := by
    conv => lhs; rw [hl]
    exact decV_chr hlim
  obtain ⟨b, r, hbr⟩ : ∃ b r, l = b :: r := List.exists_cons_of_ne_nil h0
  have hb := h1 b (by rw [hbr]; simp)
  unfold isDig at hb
  have htop : ds = (r.reverse.map fun b => b.toNat - 48) ++ [b.toNat - 48] := by
    rw [hds, hbr, List.reverse_cons, List.map_append]; rfl
  by_cases hb0 : b.toNat = 48
  · rcases h2 with h2 | h2
    · have hr : r = [] := by rw [hbr] at h2; simpa using h2
      have hz : val 10 ds = 0 := by rw [htop, hr, hb0]; rfl
      rw [hv, hz, hbr, hr]
      show [48] = [b]
      rw [show b = 48 from UInt8.toNat_inj.1 hb0]
    · rw [hbr] at h2; exact absurd hb0 h2
  · have hd : ds = digs 10 (val 10 ds) := digs_of (by omega) hlim (.inr (by rw [htop, last_append (by simp)]; simp; omega))
    have hp : val 10 ds ≠ 0 := fun e => by
      rw [e, digs_zero, htop] at hd; simp at hd
    rw [hv]
    unfold decT dec
    rw [if_neg hp, ← hd, ← hl]
theorem good_decT (n : Nat) : Good (decT n) := by
  unfold decT
  split
  · exact ⟨by simp, by simp [isDig], .inl rfl⟩
  · rename_i h
    have hn : 0 < n := by omega
    refine ⟨dec_pos hn, fun b hb => ?_, .inr ?_⟩
    · unfold dec at hb
      obtain ⟨x, hx, rfl⟩ := List.mem_map.1 hb
      have := lim_digs (B := 10) (by omega) n x (List.mem_reverse.1 hx)
      unfold isDig; rw [chr_nat this]; omega
    · have hl := digs_last (B := 10) (by omega) hn
      have hne : digs 10 n ≠ [] := fun e => by have := (digs_nil (B := 10) (by omega)).1 e; omega
      obtain ⟨l, x, hx⟩ : ∃ l x, digs 10 n = l ++ [x] := ⟨_, _, (List.dropLast_concat_getLast hne).symm⟩
      have hx0 : x ≠ 0 := by
        rw [hx, last_append (by simp)] at hl
        simpa using hl
      have hx10 : x < 10 := lim_digs (B := 10) (by omega) n x (by rw [hx]; simp)
      have : dec n = chr x :: l.reverse.map chr := by simp [dec, hx]
      rw [this]
      show (chr x).toNat ≠ 48
      rw [chr_nat hx10]; omega
def badAt (l : List UInt8) (i : Nat) : Prop := (l.getD i 0).toNat < 48 ∨ 57 < (l.getD i 0).toNat ∨ (0 < i ∧ (l.getD 0 0).toNat = 48)
theorem good_of {l : List UInt8} (h0 : l ≠ []) (h : ∀ i, i < l.length → ¬ badAt l i) : Good l := by
  refine ⟨h0, fun b hb => ?_, ?_⟩
  · obtain ⟨i, hi, rfl⟩ := List.getElem_of_mem hb
    have := h i hi
    unfold badAt at this
    rw [List.getD_eq_getElem?_getD, List.getElem?_eq_getElem hi, Option.getD_some] at this
    unfold isDig; omega
  · by_cases hl : l.length = 1
    · exact .inl hl
    · right
      have hp : 0 < l.length := List.length_pos_iff.2 h0
      have := h 1 (by omega)
      unfold badAt at this; omega
theorem bad_of_good {l : List UInt8} (h : Good l) {i : Nat} (hi : i < l.length) : ¬ badAt l i := by
  obtain ⟨h0, h1, h2⟩ := h
  have := h1 _ (List.getElem_mem hi)
  unfold badAt isDig at *
  rw [List.getD_eq_getElem?_getD, List.getElem?_eq_getElem hi, Option.getD_some]
  omega
end Go.Proofs.YtanchgkiomfhhaaDoor.Ma

/- A text read, as package limb reads it. -/
namespace Go.Proofs.YtanchgkiomfhhaaDoor.Fw
set_option linter.unusedSimpArgs false
set_option linter.unusedVariables false
open Go Go.Proofs.YtanchgkiomfhhaaDoor.Ma
set_option maxRecDepth 20000

def spot (e a : Nat) : AV := .agg [.int .i64 (e : Int), .int .i64 (a : Int)]
theorem cells_spot {e a : Nat} : (spot e a).cells = some [.int .i64 (e : Int), .int .i64 (a : Int)] := id rfl
theorem cells_i2 {k k' : IntKind} {a b : Int} : (AV.agg [.int k a, .int k' b]).cells = some [.int k a, .int k' b] := id rfl
theorem min_k {a b : Nat} {K : AV → Prop} : maxW false (.int .i64 (a : Int)) (.int .i64 (b : Int)) K ↔ K (.int .i64 ((min a b : Nat) : Int)) := by
  have : (if (b : Int) < (a : Int) then (b : Int) else (a : Int)) = ((min a b : Nat) : Int) := by split <;> omega
  simp only [maxW, true_and, Bool.false_eq_true, if_false, this]
theorem rng_Sx {H : AHeap} {l : List UInt8} {K : AV → AHeap → Prop} : rngW H (Sx l) K = rngS H ⟨l.toArray⟩ K := id rfl
theorem byte_Sx {l : List UInt8} {i : Nat} : byteAt ⟨l.toArray⟩ i = (l.getD i 0).toNat := by simp [byteAt]
theorem nxt_Sl {H : AHeap} {b pos : Nat} {l : List UInt8} {K : AV → AHeap → Prop} (h : pos < l.length) (hb : (l.getD pos 0).toNat < 128) : nxtP H b K (some (.raw (.stringIter ⟨l.toArray⟩ pos))) = K (.tup [.bool true, .int .i64 (pos : Int), .int .i32 (((l.getD pos 0).toNat : Nat) : Int)]) (H.upd b (some (.raw (.stringIter ⟨l.toArray⟩ (pos + 1))))) := by
  rw [nxt_lt (by rw [size_Sx]; exact h) (by rw [byte_Sx]; exact hb), byte_Sx]
theorem nxt_Sg {H : AHeap} {b pos : Nat} {l : List UInt8} {K : AV → AHeap → Prop} (h : l.length ≤ pos) : nxtP H b K (some (.raw (.stringIter ⟨l.toArray⟩ pos))) = K (.tup [.bool false]) H := nxt_ge (by rw [size_Sx]; exact h)
theorem wn_i32 {n : Nat} (h : n < 2147483648) : IntKind.i32.wrap (n : Int) = (n : Int) := by
  unfold IntKind.wrap; simp only [IntKind.bits, IntKind.signed, Bool.true_and, decide_eq_true_eq, ge_iff_le]; split <;> omega
theorem ten_b {n m : Nat} (h : 4 * n ≤ 32 * m) : 10 ^ n ≤ 4294967296 ^ m := by
  have h1 : 10 ^ n ≤ 16 ^ n := Nat.pow_le_pow_left (by omega) n
  have h2 : (16 : Nat) ^ n = 2 ^ (4 * n) := by rw [Nat.pow_mul]
  have h3 : (4294967296 : Nat) ^ m = 2 ^ (32 * m) := by rw [Nat.pow_mul]
  rw [h3]
  exact Nat.le_trans h1 (by rw [h2]; exact Nat.pow_le_pow_right (by omega) h)
theorem ten_bound {n : Nat} (h : n ≤ 65536) : 10 ^ n ≤ 4294967296 ^ 8192 := ten_b (m := 8192) (by omega)
def ReadR (l : List UInt8) (r : AV) : Prop :=
  (65536 < l.length ∧ r = .tup [LS [] true, spot 3 65536]) ∨ (l = [] ∧ r = .tup [LS [] true, spot 6 0]) ∨
  (l.length ≤ 65536 ∧ ∃ i, i < l.length ∧ badAt l i ∧ (∀ j, j < i → ¬ badAt l j) ∧ r = .tup [LS [] true, spot 6 i]) ∨
  (l.length ≤ 65536 ∧ Good l ∧ r = .tup [LS (Ma.digs 4294967296 (decV l)) true, spot 0 0])
theorem readR_fn {l : List UInt8} {r r' : AV} (h : ReadR l r) (h' : ReadR l r') : r = r' := by
  have nb : ∀ {i}, Good l → i < l.length → badAt l i → False := fun g hi hb => bad_of_good g hi hb
  have ne : Good l → l = [] → False := fun g e => g.1 e
  rcases h with ⟨a, rfl⟩ | ⟨a, rfl⟩ | ⟨a, i, b, c, d, rfl⟩ | ⟨a, b, rfl⟩ <;> rcases h' with ⟨a', rfl⟩ | ⟨a', rfl⟩ | ⟨a', i', b', c', d', rfl⟩ | ⟨a', b', rfl⟩ <;>
    first
    | rfl
    | (exfalso; omega)
    | (subst a; simp at a'; done)
    | (subst a'; simp at a; done)
    | (subst a; simp at b'; done)
    | (subst a'; simp at b; done)
    | exact (ne ‹_› ‹_›).elim
    | exact (nb ‹_› ‹_› ‹_›).elim
    | (have : i = i' := by
        rcases Nat.lt_trichotomy i i' with h | h | h
        · exact absurd c (d' i h)
        · exact h
        · exact absurd c' (d i' h)
       rw [this])
theorem read_fn {l : List UInt8} {r : AV} (hr : ReadR l r) (hsz : l.length < 9223372036854775808) : PFn Tryd.prog 202 [Sx l] r := by
  intro H Q hq
  have out : ∀ {r'}, ReadR l r' → Q r' H := fun h => by rw [readR_fn h hr]; exact hq
  refine enter202 (by simp) ?_
  simp (disch := first | assumption | (apply Ap.symm; assumption) | omega | decide | (simp only [Xd] <;> omega)) only [ac202, ↓Xa, Xb, Xc, ↓reduceIte, Nat.reduceLT, Nat.reduceEqDiff, Nat.reduceBEq, Nat.reduceLeDiff, Nat.reduceAdd, Nat.reduceMul]
  refine alloc_i fun p1 hp1 => ?_
  have n1 := hp1
  have fin : ∀ {r' : AV} {x : Option ABlk}, ReadR l r' → SetR Q r' (H.upd p1 x) := fun h => SetR.dropTo ((Le.refl H).updB n1) (SetR.now (out h))
  by_cases h1 : 65536 < l.length
  · simp (disch := first | assumption | (apply Ap.symm; assumption) | omega | decide | (simp only [Xd] <;> omega)) only [len_Sx, h1, cells_i2, rs202, ↓Xa, Xb, Xc, ↓reduceIte, Nat.reduceLT, Nat.reduceEqDiff, Nat.reduceBEq, Nat.reduceLeDiff, Nat.reduceAdd, Nat.reduceMul]
    exact fin (.inl ⟨h1, rfl⟩)
  by_cases h2 : l = []
  · simp (disch := first | assumption | (apply Ap.symm; assumption) | omega | decide | (simp only [Xd] <;> omega)) only [len_Sx, str_Sx, eql_Sx, h2, rs202, List.length_nil, ↓Xa, Xb, Xc, ↓reduceIte, Nat.reduceLT, Nat.reduceEqDiff, Nat.reduceBEq, Nat.reduceLeDiff, Nat.reduceAdd, Nat.reduceMul]
    exact fin (.inr (.inl ⟨h2, rfl⟩))
  have hpos : 0 < l.length := List.length_pos_iff.2 h2
  simp (disch := first | assumption | (apply Ap.symm; assumption) | omega | decide | (simp only [Xd] <;> omega)) only [len_Sx, str_Sx, eql_Sx, h1, h2, ↓Xa, Xb, Xc, ↓reduceIte, Nat.reduceLT, Nat.reduceEqDiff, Nat.reduceBEq, Nat.reduceLeDiff, Nat.reduceAdd, Nat.reduceMul]
  refine W_loop (fun i : Nat => ⟨[], [(0, Sx l), (3, .ptr p1 2 0), (19, .int .i64 (l.length : Nat)), (20, .int .i64 (i : Nat))], H.upd p1 (some (.row 105 0 [.int .i64 ((0 : Nat) : Int), .int .i64 ((0 : Nat) : Int)]))⟩) (fun i => i ≤ l.length ∧ ∀ j, j < i → ¬ badAt l j) (fun i => l.length - i) 0 (Settle.now rfl) ⟨by simp, fun j h => by omega⟩ ?_
  rintro i ⟨hi1, hi2⟩
  by_cases hi : i < l.length
  · have bad : badAt l i → SetR Q (.tup [LS [] true, spot 6 i]) (H.upd p1 (some (.row 105 0 [.int .i64 ((6 : Nat) : Int), .int .i64 (i : Int)]))) := fun hb => fin (.inr (.inr (.inl ⟨by omega, i, hi, hb, hi2, rfl⟩)))
    have step : ¬ badAt l i → ∀ j, j < i + 1 → ¬ badAt l j := fun hb j hj => by
      by_cases e : j = i
      · rw [e]; exact hb
      · exact hi2 j (by omega)
    by_cases c1 : (l.getD i 0).toNat < 48
    · simp (disch := first | assumption | (apply Ap.symm; assumption) | omega | decide | (simp only [Xd] <;> omega)) only [hi, idx_Sx, c1, cells_i2, rs202, ↓Xa, Xb, Xc, ↓reduceIte, Nat.reduceLT, Nat.reduceEqDiff, Nat.reduceBEq, Nat.reduceLeDiff, Nat.reduceAdd, Nat.reduceMul]
      exact bad (.inl c1)
    by_cases c2 : 57 < (l.getD i 0).toNat
    · simp (disch := first | assumption | (apply Ap.symm; assumption) | omega | decide | (simp only [Xd] <;> omega)) only [hi, idx_Sx, c1, c2, cells_i2, rs202, ↓Xa, Xb, Xc, ↓reduceIte, Nat.reduceLT, Nat.reduceEqDiff, Nat.reduceBEq, Nat.reduceLeDiff, Nat.reduceAdd, Nat.reduceMul]
      exact bad (.inr (.inl c2))
    by_cases c3 : 0 < i
    · by_cases c4 : (l.getD 0 0).toNat = 48
      · simp (disch := first | assumption | (apply Ap.symm; assumption) | omega | decide | (simp only [Xd] <;> omega)) only [hi, idx_Sx, c1, c2, c3, c4, cells_i2, rs202, ↓Xa, Xb, Xc, ↓reduceIte, Nat.reduceLT, Nat.reduceEqDiff, Nat.reduceBEq, Nat.reduceLeDiff, Nat.reduceAdd, Nat.reduceMul]
        exact bad (.inr (.inr ⟨c3, c4⟩))
      · simp (disch := first | assumption | (apply Ap.symm; assumption) | omega | decide | (simp only [Xd] <;> omega)) only [hi, idx_Sx, c1, c2, c3, c4, ↓Xa, Xb, Xc, ↓reduceIte, Nat.reduceLT, Nat.reduceEqDiff, Nat.reduceBEq, Nat.reduceLeDiff, Nat.reduceAdd, Nat.reduceMul]
        exact Settle.now ⟨i + 1, by omega, ⟨by omega, step (by unfold badAt; omega)⟩, rfl⟩
    · simp (disch := first | assumption | (apply Ap.symm; assumption) | omega | decide | (simp only [Xd] <;> omega)) only [hi, idx_Sx, c1, c2, c3, ↓Xa, Xb, Xc, ↓reduceIte, Nat.reduceLT, Nat.reduceEqDiff, Nat.reduceBEq, Nat.reduceLeDiff, Nat.reduceAdd, Nat.reduceMul]
      exact Settle.now ⟨i + 1, by omega, ⟨by omega, step (by unfold badAt; omega)⟩, rfl⟩
  · have hg : Good l := good_of h2 fun j hj => hi2 j (by omega)
    simp (disch := first | assumption | (apply Ap.symm; assumption) | omega | decide | (simp only [Xd] <;> omega)) only [hi, ↓Xa, Xb, Xc, ↓reduceIte, Nat.reduceLT, Nat.reduceEqDiff, Nat.reduceBEq, Nat.reduceLeDiff, Nat.reduceAdd, Nat.reduceMul]
    refine Settle.now ?_
    simp (disch := first | assumption | (apply Ap.symm; assumption) | omega | decide | (simp only [Xd] <;> omega)) only [↓Xa, Xb, Xc, ↓reduceIte, Nat.reduceLT, Nat.reduceEqDiff, Nat.reduceBEq, Nat.reduceLeDiff, Nat.reduceAdd, Nat.reduceMul]
    have hdig : ∀ b, b ∈ l → b.toNat ≤ 57 := fun b hb => (hg.2.1 b hb).2
    refine W_loop (fun s : List UInt8 × Nat => ⟨[], [(0, Sx s.1), (3, .ptr p1 2 0), (5, LS (Ma.digs 4294967296 s.2) true)], H.upd p1 (some (.row 105 0 [.int .i64 ((0 : Nat) : Int), .int .i64 ((0 : Nat) : Int)]))⟩) (fun s => ∃ d, l = d ++ s.1 ∧ s.2 = decV d) (fun s => s.1.length) (l, 0) (Settle.now (by rw [digs_zero]; rfl)) ⟨[], by simp, rfl⟩ ?_
    rintro ⟨m, v⟩ ⟨d, hd1, hd2⟩
    dsimp only at hd1 hd2 ⊢
    have hlen : l.length = d.length + m.length := by rw [hd1, List.length_append]
    cases m with
    | nil =>
      rw [List.append_nil] at hd1
      simp (disch := first | assumption | (apply Ap.symm; assumption) | omega | decide | (simp only [Xd] <;> omega)) only [len_Sx, List.length_nil, ↓Xa, Xb, Xc, ↓reduceIte, Nat.reduceLT, Nat.reduceEqDiff, Nat.reduceBEq, Nat.reduceLeDiff, Nat.reduceAdd, Nat.reduceMul]
      refine Settle.now ?_
      simp (disch := first | assumption | (apply Ap.symm; assumption) | omega | decide | (simp only [Xd] <;> omega)) only [cells_i2, rs202, ↓Xa, Xb, Xc, ↓reduceIte, Nat.reduceLT, Nat.reduceEqDiff, Nat.reduceBEq, Nat.reduceLeDiff, Nat.reduceAdd, Nat.reduceMul]
      rw [hd2, ← hd1]
      exact fin (.inr (.inr (.inr ⟨by omega, hg, rfl⟩)))
    | cons x m =>
      generalize hm : x :: m = y at *
      have hy0 : 0 < y.length := by rw [← hm]; simp
      simp (disch := first | assumption | (apply Ap.symm; assumption) | omega | decide | (simp only [Xd] <;> omega)) only [len_Sx, hy0, min_k, slc_SxH, rng_Sx, ↓Xa, Xb, Xc, ↓reduceIte, Nat.reduceLT, Nat.reduceEqDiff, Nat.reduceBEq, Nat.reduceLeDiff, Nat.reduceAdd, Nat.reduceMul]
      refine rng_i fun q hq' => ?_
      obtain ⟨a1, a2⟩ := upd_none.1 hq'
      obtain ⟨n, hn⟩ : ∃ n, n = min y.length 9 := ⟨_, rfl⟩
      rw [← hn]
      obtain ⟨z, hz⟩ : ∃ z, z = y.take n := ⟨_, rfl⟩
      rw [← hz]
      have hzl : z.length = n := by rw [hz, List.length_take]; omega
      have hzd : ∀ b, b ∈ z → isDig b := fun b hb => hg.2.1 b (by rw [hd1]; exact List.mem_append_right _ (List.mem_of_mem_take (hz ▸ hb)))
      have p9 : ∀ k, k ≤ 9 → 10 ^ k ≤ 1000000000 := fun k hk => Nat.le_trans (Nat.pow_le_pow_right (by omega) hk) (by decide)
      simp (disch := first | assumption | (apply Ap.symm; assumption) | omega | decide | (simp only [Xd] <;> omega)) only [↓Xa, Xb, Xc, ↓reduceIte, Nat.reduceLT, Nat.reduceEqDiff, Nat.reduceBEq, Nat.reduceLeDiff, Nat.reduceAdd, Nat.reduceMul]
      refine W_loop (fun s : Nat => ⟨[], [(0, Sx y), (3, .ptr p1 2 0), (5, LS (Ma.digs 4294967296 v) true), (6, .int .i64 (n : Nat)), (7, .int .u32 ((decV (z.take s) : Nat) : Int)), (8, .int .u32 ((10 ^ s : Nat) : Int)), (54, .ptr q 0 0)],
        (H.upd p1 (some (.row 105 0 [.int .i64 ((0 : Nat) : Int), .int .i64 ((0 : Nat) : Int)]))).upd q (some (.raw (.stringIter ⟨z.toArray⟩ s)))⟩) (fun s => s ≤ n) (fun s => n - s) 0 (Settle.now rfl) (Nat.zero_le _) ?_
      intro i hin
      have hzt : ∀ k, ∀ b, b ∈ z.take k → b.toNat ≤ 57 := fun k b hb => (hzd b (List.mem_of_mem_take hb)).2
      have hvt : decV (z.take i) < 10 ^ i := by
        have := decV_lt (hzt i)
        rwa [List.length_take, Nat.min_eq_left (by omega)] at this
      by_cases hi2 : i < n
      · have hzi : i < z.length := by omega
        have hdg := hzd _ (List.getElem_mem hzi)
        have eg : z.getD i 0 = z[i] := by rw [List.getD_eq_getElem?_getD, List.getElem?_eq_getElem hzi, Option.getD_some]
        rw [← eg] at hdg
        unfold isDig at hdg
        have h128 : (z.getD i 0).toNat < 128 := by omega
        have h10 := p9 i (by omega)
        have h11 := p9 (i + 1) (by omega)
        have hsucc : decV (z.take (i + 1)) = 10 * decV (z.take i) + ((z.getD i 0).toNat - 48) := by
          have : z.take (i + 1) = z.take i ++ [z.getD i 0] := by
            rw [List.take_add_one, List.getElem?_eq_getElem hzi, eg]; rfl
          rw [this, decV_app, decV_one]; simp
        rw [Nat.pow_succ] at h11
        simp (disch := first | assumption | (apply Ap.symm; assumption) | omega | decide | (simp only [Xd] <;> omega)) only [nxt_Sl, wn_i32, ↓Xa, Xb, Xc, ↓reduceIte, Nat.reduceLT, Nat.reduceEqDiff, Nat.reduceBEq, Nat.reduceLeDiff, Nat.reduceAdd, Nat.reduceMul]
        refine Settle.now ⟨i + 1, by omega, by omega, ?_⟩
        rw [hsucc, Nat.pow_succ]
        done
      · obtain rfl : i = n := by omega
        rw [List.take_of_length_le (by omega)] at hvt ⊢
        have hge : z.length ≤ i := by omega
        simp (disch := first | assumption | (apply Ap.symm; assumption) | omega | decide | (simp only [Xd] <;> omega)) only [nxt_Sg, ↓Xa, Xb, Xc, ↓reduceIte, Nat.reduceLT, Nat.reduceEqDiff, Nat.reduceBEq, Nat.reduceLeDiff, Nat.reduceAdd, Nat.reduceMul]
        refine Settle.now ?_
        simp (disch := first | assumption | (apply Ap.symm; assumption) | omega | decide | (simp only [Xd] <;> omega)) only [↓Xa, Xb, Xc, ↓reduceIte, Nat.reduceLT, Nat.reduceEqDiff, Nat.reduceBEq, Nat.reduceLeDiff, Nat.reduceAdd, Nat.reduceMul]
        have hv : v < 4294967296 ^ 8192 := by
          rw [hd2]
          refine Nat.lt_of_lt_of_le (decV_lt fun b hb => hdig b (by rw [hd1]; exact List.mem_append_left _ hb)) ?_
          exact ten_bound (by omega)
        have h10 := p9 i (by omega)
        refine (muls_n true (Nm.digs hv) (by omega) (by omega)).call ?_
        simp (disch := first | assumption | (apply Ap.symm; assumption) | omega | decide | (simp only [Xd] <;> omega)) only [↓Xa, Xb, Xc, ↓reduceIte, Nat.reduceLT, Nat.reduceEqDiff, Nat.reduceBEq, Nat.reduceLeDiff, Nat.reduceAdd, Nat.reduceMul]
        refine (add_n (b := [decV z]) true true (Nm.digs (lt_mul hv (show 10 ^ i < 4294967296 ^ 1 by omega))) (Nm.one (by omega)) (by omega) (by omega)).call ?_
        simp (disch := first | assumption | (apply Ap.symm; assumption) | omega | decide | (simp only [Xd] <;> omega)) only [slc_SxL, ↓Xa, Xb, Xc, ↓reduceIte, Nat.reduceLT, Nat.reduceEqDiff, Nat.reduceBEq, Nat.reduceLeDiff, Nat.reduceAdd, Nat.reduceMul]
        refine Settle.dropTo ((Le.refl _).updB hq') (Settle.now ⟨(y.drop i, v * 10 ^ i + decV z), ?_, ⟨d ++ z, ?_, ?_⟩, rfl⟩)
        · dsimp only; rw [List.length_drop]; omega
        · dsimp only; rw [hd1, hz, List.append_assoc, List.take_append_drop]
        · dsimp only; rw [hd2, decV_app, hzl]; grind
end Go.Proofs.YtanchgkiomfhhaaDoor.Fw

/- A number's digits gone over, as package limb tells them. -/
namespace Go.Proofs.YtanchgkiomfhhaaDoor.Fw
set_option linter.unusedSimpArgs false
set_option linter.unusedVariables false
open Go Go.Proofs.YtanchgkiomfhhaaDoor.Ma
set_option maxRecDepth 20000

theorem cW_y {P : Program} {b : Nat} {args : List AV} {H : AHeap} {K : AV → AHeap → Prop} : callW P (.yld b) args H K = YieldW P b args H K := id rfl
theorem load_cS {H : AHeap} {l : List UInt8} {K : AV → Prop} : loadW H none (.cptr [Sx l]) K = K (Sx l) := by simp [loadW, cellsAt, Sx]
theorem digits1_iter {l : List UInt8} (hg : ∀ b, b ∈ l → isDig b) (hl : l.length < 4611686018427387904) : IterW Tryd.prog 191 [.cptr [Sx l]] (fun d : Nat => [.int .i64 (d : Int)]) (l.map fun b => b.toNat - 48) := by
  intro b J Jx hy A B hd h0
  refine enter191 (by simp) ?_
  simp (disch := first | assumption | (apply Ap.symm; assumption) | omega | decide | (simp only [Xd] <;> omega)) only [ac191, rng_Sx, load_cS, ↓Xa, Xb, Xc, ↓reduceIte, Nat.reduceLT, Nat.reduceEqDiff, Nat.reduceBEq, Nat.reduceLeDiff, Nat.reduceAdd, Nat.reduceMul]
  refine rng_i fun q hq => ?_
  obtain ⟨qa, qb⟩ := un_none.1 hq
  simp (disch := first | assumption | (apply Ap.symm; assumption) | omega | decide | (simp only [Xd] <;> omega)) only [↓Xa, Xb, Xc, ↓reduceIte, Nat.reduceLT, Nat.reduceEqDiff, Nat.reduceBEq, Nat.reduceLeDiff, Nat.reduceAdd, Nat.reduceMul]
  refine W_loop (fun s : Nat × AHeap => ⟨[], [(0, .yld b), (6, .ptr q 0 0)], (Un s.2 B).upd q (some (.raw (.stringIter ⟨l.toArray⟩ s.1)))⟩) (fun s => s.1 ≤ l.length ∧ Dj s.2 B ∧ s.2 q = none ∧ J ((l.map fun b => b.toNat - 48).take s.1) s.2) (fun s => l.length - s.1) (0, A) (Settle.now rfl) ⟨Nat.zero_le _, hd, qa, by simpa using h0⟩ ?_
  rintro ⟨i, A1⟩ ⟨hi, hd1, hq1, hj⟩
  dsimp only at hi hd1 hq1 hj ⊢
  by_cases h : i < l.length
  · have hdg := hg _ (List.getElem_mem h)
    have eg : l.getD i 0 = l[i] := by rw [List.getD_eq_getElem?_getD, List.getElem?_eq_getElem h, Option.getD_some]
    rw [← eg] at hdg
    unfold isDig at hdg
    have h128 : (l.getD i 0).toNat < 128 := by omega
    have hx : (l.map fun b => b.toNat - 48) = (l.map fun b => b.toNat - 48).take i ++ ((l.getD i 0).toNat - 48) :: (l.map fun b => b.toNat - 48).drop (i + 1) := by
      conv => lhs; rw [← List.take_append_drop i (l.map fun b => b.toNat - 48)]
      rw [List.drop_eq_getElem_cons (by simpa using h), List.getElem_map, eg]
    have hx2 : (l.map fun b => b.toNat - 48).take (i + 1) = (l.map fun b => b.toNat - 48).take i ++ [(l.getD i 0).toNat - 48] := by
      rw [List.take_add_one, List.getElem?_map, List.getElem?_eq_getElem h, eg]; rfl
    simp (disch := first | assumption | (apply Ap.symm; assumption) | omega | decide | (simp only [Xd] <;> omega)) only [nxt_Sl, wn_i32, cW_y, ↓Xa, Xb, Xc, ↓reduceIte, Nat.reduceLT, Nat.reduceEqDiff, Nat.reduceBEq, Nat.reduceLeDiff, Nat.reduceAdd, Nat.reduceMul]
    rw [← un_updR hq1]
    refine (hy _ _ _ A1 (B.upd q (some (.raw (.stringIter ⟨l.toArray⟩ (i + 1))))) hx (dj_updR hd1 hq1) hj).mono ?_
    rintro r H' ⟨A2, hd2, rfl, (⟨rfl, hj2⟩ | ⟨rfl, hj2⟩)⟩
    · have hq2 : A2 q = none := dj_atR hd2 (upd_same _ _ _)
      rw [un_updR hq2]
      simp (disch := first | assumption | (apply Ap.symm; assumption) | omega | decide | (simp only [Xd] <;> omega)) only [↓Xa, Xb, Xc, ↓reduceIte, Nat.reduceLT, Nat.reduceEqDiff, Nat.reduceBEq, Nat.reduceLeDiff, Nat.reduceAdd, Nat.reduceMul]
      refine Settle.keep [0, 6] ⟨(i + 1, A2), by dsimp only; omega, ⟨by dsimp only; omega, ?_, hq2, by dsimp only; rw [hx2]; exact hj2⟩, rfl⟩
      intro k
      by_cases e : k = q
      · subst e; exact .inl hq2
      · have := hd2 k
        rwa [upd_other _ _ e] at this
    · have hq2 : A2 q = none := dj_atR hd2 (upd_same _ _ _)
      have hd3 : Dj A2 B := fun k => by
        by_cases e : k = q
        · subst e; exact .inl hq2
        · have := hd2 k
          rwa [upd_other _ _ e] at this
      rw [un_updR hq2]
      simp (disch := first | assumption | (apply Ap.symm; assumption) | omega | decide | (simp only [Xd] <;> omega)) only [rs191, ↓Xa, Xb, Xc, ↓reduceIte, Nat.reduceLT, Nat.reduceEqDiff, Nat.reduceBEq, Nat.reduceLeDiff, Nat.reduceAdd, Nat.reduceMul]
      refine SetR.dropTo ((Le.refl _).upd (un_none.2 ⟨hq2, qb⟩)) (SetR.now ⟨A2, hd3, rfl, .inr hj2⟩)
  · obtain rfl : i = l.length := by omega
    simp (disch := first | assumption | (apply Ap.symm; assumption) | omega | decide | (simp only [Xd] <;> omega)) only [nxt_Sg, ↓Xa, Xb, Xc, ↓reduceIte, Nat.reduceLT, Nat.reduceEqDiff, Nat.reduceBEq, Nat.reduceLeDiff, Nat.reduceAdd, Nat.reduceMul]
    refine Settle.now ?_
    simp (disch := first | assumption | (apply Ap.symm; assumption) | omega | decide | (simp only [Xd] <;> omega)) only [rs191, ↓Xa, Xb, Xc, ↓reduceIte, Nat.reduceLT, Nat.reduceEqDiff, Nat.reduceBEq, Nat.reduceLeDiff, Nat.reduceAdd, Nat.reduceMul]
    rw [List.take_of_length_le (by simp)] at hj
    refine SetR.dropTo ((Le.refl _).upd (un_none.2 ⟨hq1, qb⟩)) (SetR.now ⟨A1, hd1, rfl, .inl hj⟩)
theorem digits_fn {l : List Nat} (t : Bool) (hl : Lim 4294967296 l) (hn : l.length ≤ 1099511627776) : PFn Tryd.prog 132 [LS l t] (.fn (.func 191) [] [.cptr [Sx (decT (val 4294967296 l))]]) := by
  intro H Q hq
  refine enter132 (by simp) ?_
  simp (disch := first | assumption | (apply Ap.symm; assumption) | omega | decide | (simp only [Xd] <;> omega)) only [ac132, ↓Xa, Xb, Xc, ↓reduceIte, Nat.reduceLT, Nat.reduceEqDiff, Nat.reduceBEq, Nat.reduceLeDiff, Nat.reduceAdd, Nat.reduceMul]
  refine (text_fn t hl hn).call ?_
  simp (disch := first | assumption | (apply Ap.symm; assumption) | omega | decide | (simp only [Xd] <;> omega)) only [↓Xa, Xb, Xc, ↓reduceIte, Nat.reduceLT, Nat.reduceEqDiff, Nat.reduceBEq, Nat.reduceLeDiff, Nat.reduceAdd, Nat.reduceMul]
  refine alloc_i fun p1 hp1 => ?_
  have n1 := hp1
  simp (disch := first | assumption | (apply Ap.symm; assumption) | omega | decide | (simp only [Xd] <;> omega)) only [cells_Sx, rs132, ↓Xa, Xb, Xc, ↓reduceIte, Nat.reduceLT, Nat.reduceEqDiff, Nat.reduceBEq, Nat.reduceLeDiff, Nat.reduceAdd, Nat.reduceMul]
  refine SetR.frzP p1 (upd_same _ _ _) ?_
  rw [upd_upd, upd_back _ n1]
  simp [frzP, frzP1]
  exact SetR.now hq
end Go.Proofs.YtanchgkiomfhhaaDoor.Fw
