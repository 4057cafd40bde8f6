/- The texts Ac Li Lj In Nb Sa Sb Sc Sd Lb, joined. -/
import Derived.Test.YtipbcjnniamcgaaDoorZ3
import Derived.Test.YtipbcjnniamcgaaDoorProg
/- The looked-up code of each function, and that it is: by a program (wip/tools/ac.py); Lean checks it. -/
namespace Go.Proofs.YtipbcjnniamcgaaDoor.Fw
open Go
set_option maxRecDepth 100000
theorem mixed : Go.Proofs.Tryd.prog.follows .mixedOrders = true := by kernel_rfl
def ac33 : ACode := (.seq (.reg [⟨(some 0), none, (.mov (.k (.bool false)))⟩] []) (.seq (.reg [⟨(some 5), none, (.bsl [(.int .u32 ((0 : Nat) : Int))] 1 1 [(0, (1, (.k (.int .u32 ((4294967295 : Nat) : Int)))))])⟩, ⟨(some 6), none, (.bsl [(.int .u32 ((0 : Nat) : Int))] 2 1 [(0, (1, (.k (.int .u32 ((4294967295 : Nat) : Int))))), (1, (1, (.k (.int .u32 ((0 : Nat) : Int)))))])⟩, ⟨(some 7), none, (.call (.k (.fn (.func 39) [] [])) [(.t 5), (.t 6)])⟩, ⟨(some 1), none, (.mov (.t 7))⟩] [1]) (.seq (.reg [⟨(some 9), none, (.mov (.t 1))⟩, ⟨(some 10), none, (.bsl [(.int .u32 ((0 : Nat) : Int))] 1 1 [(0, (1, (.k (.int .u32 ((5 : Nat) : Int)))))])⟩, ⟨(some 11), none, (.call (.k (.fn (.func 38) [] [])) [(.t 9), (.t 10)])⟩, ⟨(some 12), none, (.bsl [(.int .u32 ((0 : Nat) : Int))] 1 1 [(0, (1, (.k (.int .u32 ((4294967295 : Nat) : Int)))))])⟩, ⟨(some 13), none, (.call (.k (.fn (.func 34) [] [])) [(.t 11), (.t 12)])⟩, ⟨(some 8), none, (.mov (.t 13))⟩, ⟨(some 14), none, (.ext (.t 8) 0)⟩, ⟨(some 15), none, (.ext (.t 8) 1)⟩, ⟨(some 16), none, (.ext (.t 8) 2)⟩, ⟨(some 2), none, (.mov (.t 14))⟩, ⟨(some 3), none, (.mov (.t 15))⟩, ⟨(some 4), none, (.mov (.t 16))⟩] [1, 2, 3, 4]) (.seq (.reg [⟨(some 17), none, (.mov (.t 1))⟩, ⟨(some 18), none, (.bsl [(.int .u32 ((0 : Nat) : Int))] 2 1 [(0, (1, (.k (.int .u32 ((1 : Nat) : Int))))), (1, (1, (.k (.int .u32 ((4294967294 : Nat) : Int)))))])⟩, ⟨(some 19), none, (.call (.k (.fn (.func 37) [] [])) [(.t 17), (.t 18)])⟩, ⟨(some 20), none, (.mov (.t 19))⟩, ⟨(some 21), (some (20, true)), (.mov (.t 2))⟩, ⟨(some 22), (some (20, true)), (.bsl [(.int .u32 ((0 : Nat) : Int))] 1 1 [(0, (1, (.k (.int .u32 ((4294967295 : Nat) : Int)))))])⟩, ⟨(some 23), (some (20, true)), (.call (.k (.fn (.func 37) [] [])) [(.t 21), (.t 22)])⟩, ⟨(some 24), none, (.pick (.t 20) (.t 23) (.k (.bool false)))⟩, ⟨(some 25), none, (.mov (.t 24))⟩, ⟨(some 26), (some (25, true)), (.mov (.t 3))⟩, ⟨(some 27), (some (25, true)), (.bsl [(.int .u32 ((0 : Nat) : Int))] 1 1 [(0, (1, (.k (.int .u32 ((5 : Nat) : Int)))))])⟩, ⟨(some 28), (some (25, true)), (.call (.k (.fn (.func 37) [] [])) [(.t 26), (.t 27)])⟩, ⟨(some 29), none, (.pick (.t 25) (.t 28) (.k (.bool false)))⟩, ⟨(some 30), none, (.mov (.t 29))⟩, ⟨(some 31), (some (30, true)), (.mov (.t 4))⟩, ⟨(some 32), (some (30, true)), (.bin .eql (.t 31) (.k (.int .i64 ((0 : Nat) : Int))))⟩, ⟨(some 33), none, (.pick (.t 30) (.t 32) (.k (.bool false)))⟩, ⟨(some 34), none, (.mov (.t 33))⟩, ⟨(some 35), (some (34, true)), (.mov (.t 1))⟩, ⟨(some 36), (some (34, true)), (.call (.k (.fn (.func 70) [] [])) [(.t 35)])⟩, ⟨(some 37), (some (34, true)), (.bin .eql (.t 36) (.k (.str ⟨#[49, 56, 52, 52, 54, 55, 52, 52, 48, 54, 53, 49, 49, 57, 54, 49, 55, 48, 50, 53]⟩)))⟩, ⟨(some 38), none, (.pick (.t 34) (.t 37) (.k (.bool false)))⟩, ⟨(some 0), none, (.mov (.t 38))⟩] [0]) .ret))))
def rs33 : List RV := [(.t 0)]
theorem co33 : compFn Go.Proofs.Tryd.prog Go.Proofs.Tryd.f33 pl33 = some (ac33, rs33) := by kernel_rfl
theorem enter33 {args : List AV} {H : AHeap} {Q : AV → AHeap → Prop} (hn : args.length ≤ 39) (h : W Go.Proofs.Tryd.prog ac33 (retN rs33 Q) ⟨[], initE args 0, H⟩) : Run Go.Proofs.Tryd.prog 33 args H Q := Run_fn2 mixed Go.Proofs.Tryd.func33 (by kernel_rfl) co33 (n := 39) (by kernel_rfl) hn h
def ac34 : ACode := (.seq (.reg [⟨(some 4), none, (.mov (.k (.seq 0 [] true)))⟩, ⟨(some 5), none, (.mov (.k (.seq 0 [] true)))⟩, ⟨(some 6), none, (.mov (.k (.int .i64 ((0 : Nat) : Int))))⟩] [0, 1]) (.seq (.reg [⟨(some 20), none, (.mov (.t 1))⟩, ⟨(some 21), none, (.call (.k (.fn (.func 90) [] [])) [(.t 20)])⟩, ⟨(some 1), none, (.mov (.t 21))⟩] [0, 1]) (.seq (.seq (.reg [⟨(some 22), none, (.mov (.t 1))⟩, ⟨(some 23), none, (.len false (.t 22))⟩, ⟨(some 24), none, (.bin .eql (.t 23) (.k (.int .i64 ((0 : Nat) : Int))))⟩] [0, 1, 24]) (.cond (.t 24) (.seq (.reg [⟨(some 4), none, (.mov (.k (.seq 0 [] true)))⟩, ⟨(some 5), none, (.mov (.k (.seq 0 [] true)))⟩, ⟨(some 6), none, (.mov (.k (.int .i64 ((2 : Nat) : Int))))⟩] [4, 5, 6]) .ret) .skip)) (.seq (.seq (.reg [⟨(some 25), none, (.mov (.t 0))⟩, ⟨(some 26), none, (.mov (.t 1))⟩, ⟨(some 27), none, (.call (.k (.fn (.func 36) [] [])) [(.t 25), (.t 26)])⟩, ⟨(some 28), none, (.bin .lss (.t 27) (.k (.int .i64 ((0 : Nat) : Int))))⟩] [0, 1, 28]) (.cond (.t 28) (.seq (.reg [⟨(some 29), none, (.mov (.t 0))⟩, ⟨(some 30), none, (.call (.k (.fn (.func 35) [] [])) [(.t 29)])⟩, ⟨(some 4), none, (.mov (.k (.seq 0 [] true)))⟩, ⟨(some 5), none, (.mov (.t 30))⟩, ⟨(some 6), none, (.mov (.k (.int .i64 ((0 : Nat) : Int))))⟩] [4, 5, 6]) .ret) .skip)) (.seq (.seq (.reg [⟨(some 31), none, (.mov (.t 1))⟩, ⟨(some 32), none, (.len false (.t 31))⟩, ⟨(some 33), none, (.bin .eql (.t 32) (.k (.int .i64 ((1 : Nat) : Int))))⟩] [0, 1, 33]) (.cond (.t 33) (.seq (.reg [⟨(some 35), none, (.mov (.t 0))⟩, ⟨(some 36), none, (.mov (.t 1))⟩, ⟨(some 37), none, (.idxA 1 (.t 36) (.k (.int .i64 ((0 : Nat) : Int))))⟩, ⟨(some 38), none, (.load none (.t 37))⟩, ⟨(some 39), none, (.call (.k (.fn (.func 40) [] [])) [(.t 35), (.t 38)])⟩, ⟨(some 34), none, (.mov (.t 39))⟩, ⟨(some 40), none, (.ext (.t 34) 0)⟩, ⟨(some 41), none, (.ext (.t 34) 1)⟩, ⟨(some 42), none, (.ext (.t 34) 2)⟩, ⟨(some 7), none, (.mov (.t 40))⟩, ⟨(some 8), none, (.mov (.t 41))⟩, ⟨(some 9), none, (.mov (.t 42))⟩] [7, 8]) (.seq (.reg [⟨(some 43), none, (.mov (.t 7))⟩, ⟨(some 44), none, (.mov (.t 8))⟩, ⟨(some 45), none, (.bsl [(.int .u32 ((0 : Nat) : Int))] 1 1 [(0, (1, (.t 44)))])⟩, ⟨(some 46), none, (.call (.k (.fn (.func 35) [] [])) [(.t 45)])⟩, ⟨(some 4), none, (.mov (.t 43))⟩, ⟨(some 5), none, (.mov (.t 46))⟩, ⟨(some 6), none, (.mov (.k (.int .i64 ((0 : Nat) : Int))))⟩] [4, 5, 6]) .ret)) .skip)) (.seq (.reg [⟨(some 47), none, (.mov (.t 1))⟩, ⟨(some 48), none, (.mov (.t 1))⟩, ⟨(some 49), none, (.len false (.t 48))⟩, ⟨(some 50), none, (.bin .sub (.t 49) (.k (.int .i64 ((1 : Nat) : Int))))⟩, ⟨(some 51), none, (.idxA 1 (.t 47) (.t 50))⟩, ⟨(some 52), none, (.load none (.t 51))⟩, ⟨(some 53), none, (.call (.k (.fn (.func 91) [] [])) [(.t 52)])⟩, ⟨(some 10), none, (.mov (.t 53))⟩] [0, 1, 10]) (.seq (.reg [⟨(some 55), none, (.mov (.t 1))⟩, ⟨(some 56), none, (.mov (.t 10))⟩, ⟨(some 57), none, (.call (.k (.fn (.func 59) [] [])) [(.t 55), (.t 56)])⟩, ⟨(some 54), none, (.mov (.t 57))⟩, ⟨(some 58), none, (.ext (.t 54) 0)⟩, ⟨(some 59), none, (.ext (.t 54) 1)⟩, ⟨(some 11), none, (.mov (.t 58))⟩, ⟨(some 12), none, (.mov (.t 59))⟩] [0, 10, 11]) (.seq (.reg [⟨(some 61), none, (.mov (.t 0))⟩, ⟨(some 62), none, (.mov (.t 10))⟩, ⟨(some 63), none, (.call (.k (.fn (.func 59) [] [])) [(.t 61), (.t 62)])⟩, ⟨(some 60), none, (.mov (.t 63))⟩, ⟨(some 64), none, (.ext (.t 60) 0)⟩, ⟨(some 65), none, (.ext (.t 60) 1)⟩, ⟨(some 13), none, (.mov (.t 64))⟩, ⟨(some 14), none, (.mov (.t 65))⟩] [10, 11, 13]) (.seq (.reg [⟨(some 66), none, (.mov (.t 13))⟩, ⟨(some 67), none, (.bsl [(.int .u32 ((0 : Nat) : Int))] 1 1 [(0, (1, (.k (.int .u32 ((0 : Nat) : Int)))))])⟩, ⟨(some 68), none, (.app 45 1 4 (.t 66) (.t 67))⟩, ⟨(some 13), none, (.mov (.t 68))⟩] [10, 11, 13]) (.seq (.reg [⟨(some 69), none, (.mov (.t 11))⟩, ⟨(some 70), none, (.len false (.t 69))⟩, ⟨(some 15), none, (.mov (.t 70))⟩] [10, 11, 13, 15]) (.seq (.reg [⟨(some 71), none, (.mov (.t 13))⟩, ⟨(some 72), none, (.len false (.t 71))⟩, ⟨(some 73), none, (.mov (.t 15))⟩, ⟨(some 74), none, (.bin .sub (.t 72) (.t 73))⟩, ⟨(some 75), none, (.mks 45 1 4 [(.int .u32 ((0 : Nat) : Int))] (.t 74) (.t 74))⟩, ⟨(some 16), none, (.mov (.t 75))⟩] [10, 11, 13, 15, 16]) (.seq (.seq (.reg [⟨(some 76), none, (.mov (.t 13))⟩, ⟨(some 77), none, (.len false (.t 76))⟩, ⟨(some 78), none, (.mov (.t 15))⟩, ⟨(some 79), none, (.bin .sub (.t 77) (.t 78))⟩, ⟨(some 80), none, (.bin .sub (.t 79) (.k (.int .i64 ((1 : Nat) : Int))))⟩, ⟨(some 17), none, (.mov (.t 80))⟩] [10, 11, 13, 15, 16, 17]) (.block 0 (.loop (.seq (.seq (.reg [⟨(some 81), none, (.mov (.t 17))⟩, ⟨(some 82), none, (.bin .geq (.t 81) (.k (.int .i64 ((0 : Nat) : Int))))⟩] [10, 11, 13, 15, 16, 17, 82]) (.cond (.t 82) .skip (.exit 0))) (.seq (.block 1 (.reg [⟨(some 85), none, (.mov (.t 16))⟩, ⟨(some 86), none, (.mov (.t 17))⟩, ⟨(some 87), none, (.mov (.t 13))⟩, ⟨(some 88), none, (.mov (.t 17))⟩, ⟨(some 89), none, (.mov (.t 17))⟩, ⟨(some 90), none, (.mov (.t 15))⟩, ⟨(some 91), none, (.bin .add (.t 89) (.t 90))⟩, ⟨(some 92), none, (.bin .add (.t 91) (.k (.int .i64 ((1 : Nat) : Int))))⟩, ⟨(some 93), none, (.slc 1 (.t 87) (some (.t 88)) (some (.t 92)) none)⟩, ⟨(some 94), none, (.mov (.t 11))⟩, ⟨(some 95), none, (.call (.k (.fn (.func 92) [] [])) [(.t 93), (.t 94)])⟩, ⟨(some 96), none, (.idxA 1 (.t 85) (.t 86))⟩, ⟨none, none, (.store 1 (.t 96) (.t 95))⟩] [10, 11, 13, 15, 16, 17])) (.reg [⟨(some 83), none, (.mov (.t 17))⟩, ⟨(some 84), none, (.bin .sub (.t 83) (.k (.int .i64 ((1 : Nat) : Int))))⟩, ⟨(some 17), none, (.mov (.t 84))⟩] [10, 11, 13, 15, 16, 17])))))) (.seq (.reg [⟨(some 98), none, (.mov (.t 13))⟩, ⟨(some 99), none, (.mov (.t 10))⟩, ⟨(some 100), none, (.call (.k (.fn (.func 60) [] [])) [(.t 98), (.t 99)])⟩, ⟨(some 97), none, (.mov (.t 100))⟩, ⟨(some 101), none, (.ext (.t 97) 0)⟩, ⟨(some 102), none, (.ext (.t 97) 1)⟩, ⟨(some 18), none, (.mov (.t 101))⟩, ⟨(some 19), none, (.mov (.t 102))⟩] [16, 18]) (.seq (.reg [⟨(some 103), none, (.mov (.t 16))⟩, ⟨(some 104), none, (.call (.k (.fn (.func 90) [] [])) [(.t 103)])⟩, ⟨(some 105), none, (.mov (.t 18))⟩, ⟨(some 4), none, (.mov (.t 104))⟩, ⟨(some 5), none, (.mov (.t 105))⟩, ⟨(some 6), none, (.mov (.k (.int .i64 ((0 : Nat) : Int))))⟩] [4, 5, 6]) .ret))))))))))))))
def rs34 : List RV := [(.t 4), (.t 5), (.t 6)]
theorem co34 : compFn Go.Proofs.Tryd.prog Go.Proofs.Tryd.f34 pl34 = some (ac34, rs34) := by kernel_rfl
theorem enter34 {args : List AV} {H : AHeap} {Q : AV → AHeap → Prop} (hn : args.length ≤ 106) (h : W Go.Proofs.Tryd.prog ac34 (retN rs34 Q) ⟨[], initE args 0, H⟩) : Run Go.Proofs.Tryd.prog 34 args H Q := Run_fn2 mixed Go.Proofs.Tryd.func34 (by kernel_rfl) co34 (n := 106) (by kernel_rfl) hn h
def ac35 : ACode := (.seq (.reg [⟨(some 2), none, (.mov (.k (.seq 0 [] true)))⟩] [0]) (.seq (.reg [⟨(some 4), none, (.mov (.t 0))⟩, ⟨(some 5), none, (.call (.k (.fn (.func 90) [] [])) [(.t 4)])⟩, ⟨(some 0), none, (.mov (.t 5))⟩] [0]) (.seq (.reg [⟨(some 6), none, (.mov (.t 0))⟩, ⟨(some 7), none, (.len false (.t 6))⟩, ⟨(some 8), none, (.mks 45 1 4 [(.int .u32 ((0 : Nat) : Int))] (.t 7) (.t 7))⟩, ⟨(some 3), none, (.mov (.t 8))⟩] [0, 3]) (.seq (.reg [⟨(some 9), none, (.mov (.t 3))⟩, ⟨(some 10), none, (.mov (.t 0))⟩, ⟨(some 11), none, (.cpy 1 (.t 9) (.t 10))⟩] [3]) (.seq (.reg [⟨(some 12), none, (.mov (.t 3))⟩, ⟨(some 2), none, (.mov (.t 12))⟩] [2]) .ret)))))
def rs35 : List RV := [(.t 2)]
theorem co35 : compFn Go.Proofs.Tryd.prog Go.Proofs.Tryd.f35 pl35 = some (ac35, rs35) := by kernel_rfl
theorem enter35 {args : List AV} {H : AHeap} {Q : AV → AHeap → Prop} (hn : args.length ≤ 13) (h : W Go.Proofs.Tryd.prog ac35 (retN rs35 Q) ⟨[], initE args 0, H⟩) : Run Go.Proofs.Tryd.prog 35 args H Q := Run_fn2 mixed Go.Proofs.Tryd.func35 (by kernel_rfl) co35 (n := 13) (by kernel_rfl) hn h
def ac36 : ACode := (.seq (.reg [⟨(some 4), none, (.mov (.k (.int .i64 ((0 : Nat) : Int))))⟩] [0, 1]) (.seq (.reg [⟨(some 6), none, (.mov (.t 0))⟩, ⟨(some 7), none, (.call (.k (.fn (.func 90) [] [])) [(.t 6)])⟩, ⟨(some 8), none, (.mov (.t 1))⟩, ⟨(some 9), none, (.call (.k (.fn (.func 90) [] [])) [(.t 8)])⟩, ⟨(some 0), none, (.mov (.t 7))⟩, ⟨(some 1), none, (.mov (.t 9))⟩] [0, 1]) (.seq (.block 0 (.seq (.reg [⟨(some 11), none, (.mov (.t 0))⟩, ⟨(some 12), none, (.len false (.t 11))⟩, ⟨(some 13), none, (.mov (.t 1))⟩, ⟨(some 14), none, (.len false (.t 13))⟩, ⟨(some 15), none, (.bin .lss (.t 12) (.t 14))⟩, ⟨(some 10), none, (.mov (.t 15))⟩] [0, 1, 10]) (.cond (.t 10) (.seq (.reg [⟨(some 4), none, (.mov (.k (.int .i64 (-1))))⟩] [4]) .ret) (.seq (.reg [⟨(some 17), none, (.mov (.t 0))⟩, ⟨(some 18), none, (.len false (.t 17))⟩, ⟨(some 19), none, (.mov (.t 1))⟩, ⟨(some 20), none, (.len false (.t 19))⟩, ⟨(some 21), none, (.bin .gtr (.t 18) (.t 20))⟩, ⟨(some 16), none, (.mov (.t 21))⟩] [0, 1, 16]) (.cond (.t 16) (.seq (.reg [⟨(some 4), none, (.mov (.k (.int .i64 ((1 : Nat) : Int))))⟩] [4]) .ret) .skip))))) (.seq (.seq (.reg [⟨(some 22), none, (.mov (.t 0))⟩, ⟨(some 23), none, (.len false (.t 22))⟩, ⟨(some 24), none, (.bin .sub (.t 23) (.k (.int .i64 ((1 : Nat) : Int))))⟩, ⟨(some 5), none, (.mov (.t 24))⟩] [0, 1, 5]) (.block 1 (.loop (.seq (.seq (.reg [⟨(some 25), none, (.mov (.t 5))⟩, ⟨(some 26), none, (.bin .geq (.t 25) (.k (.int .i64 ((0 : Nat) : Int))))⟩] [0, 1, 5, 26]) (.cond (.t 26) .skip (.exit 1))) (.seq (.block 2 (.block 3 (.seq (.draw [⟨(some 30), none, (.mov (.t 0))⟩, ⟨(some 31), none, (.mov (.t 5))⟩, ⟨(some 32), none, (.idxA 1 (.t 30) (.t 31))⟩, ⟨(some 33), none, (.load none (.t 32))⟩, ⟨(some 34), none, (.mov (.t 1))⟩, ⟨(some 35), none, (.mov (.t 5))⟩, ⟨(some 36), none, (.idxA 1 (.t 34) (.t 35))⟩, ⟨(some 37), none, (.load none (.t 36))⟩] [⟨(some 38), none, (.bin .lss (.t 33) (.t 37))⟩, ⟨(some 29), none, (.mov (.t 38))⟩] [0, 1, 0, 0, 15, 31, 15, 15] [0, 1, 5, 29]) (.cond (.t 29) (.seq (.reg [⟨(some 4), none, (.mov (.k (.int .i64 (-1))))⟩] [4]) .ret) (.seq (.draw [⟨(some 40), none, (.mov (.t 0))⟩, ⟨(some 41), none, (.mov (.t 5))⟩, ⟨(some 42), none, (.idxA 1 (.t 40) (.t 41))⟩, ⟨(some 43), none, (.load none (.t 42))⟩, ⟨(some 44), none, (.mov (.t 1))⟩, ⟨(some 45), none, (.mov (.t 5))⟩, ⟨(some 46), none, (.idxA 1 (.t 44) (.t 45))⟩, ⟨(some 47), none, (.load none (.t 46))⟩] [⟨(some 48), none, (.bin .gtr (.t 43) (.t 47))⟩, ⟨(some 39), none, (.mov (.t 48))⟩] [0, 1, 0, 0, 15, 31, 15, 15] [0, 1, 5, 39]) (.cond (.t 39) (.seq (.reg [⟨(some 4), none, (.mov (.k (.int .i64 ((1 : Nat) : Int))))⟩] [4]) .ret) .skip)))))) (.reg [⟨(some 27), none, (.mov (.t 5))⟩, ⟨(some 28), none, (.bin .sub (.t 27) (.k (.int .i64 ((1 : Nat) : Int))))⟩, ⟨(some 5), none, (.mov (.t 28))⟩] [0, 1, 5])))))) (.seq (.reg [⟨(some 4), none, (.mov (.k (.int .i64 ((0 : Nat) : Int))))⟩] [4]) .ret)))))
def rs36 : List RV := [(.t 4)]
theorem co36 : compFn Go.Proofs.Tryd.prog Go.Proofs.Tryd.f36 pl36 = some (ac36, rs36) := by kernel_rfl
theorem enter36 {args : List AV} {H : AHeap} {Q : AV → AHeap → Prop} (hn : args.length ≤ 49) (h : W Go.Proofs.Tryd.prog ac36 (retN rs36 Q) ⟨[], initE args 0, H⟩) : Run Go.Proofs.Tryd.prog 36 args H Q := Run_fn2 mixed Go.Proofs.Tryd.func36 (by kernel_rfl) co36 (n := 49) (by kernel_rfl) hn h
def ac37 : ACode := (.seq (.reg [⟨(some 4), none, (.mov (.k (.bool false)))⟩] [0, 1]) (.seq (.seq (.reg [⟨(some 6), none, (.mov (.t 0))⟩, ⟨(some 7), none, (.len false (.t 6))⟩, ⟨(some 8), none, (.mov (.t 1))⟩, ⟨(some 9), none, (.len false (.t 8))⟩, ⟨(some 10), none, (.bin .neq (.t 7) (.t 9))⟩] [0, 1, 10]) (.cond (.t 10) (.seq (.reg [⟨(some 4), none, (.mov (.k (.bool false)))⟩] [4]) .ret) .skip)) (.seq (.seq (.reg [⟨(some 11), none, (.mov (.t 0))⟩, ⟨(some 12), none, (.len false (.t 11))⟩, ⟨(some 13), none, (.mov (.k (.int .i64 ((0 : Nat) : Int))))⟩] [0, 1, 12, 13]) (.block 0 (.loop (.seq (.reg [⟨(some 14), none, (.bin .lss (.t 13) (.t 12))⟩] [0, 1, 12, 13, 14]) (.seq (.cond (.t 14) .skip (.exit 0)) (.seq (.block 1 (.seq (.reg [⟨(some 15), none, (.mov (.t 13))⟩, ⟨(some 5), none, (.mov (.t 15))⟩] [0, 1, 5, 12, 13]) (.seq (.draw [⟨(some 16), none, (.mov (.t 0))⟩, ⟨(some 17), none, (.mov (.t 5))⟩, ⟨(some 18), none, (.idxA 1 (.t 16) (.t 17))⟩, ⟨(some 19), none, (.load none (.t 18))⟩, ⟨(some 20), none, (.mov (.t 1))⟩, ⟨(some 21), none, (.mov (.t 5))⟩, ⟨(some 22), none, (.idxA 1 (.t 20) (.t 21))⟩, ⟨(some 23), none, (.load none (.t 22))⟩] [⟨(some 24), none, (.bin .neq (.t 19) (.t 23))⟩] [0, 1, 0, 0, 15, 31, 15, 15] [0, 1, 12, 13, 24]) (.cond (.t 24) (.seq (.reg [⟨(some 4), none, (.mov (.k (.bool false)))⟩] [4]) .ret) .skip)))) (.reg [⟨(some 25), none, (.bin .add (.t 13) (.k (.int .i64 ((1 : Nat) : Int))))⟩, ⟨(some 13), none, (.mov (.t 25))⟩] [0, 1, 12, 13]))))))) (.seq (.reg [⟨(some 4), none, (.mov (.k (.bool true)))⟩] [4]) .ret))))
def rs37 : List RV := [(.t 4)]
theorem co37 : compFn Go.Proofs.Tryd.prog Go.Proofs.Tryd.f37 pl37 = some (ac37, rs37) := by kernel_rfl
theorem enter37 {args : List AV} {H : AHeap} {Q : AV → AHeap → Prop} (hn : args.length ≤ 26) (h : W Go.Proofs.Tryd.prog ac37 (retN rs37 Q) ⟨[], initE args 0, H⟩) : Run Go.Proofs.Tryd.prog 37 args H Q := Run_fn2 mixed Go.Proofs.Tryd.func37 (by kernel_rfl) co37 (n := 26) (by kernel_rfl) hn h
def ac38 : ACode := (.seq (.reg [⟨(some 4), none, (.mov (.k (.seq 0 [] true)))⟩] [0, 1]) (.seq (.seq (.reg [⟨(some 9), none, (.mov (.t 0))⟩, ⟨(some 10), none, (.len false (.t 9))⟩, ⟨(some 11), none, (.mov (.t 1))⟩, ⟨(some 12), none, (.len false (.t 11))⟩, ⟨(some 13), none, (.bin .lss (.t 10) (.t 12))⟩] [0, 1, 13]) (.cond (.t 13) (.reg [⟨(some 14), none, (.mov (.t 1))⟩, ⟨(some 15), none, (.mov (.t 0))⟩, ⟨(some 0), none, (.mov (.t 14))⟩, ⟨(some 1), none, (.mov (.t 15))⟩] [0, 1]) .skip)) (.seq (.reg [⟨(some 16), none, (.mov (.t 0))⟩, ⟨(some 17), none, (.len false (.t 16))⟩, ⟨(some 18), none, (.bin .add (.t 17) (.k (.int .i64 ((1 : Nat) : Int))))⟩, ⟨(some 19), none, (.mks 45 1 4 [(.int .u32 ((0 : Nat) : Int))] (.t 18) (.t 18))⟩, ⟨(some 5), none, (.mov (.t 19))⟩] [0, 1, 5]) (.seq (.reg [⟨(some 6), none, (.mov (.k (.int .u64 ((0 : Nat) : Int))))⟩] [0, 1, 5, 6]) (.seq (.seq (.reg [⟨(some 20), none, (.mov (.t 0))⟩, ⟨(some 21), none, (.len false (.t 20))⟩, ⟨(some 22), none, (.mov (.k (.int .i64 ((0 : Nat) : Int))))⟩] [0, 1, 5, 6, 20, 21, 22]) (.block 0 (.loop (.seq (.reg [⟨(some 23), none, (.bin .lss (.t 22) (.t 21))⟩] [0, 1, 5, 6, 20, 21, 22, 23]) (.seq (.cond (.t 23) .skip (.exit 0)) (.seq (.block 1 (.seq (.reg [⟨(some 24), none, (.mov (.t 22))⟩, ⟨(some 25), none, (.idxA 1 (.t 20) (.t 22))⟩, ⟨(some 26), none, (.load none (.t 25))⟩, ⟨(some 7), none, (.mov (.t 24))⟩, ⟨(some 8), none, (.mov (.t 26))⟩] [0, 1, 5, 6, 7, 8, 20, 21, 22]) (.seq (.reg [⟨(some 27), none, (.mov (.t 6))⟩, ⟨(some 28), none, (.mov (.t 8))⟩, ⟨(some 29), none, (.conv .u64 (.t 28))⟩, ⟨(some 30), none, (.bin .add (.t 27) (.t 29))⟩, ⟨(some 6), none, (.mov (.t 30))⟩] [0, 1, 5, 6, 7, 20, 21, 22]) (.seq (.seq (.reg [⟨(some 31), none, (.mov (.t 7))⟩, ⟨(some 32), none, (.mov (.t 1))⟩, ⟨(some 33), none, (.len false (.t 32))⟩, ⟨(some 34), none, (.bin .lss (.t 31) (.t 33))⟩] [0, 1, 5, 6, 7, 20, 21, 22, 34]) (.cond (.t 34) (.reg [⟨(some 35), none, (.mov (.t 6))⟩, ⟨(some 36), none, (.mov (.t 1))⟩, ⟨(some 37), none, (.mov (.t 7))⟩, ⟨(some 38), none, (.idxA 1 (.t 36) (.t 37))⟩, ⟨(some 39), none, (.load none (.t 38))⟩, ⟨(some 40), none, (.conv .u64 (.t 39))⟩, ⟨(some 41), none, (.bin .add (.t 35) (.t 40))⟩, ⟨(some 6), none, (.mov (.t 41))⟩] [0, 1, 5, 6, 7, 20, 21, 22]) .skip)) (.seq (.reg [⟨(some 42), none, (.mov (.t 5))⟩, ⟨(some 43), none, (.mov (.t 7))⟩, ⟨(some 44), none, (.mov (.t 6))⟩, ⟨(some 45), none, (.conv .u32 (.t 44))⟩, ⟨(some 46), none, (.idxA 1 (.t 42) (.t 43))⟩, ⟨none, none, (.store 1 (.t 46) (.t 45))⟩] [0, 1, 5, 6, 20, 21, 22]) (.reg [⟨(some 47), none, (.mov (.t 6))⟩, ⟨(some 48), none, (.bin .shr (.t 47) (.k (.int .u64 ((32 : Nat) : Int))))⟩, ⟨(some 6), none, (.mov (.t 48))⟩] [0, 1, 5, 6, 20, 21, 22])))))) (.reg [⟨(some 49), none, (.bin .add (.t 22) (.k (.int .i64 ((1 : Nat) : Int))))⟩, ⟨(some 22), none, (.mov (.t 49))⟩] [0, 1, 5, 6, 20, 21, 22]))))))) (.seq (.reg [⟨(some 50), none, (.mov (.t 5))⟩, ⟨(some 51), none, (.mov (.t 0))⟩, ⟨(some 52), none, (.len false (.t 51))⟩, ⟨(some 53), none, (.mov (.t 6))⟩, ⟨(some 54), none, (.conv .u32 (.t 53))⟩, ⟨(some 55), none, (.idxA 1 (.t 50) (.t 52))⟩, ⟨none, none, (.store 1 (.t 55) (.t 54))⟩] [5]) (.seq (.reg [⟨(some 56), none, (.mov (.t 5))⟩, ⟨(some 57), none, (.call (.k (.fn (.func 90) [] [])) [(.t 56)])⟩, ⟨(some 4), none, (.mov (.t 57))⟩] [4]) .ret)))))))
def rs38 : List RV := [(.t 4)]
theorem co38 : compFn Go.Proofs.Tryd.prog Go.Proofs.Tryd.f38 pl38 = some (ac38, rs38) := by kernel_rfl
theorem enter38 {args : List AV} {H : AHeap} {Q : AV → AHeap → Prop} (hn : args.length ≤ 58) (h : W Go.Proofs.Tryd.prog ac38 (retN rs38 Q) ⟨[], initE args 0, H⟩) : Run Go.Proofs.Tryd.prog 38 args H Q := Run_fn2 mixed Go.Proofs.Tryd.func38 (by kernel_rfl) co38 (n := 58) (by kernel_rfl) hn h
def ac39 : ACode := (.seq (.reg [⟨(some 4), none, (.mov (.k (.seq 0 [] true)))⟩] [0, 1]) (.seq (.reg [⟨(some 11), none, (.mov (.t 0))⟩, ⟨(some 12), none, (.len false (.t 11))⟩, ⟨(some 13), none, (.mov (.t 1))⟩, ⟨(some 14), none, (.len false (.t 13))⟩, ⟨(some 15), none, (.bin .add (.t 12) (.t 14))⟩, ⟨(some 16), none, (.mks 45 1 4 [(.int .u32 ((0 : Nat) : Int))] (.t 15) (.t 15))⟩, ⟨(some 5), none, (.mov (.t 16))⟩] [0, 1, 5]) (.seq (.seq (.reg [⟨(some 17), none, (.mov (.t 0))⟩, ⟨(some 18), none, (.len false (.t 17))⟩, ⟨(some 19), none, (.mov (.k (.int .i64 ((0 : Nat) : Int))))⟩] [1, 5, 17, 18, 19]) (.block 0 (.loop (.seq (.reg [⟨(some 20), none, (.bin .lss (.t 19) (.t 18))⟩] [1, 5, 17, 18, 19, 20]) (.seq (.cond (.t 20) .skip (.exit 0)) (.seq (.block 1 (.seq (.reg [⟨(some 21), none, (.mov (.t 19))⟩, ⟨(some 22), none, (.idxA 1 (.t 17) (.t 19))⟩, ⟨(some 23), none, (.load none (.t 22))⟩, ⟨(some 6), none, (.mov (.t 21))⟩, ⟨(some 7), none, (.mov (.t 23))⟩] [1, 5, 6, 7, 17, 18, 19]) (.seq (.reg [⟨(some 8), none, (.mov (.k (.int .u64 ((0 : Nat) : Int))))⟩] [1, 5, 6, 7, 8, 17, 18, 19]) (.seq (.seq (.reg [⟨(some 24), none, (.mov (.t 1))⟩, ⟨(some 25), none, (.len false (.t 24))⟩, ⟨(some 26), none, (.mov (.k (.int .i64 ((0 : Nat) : Int))))⟩] [1, 5, 6, 7, 8, 17, 18, 19, 24, 25, 26]) (.block 2 (.loop (.seq (.reg [⟨(some 27), none, (.bin .lss (.t 26) (.t 25))⟩] [1, 5, 6, 7, 8, 17, 18, 19, 24, 25, 26, 27]) (.seq (.cond (.t 27) .skip (.exit 2)) (.seq (.block 3 (.seq (.reg [⟨(some 28), none, (.mov (.t 26))⟩, ⟨(some 29), none, (.idxA 1 (.t 24) (.t 26))⟩, ⟨(some 30), none, (.load none (.t 29))⟩, ⟨(some 9), none, (.mov (.t 28))⟩, ⟨(some 10), none, (.mov (.t 30))⟩] [1, 5, 6, 7, 8, 9, 10, 17, 18, 19, 24, 25, 26]) (.seq (.reg [⟨(some 31), none, (.mov (.t 8))⟩, ⟨(some 32), none, (.mov (.t 7))⟩, ⟨(some 33), none, (.conv .u64 (.t 32))⟩, ⟨(some 34), none, (.mov (.t 10))⟩, ⟨(some 35), none, (.conv .u64 (.t 34))⟩, ⟨(some 36), none, (.bin .mul (.t 33) (.t 35))⟩, ⟨(some 37), none, (.mov (.t 5))⟩, ⟨(some 38), none, (.mov (.t 6))⟩, ⟨(some 39), none, (.mov (.t 9))⟩, ⟨(some 40), none, (.bin .add (.t 38) (.t 39))⟩, ⟨(some 41), none, (.idxA 1 (.t 37) (.t 40))⟩, ⟨(some 42), none, (.load none (.t 41))⟩, ⟨(some 43), none, (.conv .u64 (.t 42))⟩, ⟨(some 44), none, (.bin .add (.t 36) (.t 43))⟩, ⟨(some 45), none, (.bin .add (.t 31) (.t 44))⟩, ⟨(some 8), none, (.mov (.t 45))⟩] [1, 5, 6, 7, 8, 9, 17, 18, 19, 24, 25, 26]) (.seq (.reg [⟨(some 46), none, (.mov (.t 5))⟩, ⟨(some 47), none, (.mov (.t 6))⟩, ⟨(some 48), none, (.mov (.t 9))⟩, ⟨(some 49), none, (.bin .add (.t 47) (.t 48))⟩, ⟨(some 50), none, (.mov (.t 8))⟩, ⟨(some 51), none, (.conv .u32 (.t 50))⟩, ⟨(some 52), none, (.idxA 1 (.t 46) (.t 49))⟩, ⟨none, none, (.store 1 (.t 52) (.t 51))⟩] [1, 5, 6, 7, 8, 17, 18, 19, 24, 25, 26]) (.reg [⟨(some 53), none, (.mov (.t 8))⟩, ⟨(some 54), none, (.bin .shr (.t 53) (.k (.int .u64 ((32 : Nat) : Int))))⟩, ⟨(some 8), none, (.mov (.t 54))⟩] [1, 5, 6, 7, 8, 17, 18, 19, 24, 25, 26]))))) (.reg [⟨(some 55), none, (.bin .add (.t 26) (.k (.int .i64 ((1 : Nat) : Int))))⟩, ⟨(some 26), none, (.mov (.t 55))⟩] [1, 5, 6, 7, 8, 17, 18, 19, 24, 25, 26]))))))) (.reg [⟨(some 56), none, (.mov (.t 5))⟩, ⟨(some 57), none, (.mov (.t 6))⟩, ⟨(some 58), none, (.mov (.t 1))⟩, ⟨(some 59), none, (.len false (.t 58))⟩, ⟨(some 60), none, (.bin .add (.t 57) (.t 59))⟩, ⟨(some 61), none, (.mov (.t 8))⟩, ⟨(some 62), none, (.conv .u32 (.t 61))⟩, ⟨(some 63), none, (.idxA 1 (.t 56) (.t 60))⟩, ⟨none, none, (.store 1 (.t 63) (.t 62))⟩] [1, 5, 17, 18, 19]))))) (.reg [⟨(some 64), none, (.bin .add (.t 19) (.k (.int .i64 ((1 : Nat) : Int))))⟩, ⟨(some 19), none, (.mov (.t 64))⟩] [1, 5, 17, 18, 19]))))))) (.seq (.reg [⟨(some 65), none, (.mov (.t 5))⟩, ⟨(some 66), none, (.call (.k (.fn (.func 90) [] [])) [(.t 65)])⟩, ⟨(some 4), none, (.mov (.t 66))⟩] [4]) .ret))))
def rs39 : List RV := [(.t 4)]
theorem co39 : compFn Go.Proofs.Tryd.prog Go.Proofs.Tryd.f39 pl39 = some (ac39, rs39) := by kernel_rfl
theorem enter39 {args : List AV} {H : AHeap} {Q : AV → AHeap → Prop} (hn : args.length ≤ 67) (h : W Go.Proofs.Tryd.prog ac39 (retN rs39 Q) ⟨[], initE args 0, H⟩) : Run Go.Proofs.Tryd.prog 39 args H Q := Run_fn2 mixed Go.Proofs.Tryd.func39 (by kernel_rfl) co39 (n := 67) (by kernel_rfl) hn h
def ac40 : ACode := (.seq (.reg [⟨(some 4), none, (.mov (.k (.seq 0 [] true)))⟩, ⟨(some 5), none, (.mov (.k (.int .u32 ((0 : Nat) : Int))))⟩, ⟨(some 6), none, (.mov (.k (.int .i64 ((0 : Nat) : Int))))⟩] [0, 1]) (.seq (.seq (.reg [⟨(some 10), none, (.mov (.t 1))⟩, ⟨(some 11), none, (.bin .eql (.t 10) (.k (.int .u32 ((0 : Nat) : Int))))⟩] [0, 1, 11]) (.cond (.t 11) (.seq (.reg [⟨(some 4), none, (.mov (.k (.seq 0 [] true)))⟩, ⟨(some 5), none, (.mov (.k (.int .u32 ((0 : Nat) : Int))))⟩, ⟨(some 6), none, (.mov (.k (.int .i64 ((2 : Nat) : Int))))⟩] [4, 5, 6]) .ret) .skip)) (.seq (.reg [⟨(some 12), none, (.mov (.t 0))⟩, ⟨(some 13), none, (.len false (.t 12))⟩, ⟨(some 14), none, (.mks 45 1 4 [(.int .u32 ((0 : Nat) : Int))] (.t 13) (.t 13))⟩, ⟨(some 7), none, (.mov (.t 14))⟩] [0, 1, 7]) (.seq (.reg [⟨(some 8), none, (.mov (.k (.int .u64 ((0 : Nat) : Int))))⟩] [0, 1, 7, 8]) (.seq (.seq (.reg [⟨(some 15), none, (.mov (.t 0))⟩, ⟨(some 16), none, (.len false (.t 15))⟩, ⟨(some 17), none, (.bin .sub (.t 16) (.k (.int .i64 ((1 : Nat) : Int))))⟩, ⟨(some 9), none, (.mov (.t 17))⟩] [0, 1, 7, 8, 9]) (.block 0 (.loop (.seq (.seq (.reg [⟨(some 18), none, (.mov (.t 9))⟩, ⟨(some 19), none, (.bin .geq (.t 18) (.k (.int .i64 ((0 : Nat) : Int))))⟩] [0, 1, 7, 8, 9, 19]) (.cond (.t 19) .skip (.exit 0))) (.seq (.block 1 (.seq (.reg [⟨(some 22), none, (.mov (.t 8))⟩, ⟨(some 23), none, (.bin .shl (.t 22) (.k (.int .u64 ((32 : Nat) : Int))))⟩, ⟨(some 24), none, (.mov (.t 0))⟩, ⟨(some 25), none, (.mov (.t 9))⟩, ⟨(some 26), none, (.idxA 1 (.t 24) (.t 25))⟩, ⟨(some 27), none, (.load none (.t 26))⟩, ⟨(some 28), none, (.conv .u64 (.t 27))⟩, ⟨(some 29), none, (.bin .or (.t 23) (.t 28))⟩, ⟨(some 8), none, (.mov (.t 29))⟩] [0, 1, 7, 8, 9]) (.seq (.reg [⟨(some 30), none, (.mov (.t 7))⟩, ⟨(some 31), none, (.mov (.t 9))⟩, ⟨(some 32), none, (.mov (.t 8))⟩, ⟨(some 33), none, (.mov (.t 1))⟩, ⟨(some 34), none, (.conv .u64 (.t 33))⟩, ⟨(some 35), none, (.bin .quo (.t 32) (.t 34))⟩, ⟨(some 36), none, (.conv .u32 (.t 35))⟩, ⟨(some 37), none, (.idxA 1 (.t 30) (.t 31))⟩, ⟨none, none, (.store 1 (.t 37) (.t 36))⟩] [0, 1, 7, 8, 9]) (.reg [⟨(some 38), none, (.mov (.t 8))⟩, ⟨(some 39), none, (.mov (.t 1))⟩, ⟨(some 40), none, (.conv .u64 (.t 39))⟩, ⟨(some 41), none, (.bin .rem (.t 38) (.t 40))⟩, ⟨(some 8), none, (.mov (.t 41))⟩] [0, 1, 7, 8, 9])))) (.reg [⟨(some 20), none, (.mov (.t 9))⟩, ⟨(some 21), none, (.bin .sub (.t 20) (.k (.int .i64 ((1 : Nat) : Int))))⟩, ⟨(some 9), none, (.mov (.t 21))⟩] [0, 1, 7, 8, 9])))))) (.seq (.reg [⟨(some 42), none, (.mov (.t 7))⟩, ⟨(some 43), none, (.call (.k (.fn (.func 90) [] [])) [(.t 42)])⟩, ⟨(some 44), none, (.mov (.t 8))⟩, ⟨(some 45), none, (.conv .u32 (.t 44))⟩, ⟨(some 4), none, (.mov (.t 43))⟩, ⟨(some 5), none, (.mov (.t 45))⟩, ⟨(some 6), none, (.mov (.k (.int .i64 ((0 : Nat) : Int))))⟩] [4, 5, 6]) .ret))))))
def rs40 : List RV := [(.t 4), (.t 5), (.t 6)]
theorem co40 : compFn Go.Proofs.Tryd.prog Go.Proofs.Tryd.f40 pl40 = some (ac40, rs40) := by kernel_rfl
theorem enter40 {args : List AV} {H : AHeap} {Q : AV → AHeap → Prop} (hn : args.length ≤ 46) (h : W Go.Proofs.Tryd.prog ac40 (retN rs40 Q) ⟨[], initE args 0, H⟩) : Run Go.Proofs.Tryd.prog 40 args H Q := Run_fn2 mixed Go.Proofs.Tryd.func40 (by kernel_rfl) co40 (n := 46) (by kernel_rfl) hn h
def ac47 : ACode := (.seq (.reg [⟨(some 2), none, (.mov (.k (.seq 0 [] true)))⟩] [0]) (.seq (.reg [⟨(some 3), none, (.mov (.t 0))⟩, ⟨(some 4), none, (.call (.k (.fn (.func 96) [] [])) [(.t 3)])⟩, ⟨(some 5), none, (.bsl [(.int .u32 ((0 : Nat) : Int))] 2 1 [(0, (1, (.k (.int .u32 ((77 : Nat) : Int))))), (1, (1, (.k (.int .u32 ((78 : Nat) : Int)))))])⟩, ⟨(some 6), none, (.app 45 1 4 (.t 4) (.t 5))⟩, ⟨(some 7), none, (.mov (.t 0))⟩, ⟨(some 8), none, (.len false (.t 7))⟩, ⟨(some 9), none, (.slc 1 (.t 6) none (some (.t 8)) none)⟩, ⟨(some 2), none, (.mov (.t 9))⟩] [2]) .ret))
def rs47 : List RV := [(.t 2)]
theorem co47 : compFn Go.Proofs.Tryd.prog Go.Proofs.Tryd.f47 pl47 = some (ac47, rs47) := by kernel_rfl
theorem enter47 {args : List AV} {H : AHeap} {Q : AV → AHeap → Prop} (hn : args.length ≤ 10) (h : W Go.Proofs.Tryd.prog ac47 (retN rs47 Q) ⟨[], initE args 0, H⟩) : Run Go.Proofs.Tryd.prog 47 args H Q := Run_fn2 mixed Go.Proofs.Tryd.func47 (by kernel_rfl) co47 (n := 10) (by kernel_rfl) hn h
def ac49 : ACode := (.seq (.reg [⟨(some 4), none, (.mov (.k (.bool false)))⟩] [0, 1]) (.seq (.reg [⟨(some 5), none, (.mov (.t 0))⟩, ⟨(some 6), none, (.mov (.t 1))⟩, ⟨(some 7), none, (.call (.k (.fn (.func 37) [] [])) [(.t 5), (.t 6)])⟩, ⟨(some 8), none, (.mov (.t 7))⟩, ⟨(some 9), (some (8, true)), (.mov (.t 0))⟩, ⟨(some 10), (some (8, true)), (.mov (.t 1))⟩, ⟨(some 11), (some (8, true)), (.len false (.t 10))⟩, ⟨(some 12), (some (8, true)), (.bin .add (.t 11) (.k (.int .i64 ((2 : Nat) : Int))))⟩, ⟨(some 13), (some (8, true)), (.slc 1 (.t 9) none (some (.t 12)) none)⟩, ⟨(some 14), (some (8, true)), (.mov (.t 1))⟩, ⟨(some 15), (some (8, true)), (.len false (.t 14))⟩, ⟨(some 16), (some (8, true)), (.slc 1 (.t 13) (some (.t 15)) none none)⟩, ⟨(some 17), (some (8, true)), (.bsl [(.int .u32 ((0 : Nat) : Int))] 2 1 [(0, (1, (.k (.int .u32 ((77 : Nat) : Int))))), (1, (1, (.k (.int .u32 ((78 : Nat) : Int)))))])⟩, ⟨(some 18), (some (8, true)), (.call (.k (.fn (.func 37) [] [])) [(.t 16), (.t 17)])⟩, ⟨(some 19), none, (.pick (.t 8) (.t 18) (.k (.bool false)))⟩, ⟨(some 4), none, (.mov (.t 19))⟩] [4]) .ret))
def rs49 : List RV := [(.t 4)]
theorem co49 : compFn Go.Proofs.Tryd.prog Go.Proofs.Tryd.f49 pl49 = some (ac49, rs49) := by kernel_rfl
theorem enter49 {args : List AV} {H : AHeap} {Q : AV → AHeap → Prop} (hn : args.length ≤ 20) (h : W Go.Proofs.Tryd.prog ac49 (retN rs49 Q) ⟨[], initE args 0, H⟩) : Run Go.Proofs.Tryd.prog 49 args H Q := Run_fn2 mixed Go.Proofs.Tryd.func49 (by kernel_rfl) co49 (n := 20) (by kernel_rfl) hn h
def ac51 : ACode := (.seq (.reg [⟨(some 2), none, (.mov (.k (.bool false)))⟩] [0]) (.seq (.reg [⟨(some 3), none, (.mov (.t 0))⟩, ⟨(some 4), none, (.call (.k (.fn (.func 97) [] [])) [(.t 3), (.k (.fn (.func 98) [] []))])⟩, ⟨(some 2), none, (.mov (.t 4))⟩] [2]) .ret))
def rs51 : List RV := [(.t 2)]
theorem co51 : compFn Go.Proofs.Tryd.prog Go.Proofs.Tryd.f51 pl51 = some (ac51, rs51) := by kernel_rfl
theorem enter51 {args : List AV} {H : AHeap} {Q : AV → AHeap → Prop} (hn : args.length ≤ 5) (h : W Go.Proofs.Tryd.prog ac51 (retN rs51 Q) ⟨[], initE args 0, H⟩) : Run Go.Proofs.Tryd.prog 51 args H Q := Run_fn2 mixed Go.Proofs.Tryd.func51 (by kernel_rfl) co51 (n := 5) (by kernel_rfl) hn h
def ac52 : ACode := (.seq (.reg [⟨(some 4), none, (.mov (.k (.seq 0 [] true)))⟩, ⟨(some 5), none, (.mov (.k (.seq 0 [] true)))⟩] [0, 1]) (.seq (.reg [⟨(some 6), none, (.mov (.k (.seq 0 [] true)))⟩, ⟨(some 7), none, (.mov (.k (.seq 0 [] true)))⟩] [0, 1, 6, 7]) (.seq (.reg [⟨(some 10), none, (.mov (.t 1))⟩, ⟨(some 11), none, (.call (.k (.fn (.func 53) [] [])) [(.t 10)])⟩, ⟨(some 1), none, (.mov (.t 11))⟩] [0, 1, 6, 7]) (.seq (.seq (.reg [⟨(some 12), none, (.mov (.t 0))⟩, ⟨(some 13), none, (.call (.k (.fn (.func 62) [] [])) [(.t 12)])⟩, ⟨(some 14), none, (.bin .sub (.t 13) (.k (.int .i64 ((1 : Nat) : Int))))⟩, ⟨(some 8), none, (.mov (.t 14))⟩] [0, 1, 6, 7, 8]) (.block 0 (.loop (.seq (.seq (.reg [⟨(some 15), none, (.mov (.t 8))⟩, ⟨(some 16), none, (.bin .geq (.t 15) (.k (.int .i64 ((0 : Nat) : Int))))⟩] [0, 1, 6, 7, 8, 16]) (.cond (.t 16) .skip (.exit 0))) (.seq (.block 1 (.seq (.reg [⟨(some 19), none, (.mov (.t 7))⟩, ⟨(some 20), none, (.mov (.t 0))⟩, ⟨(some 21), none, (.mov (.t 8))⟩, ⟨(some 22), none, (.call (.k (.fn (.func 64) [] [])) [(.t 20), (.t 21)])⟩, ⟨(some 23), none, (.call (.k (.fn (.func 99) [] [])) [(.t 19), (.t 22)])⟩, ⟨(some 7), none, (.mov (.t 23))⟩] [0, 1, 6, 7, 8]) (.seq (.reg [⟨(some 24), none, (.mov (.t 7))⟩, ⟨(some 25), none, (.mov (.t 1))⟩, ⟨(some 26), none, (.call (.k (.fn (.func 56) [] [])) [(.t 24), (.t 25)])⟩, ⟨(some 27), none, (.bin .geq (.t 26) (.k (.int .i64 ((0 : Nat) : Int))))⟩, ⟨(some 9), none, (.mov (.t 27))⟩] [0, 1, 6, 7, 8, 9]) (.seq (.seq (.reg [⟨(some 28), none, (.mov (.t 9))⟩] [0, 1, 6, 7, 8, 9, 28]) (.cond (.t 28) (.reg [⟨(some 29), none, (.mov (.t 7))⟩, ⟨(some 30), none, (.mov (.t 1))⟩, ⟨(some 31), none, (.call (.k (.fn (.func 58) [] [])) [(.t 29), (.t 30)])⟩, ⟨(some 7), none, (.mov (.t 31))⟩] [0, 1, 6, 7, 8, 9]) .skip)) (.reg [⟨(some 32), none, (.mov (.t 6))⟩, ⟨(some 33), none, (.mov (.t 9))⟩, ⟨(some 34), none, (.call (.k (.fn (.func 99) [] [])) [(.t 32), (.t 33)])⟩, ⟨(some 6), none, (.mov (.t 34))⟩] [0, 1, 6, 7, 8]))))) (.reg [⟨(some 17), none, (.mov (.t 8))⟩, ⟨(some 18), none, (.bin .sub (.t 17) (.k (.int .i64 ((1 : Nat) : Int))))⟩, ⟨(some 8), none, (.mov (.t 18))⟩] [0, 1, 6, 7, 8])))))) (.seq (.reg [⟨(some 35), none, (.mov (.t 6))⟩, ⟨(some 36), none, (.call (.k (.fn (.func 53) [] [])) [(.t 35)])⟩, ⟨(some 37), none, (.mov (.t 7))⟩, ⟨(some 38), none, (.call (.k (.fn (.func 53) [] [])) [(.t 37)])⟩, ⟨(some 4), none, (.mov (.t 36))⟩, ⟨(some 5), none, (.mov (.t 38))⟩] [4, 5]) .ret)))))
def rs52 : List RV := [(.t 4), (.t 5)]
theorem co52 : compFn Go.Proofs.Tryd.prog Go.Proofs.Tryd.f52 pl52 = some (ac52, rs52) := by kernel_rfl
theorem enter52 {args : List AV} {H : AHeap} {Q : AV → AHeap → Prop} (hn : args.length ≤ 39) (h : W Go.Proofs.Tryd.prog ac52 (retN rs52 Q) ⟨[], initE args 0, H⟩) : Run Go.Proofs.Tryd.prog 52 args H Q := Run_fn2 mixed Go.Proofs.Tryd.func52 (by kernel_rfl) co52 (n := 39) (by kernel_rfl) hn h
def ac53 : ACode := (.seq (.reg [⟨(some 2), none, (.mov (.k (.seq 0 [] true)))⟩] [0]) (.seq (.reg [⟨(some 6), none, (.mov (.t 0))⟩, ⟨(some 7), none, (.len false (.t 6))⟩, ⟨(some 3), none, (.mov (.t 7))⟩] [0, 3]) (.seq (.block 0 (.loop (.seq (.seq (.reg [⟨(some 8), none, (.mov (.t 3))⟩, ⟨(some 9), none, (.bin .gtr (.t 8) (.k (.int .i64 ((0 : Nat) : Int))))⟩, ⟨(some 10), none, (.mov (.t 9))⟩, ⟨(some 11), (some (10, true)), (.mov (.t 0))⟩, ⟨(some 12), (some (10, true)), (.mov (.t 3))⟩, ⟨(some 13), (some (10, true)), (.bin .sub (.t 12) (.k (.int .i64 ((1 : Nat) : Int))))⟩, ⟨(some 14), (some (10, true)), (.idxA 1 (.t 11) (.t 13))⟩, ⟨(some 15), (some (10, true)), (.load none (.t 14))⟩, ⟨(some 16), (some (10, true)), (.bin .eql (.t 15) (.k (.int .u32 ((0 : Nat) : Int))))⟩, ⟨(some 17), none, (.pick (.t 10) (.t 16) (.k (.bool false)))⟩] [0, 3, 17]) (.cond (.t 17) .skip (.exit 0))) (.block 1 (.reg [⟨(some 18), none, (.mov (.t 3))⟩, ⟨(some 19), none, (.bin .sub (.t 18) (.k (.int .i64 ((1 : Nat) : Int))))⟩, ⟨(some 3), none, (.mov (.t 19))⟩] [0, 3]))))) (.seq (.reg [⟨(some 4), none, (.mov (.k (.seq 0 [] true)))⟩] [0, 3, 4]) (.seq (.seq (.reg [⟨(some 5), none, (.mov (.k (.int .i64 ((0 : Nat) : Int))))⟩] [0, 3, 4, 5]) (.block 2 (.loop (.seq (.seq (.reg [⟨(some 20), none, (.mov (.t 5))⟩, ⟨(some 21), none, (.mov (.t 3))⟩, ⟨(some 22), none, (.bin .lss (.t 20) (.t 21))⟩] [0, 3, 4, 5, 22]) (.cond (.t 22) .skip (.exit 2))) (.seq (.block 3 (.reg [⟨(some 25), none, (.mov (.t 4))⟩, ⟨(some 26), none, (.mov (.t 0))⟩, ⟨(some 27), none, (.mov (.t 5))⟩, ⟨(some 28), none, (.idxA 1 (.t 26) (.t 27))⟩, ⟨(some 29), none, (.load none (.t 28))⟩, ⟨(some 30), none, (.bsl [(.int .u32 ((0 : Nat) : Int))] 1 1 [(0, (1, (.t 29)))])⟩, ⟨(some 31), none, (.app 45 1 4 (.t 25) (.t 30))⟩, ⟨(some 4), none, (.mov (.t 31))⟩] [0, 3, 4, 5])) (.reg [⟨(some 23), none, (.mov (.t 5))⟩, ⟨(some 24), none, (.bin .add (.t 23) (.k (.int .i64 ((1 : Nat) : Int))))⟩, ⟨(some 5), none, (.mov (.t 24))⟩] [0, 3, 4, 5])))))) (.seq (.reg [⟨(some 32), none, (.mov (.t 4))⟩, ⟨(some 2), none, (.mov (.t 32))⟩] [2]) .ret))))))
def rs53 : List RV := [(.t 2)]
theorem co53 : compFn Go.Proofs.Tryd.prog Go.Proofs.Tryd.f53 pl53 = some (ac53, rs53) := by kernel_rfl
theorem enter53 {args : List AV} {H : AHeap} {Q : AV → AHeap → Prop} (hn : args.length ≤ 33) (h : W Go.Proofs.Tryd.prog ac53 (retN rs53 Q) ⟨[], initE args 0, H⟩) : Run Go.Proofs.Tryd.prog 53 args H Q := Run_fn2 mixed Go.Proofs.Tryd.func53 (by kernel_rfl) co53 (n := 33) (by kernel_rfl) hn h
def ac55 : ACode := (.seq (.reg [⟨(some 4), none, (.mov (.k (.seq 0 [] true)))⟩] [0, 1]) (.seq (.reg [⟨(some 5), none, (.mov (.k (.seq 0 [] true)))⟩] [0, 1, 5]) (.seq (.reg [⟨(some 6), none, (.mov (.k (.int .u64 ((0 : Nat) : Int))))⟩] [0, 1, 5, 6]) (.seq (.seq (.reg [⟨(some 7), none, (.mov (.k (.int .i64 ((0 : Nat) : Int))))⟩] [0, 1, 5, 6, 7]) (.block 0 (.loop (.seq (.seq (.reg [⟨(some 8), none, (.mov (.t 7))⟩, ⟨(some 9), none, (.mov (.t 0))⟩, ⟨(some 10), none, (.len false (.t 9))⟩, ⟨(some 11), none, (.bin .lss (.t 8) (.t 10))⟩, ⟨(some 12), none, (.mov (.t 11))⟩, ⟨(some 13), (some (12, false)), (.mov (.t 6))⟩, ⟨(some 14), (some (12, false)), (.bin .gtr (.t 13) (.k (.int .u64 ((0 : Nat) : Int))))⟩, ⟨(some 15), none, (.pick (.t 12) (.k (.bool true)) (.t 14))⟩] [0, 1, 5, 6, 7, 15]) (.cond (.t 15) .skip (.exit 0))) (.seq (.block 1 (.seq (.reg [⟨(some 18), none, (.mov (.t 6))⟩, ⟨(some 19), none, (.mov (.t 0))⟩, ⟨(some 20), none, (.mov (.t 7))⟩, ⟨(some 21), none, (.call (.k (.fn (.func 100) [] [])) [(.t 19), (.t 20)])⟩, ⟨(some 22), none, (.conv .u64 (.t 21))⟩, ⟨(some 23), none, (.mov (.t 1))⟩, ⟨(some 24), none, (.conv .u64 (.t 23))⟩, ⟨(some 25), none, (.bin .mul (.t 22) (.t 24))⟩, ⟨(some 26), none, (.bin .add (.t 18) (.t 25))⟩, ⟨(some 6), none, (.mov (.t 26))⟩] [0, 1, 5, 6, 7]) (.seq (.reg [⟨(some 27), none, (.mov (.t 5))⟩, ⟨(some 28), none, (.mov (.t 6))⟩, ⟨(some 29), none, (.bin .rem (.t 28) (.k (.int .u64 ((4294967296 : Nat) : Int))))⟩, ⟨(some 30), none, (.conv .u32 (.t 29))⟩, ⟨(some 31), none, (.bsl [(.int .u32 ((0 : Nat) : Int))] 1 1 [(0, (1, (.t 30)))])⟩, ⟨(some 32), none, (.app 45 1 4 (.t 27) (.t 31))⟩, ⟨(some 5), none, (.mov (.t 32))⟩] [0, 1, 5, 6, 7]) (.reg [⟨(some 33), none, (.mov (.t 6))⟩, ⟨(some 34), none, (.bin .quo (.t 33) (.k (.int .u64 ((4294967296 : Nat) : Int))))⟩, ⟨(some 6), none, (.mov (.t 34))⟩] [0, 1, 5, 6, 7])))) (.reg [⟨(some 16), none, (.mov (.t 7))⟩, ⟨(some 17), none, (.bin .add (.t 16) (.k (.int .i64 ((1 : Nat) : Int))))⟩, ⟨(some 7), none, (.mov (.t 17))⟩] [0, 1, 5, 6, 7])))))) (.seq (.reg [⟨(some 35), none, (.mov (.t 5))⟩, ⟨(some 36), none, (.call (.k (.fn (.func 53) [] [])) [(.t 35)])⟩, ⟨(some 4), none, (.mov (.t 36))⟩] [4]) .ret)))))
def rs55 : List RV := [(.t 4)]
theorem co55 : compFn Go.Proofs.Tryd.prog Go.Proofs.Tryd.f55 pl55 = some (ac55, rs55) := by kernel_rfl
theorem enter55 {args : List AV} {H : AHeap} {Q : AV → AHeap → Prop} (hn : args.length ≤ 37) (h : W Go.Proofs.Tryd.prog ac55 (retN rs55 Q) ⟨[], initE args 0, H⟩) : Run Go.Proofs.Tryd.prog 55 args H Q := Run_fn2 mixed Go.Proofs.Tryd.func55 (by kernel_rfl) co55 (n := 37) (by kernel_rfl) hn h
def ac56 : ACode := (.seq (.reg [⟨(some 4), none, (.mov (.k (.int .i64 ((0 : Nat) : Int))))⟩] [0, 1]) (.seq (.seq (.reg [⟨(some 8), none, (.mov (.t 0))⟩, ⟨(some 9), none, (.len false (.t 8))⟩, ⟨(some 10), none, (.mov (.t 1))⟩, ⟨(some 11), none, (.len false (.t 10))⟩, ⟨(some 12), none, (.gr true (.t 9) (.t 11))⟩, ⟨(some 13), none, (.bin .sub (.t 12) (.k (.int .i64 ((1 : Nat) : Int))))⟩, ⟨(some 5), none, (.mov (.t 13))⟩] [0, 1, 5]) (.block 0 (.loop (.seq (.seq (.reg [⟨(some 14), none, (.mov (.t 5))⟩, ⟨(some 15), none, (.bin .geq (.t 14) (.k (.int .i64 ((0 : Nat) : Int))))⟩] [0, 1, 5, 15]) (.cond (.t 15) .skip (.exit 0))) (.seq (.block 1 (.seq (.reg [⟨(some 18), none, (.mov (.t 0))⟩, ⟨(some 19), none, (.mov (.t 5))⟩, ⟨(some 20), none, (.call (.k (.fn (.func 100) [] [])) [(.t 18), (.t 19)])⟩, ⟨(some 21), none, (.mov (.t 1))⟩, ⟨(some 22), none, (.mov (.t 5))⟩, ⟨(some 23), none, (.call (.k (.fn (.func 100) [] [])) [(.t 21), (.t 22)])⟩, ⟨(some 6), none, (.mov (.t 20))⟩, ⟨(some 7), none, (.mov (.t 23))⟩] [0, 1, 5, 6, 7]) (.seq (.seq (.reg [⟨(some 24), none, (.mov (.t 6))⟩, ⟨(some 25), none, (.mov (.t 7))⟩, ⟨(some 26), none, (.bin .lss (.t 24) (.t 25))⟩] [0, 1, 5, 6, 7, 26]) (.cond (.t 26) (.seq (.reg [⟨(some 4), none, (.mov (.k (.int .i64 (-1))))⟩] [4]) .ret) .skip)) (.seq (.reg [⟨(some 27), none, (.mov (.t 6))⟩, ⟨(some 28), none, (.mov (.t 7))⟩, ⟨(some 29), none, (.bin .gtr (.t 27) (.t 28))⟩] [0, 1, 5, 29]) (.cond (.t 29) (.seq (.reg [⟨(some 4), none, (.mov (.k (.int .i64 ((1 : Nat) : Int))))⟩] [4]) .ret) .skip))))) (.reg [⟨(some 16), none, (.mov (.t 5))⟩, ⟨(some 17), none, (.bin .sub (.t 16) (.k (.int .i64 ((1 : Nat) : Int))))⟩, ⟨(some 5), none, (.mov (.t 17))⟩] [0, 1, 5])))))) (.seq (.reg [⟨(some 4), none, (.mov (.k (.int .i64 ((0 : Nat) : Int))))⟩] [4]) .ret)))
def rs56 : List RV := [(.t 4)]
theorem co56 : compFn Go.Proofs.Tryd.prog Go.Proofs.Tryd.f56 pl56 = some (ac56, rs56) := by kernel_rfl
theorem enter56 {args : List AV} {H : AHeap} {Q : AV → AHeap → Prop} (hn : args.length ≤ 30) (h : W Go.Proofs.Tryd.prog ac56 (retN rs56 Q) ⟨[], initE args 0, H⟩) : Run Go.Proofs.Tryd.prog 56 args H Q := Run_fn2 mixed Go.Proofs.Tryd.func56 (by kernel_rfl) co56 (n := 30) (by kernel_rfl) hn h
def ac58 : ACode := (.seq (.reg [⟨(some 4), none, (.mov (.k (.seq 0 [] true)))⟩] [0, 1]) (.seq (.reg [⟨(some 5), none, (.mov (.k (.seq 0 [] true)))⟩] [0, 1, 5]) (.seq (.reg [⟨(some 6), none, (.mov (.k (.int .u64 ((0 : Nat) : Int))))⟩] [0, 1, 5, 6]) (.seq (.seq (.reg [⟨(some 7), none, (.mov (.k (.int .i64 ((0 : Nat) : Int))))⟩] [0, 1, 5, 6, 7]) (.block 0 (.loop (.seq (.seq (.reg [⟨(some 10), none, (.mov (.t 7))⟩, ⟨(some 11), none, (.mov (.t 0))⟩, ⟨(some 12), none, (.len false (.t 11))⟩, ⟨(some 13), none, (.bin .lss (.t 10) (.t 12))⟩] [0, 1, 5, 6, 7, 13]) (.cond (.t 13) .skip (.exit 0))) (.seq (.block 1 (.seq (.reg [⟨(some 16), none, (.mov (.t 0))⟩, ⟨(some 17), none, (.mov (.t 7))⟩, ⟨(some 18), none, (.call (.k (.fn (.func 100) [] [])) [(.t 16), (.t 17)])⟩, ⟨(some 19), none, (.conv .u64 (.t 18))⟩, ⟨(some 20), none, (.mov (.t 1))⟩, ⟨(some 21), none, (.mov (.t 7))⟩, ⟨(some 22), none, (.call (.k (.fn (.func 100) [] [])) [(.t 20), (.t 21)])⟩, ⟨(some 23), none, (.conv .u64 (.t 22))⟩, ⟨(some 24), none, (.mov (.t 6))⟩, ⟨(some 25), none, (.bin .add (.t 23) (.t 24))⟩, ⟨(some 8), none, (.mov (.t 19))⟩, ⟨(some 9), none, (.mov (.t 25))⟩] [0, 1, 5, 7, 8, 9]) (.seq (.reg [⟨(some 6), none, (.mov (.k (.int .u64 ((0 : Nat) : Int))))⟩] [0, 1, 5, 6, 7, 8, 9]) (.seq (.seq (.reg [⟨(some 26), none, (.mov (.t 8))⟩, ⟨(some 27), none, (.mov (.t 9))⟩, ⟨(some 28), none, (.bin .lss (.t 26) (.t 27))⟩] [0, 1, 5, 6, 7, 8, 9, 28]) (.cond (.t 28) (.seq (.reg [⟨(some 29), none, (.mov (.t 8))⟩, ⟨(some 30), none, (.bin .add (.t 29) (.k (.int .u64 ((4294967296 : Nat) : Int))))⟩, ⟨(some 8), none, (.mov (.t 30))⟩] [0, 1, 5, 7, 8, 9]) (.reg [⟨(some 6), none, (.mov (.k (.int .u64 ((1 : Nat) : Int))))⟩] [0, 1, 5, 6, 7, 8, 9])) .skip)) (.reg [⟨(some 31), none, (.mov (.t 5))⟩, ⟨(some 32), none, (.mov (.t 8))⟩, ⟨(some 33), none, (.mov (.t 9))⟩, ⟨(some 34), none, (.bin .sub (.t 32) (.t 33))⟩, ⟨(some 35), none, (.conv .u32 (.t 34))⟩, ⟨(some 36), none, (.bsl [(.int .u32 ((0 : Nat) : Int))] 1 1 [(0, (1, (.t 35)))])⟩, ⟨(some 37), none, (.app 45 1 4 (.t 31) (.t 36))⟩, ⟨(some 5), none, (.mov (.t 37))⟩] [0, 1, 5, 6, 7]))))) (.reg [⟨(some 14), none, (.mov (.t 7))⟩, ⟨(some 15), none, (.bin .add (.t 14) (.k (.int .i64 ((1 : Nat) : Int))))⟩, ⟨(some 7), none, (.mov (.t 15))⟩] [0, 1, 5, 6, 7])))))) (.seq (.reg [⟨(some 38), none, (.mov (.t 5))⟩, ⟨(some 39), none, (.call (.k (.fn (.func 53) [] [])) [(.t 38)])⟩, ⟨(some 4), none, (.mov (.t 39))⟩] [4]) .ret)))))
def rs58 : List RV := [(.t 4)]
theorem co58 : compFn Go.Proofs.Tryd.prog Go.Proofs.Tryd.f58 pl58 = some (ac58, rs58) := by kernel_rfl
theorem enter58 {args : List AV} {H : AHeap} {Q : AV → AHeap → Prop} (hn : args.length ≤ 40) (h : W Go.Proofs.Tryd.prog ac58 (retN rs58 Q) ⟨[], initE args 0, H⟩) : Run Go.Proofs.Tryd.prog 58 args H Q := Run_fn2 mixed Go.Proofs.Tryd.func58 (by kernel_rfl) co58 (n := 40) (by kernel_rfl) hn h
def ac59 : ACode := (.seq (.reg [⟨(some 4), none, (.mov (.k (.seq 0 [] true)))⟩, ⟨(some 5), none, (.mov (.k (.int .i64 ((0 : Nat) : Int))))⟩] [0, 1]) (.seq (.seq (.reg [⟨(some 11), none, (.mov (.t 1))⟩, ⟨(some 12), none, (.bin .lss (.t 11) (.k (.int .i64 ((0 : Nat) : Int))))⟩] [0, 1, 12]) (.cond (.t 12) (.seq (.reg [⟨(some 4), none, (.mov (.k (.seq 0 [] true)))⟩, ⟨(some 5), none, (.mov (.k (.int .i64 ((2 : Nat) : Int))))⟩] [4, 5]) .ret) .skip)) (.seq (.seq (.reg [⟨(some 13), none, (.mov (.t 1))⟩, ⟨(some 14), none, (.bin .gtr (.t 13) (.k (.int .i64 ((65536 : Nat) : Int))))⟩] [0, 1, 14]) (.cond (.t 14) (.seq (.reg [⟨(some 4), none, (.mov (.k (.seq 0 [] true)))⟩, ⟨(some 5), none, (.mov (.k (.int .i64 ((3 : Nat) : Int))))⟩] [4, 5]) .ret) .skip)) (.seq (.reg [⟨(some 15), none, (.mov (.t 0))⟩, ⟨(some 16), none, (.len false (.t 15))⟩, ⟨(some 17), none, (.mov (.t 1))⟩, ⟨(some 18), none, (.bin .quo (.t 17) (.k (.int .i64 ((32 : Nat) : Int))))⟩, ⟨(some 19), none, (.bin .add (.t 16) (.t 18))⟩, ⟨(some 20), none, (.bin .add (.t 19) (.k (.int .i64 ((1 : Nat) : Int))))⟩, ⟨(some 21), none, (.mks 45 1 4 [(.int .u32 ((0 : Nat) : Int))] (.t 20) (.t 20))⟩, ⟨(some 6), none, (.mov (.t 21))⟩] [0, 1, 6]) (.seq (.reg [⟨(some 22), none, (.mov (.t 1))⟩, ⟨(some 23), none, (.bin .rem (.t 22) (.k (.int .i64 ((32 : Nat) : Int))))⟩, ⟨(some 7), none, (.mov (.t 23))⟩] [0, 1, 6, 7]) (.seq (.seq (.reg [⟨(some 24), none, (.mov (.t 0))⟩, ⟨(some 25), none, (.len false (.t 24))⟩, ⟨(some 26), none, (.mov (.k (.int .i64 ((0 : Nat) : Int))))⟩] [1, 6, 7, 24, 25, 26]) (.block 0 (.loop (.seq (.reg [⟨(some 27), none, (.bin .lss (.t 26) (.t 25))⟩] [1, 6, 7, 24, 25, 26, 27]) (.seq (.cond (.t 27) .skip (.exit 0)) (.seq (.block 1 (.seq (.reg [⟨(some 28), none, (.mov (.t 26))⟩, ⟨(some 29), none, (.idxA 1 (.t 24) (.t 26))⟩, ⟨(some 30), none, (.load none (.t 29))⟩, ⟨(some 8), none, (.mov (.t 28))⟩, ⟨(some 9), none, (.mov (.t 30))⟩] [1, 6, 7, 8, 9, 24, 25, 26]) (.seq (.reg [⟨(some 31), none, (.mov (.t 9))⟩, ⟨(some 32), none, (.conv .u64 (.t 31))⟩, ⟨(some 33), none, (.mov (.t 7))⟩, ⟨(some 34), none, (.bin .shl (.t 32) (.t 33))⟩, ⟨(some 10), none, (.mov (.t 34))⟩] [1, 6, 7, 8, 10, 24, 25, 26]) (.seq (.reg [⟨(some 35), none, (.mov (.t 6))⟩, ⟨(some 36), none, (.mov (.t 8))⟩, ⟨(some 37), none, (.mov (.t 1))⟩, ⟨(some 38), none, (.bin .quo (.t 37) (.k (.int .i64 ((32 : Nat) : Int))))⟩, ⟨(some 39), none, (.bin .add (.t 36) (.t 38))⟩, ⟨(some 40), none, (.idxA 1 (.t 35) (.t 39))⟩, ⟨(some 41), none, (.load none (.t 40))⟩, ⟨(some 42), none, (.mov (.t 10))⟩, ⟨(some 43), none, (.conv .u32 (.t 42))⟩, ⟨(some 44), none, (.bin .or (.t 41) (.t 43))⟩, ⟨(some 45), none, (.idxA 1 (.t 35) (.t 39))⟩, ⟨none, none, (.store 1 (.t 45) (.t 44))⟩] [1, 6, 7, 8, 10, 24, 25, 26]) (.reg [⟨(some 46), none, (.mov (.t 6))⟩, ⟨(some 47), none, (.mov (.t 8))⟩, ⟨(some 48), none, (.mov (.t 1))⟩, ⟨(some 49), none, (.bin .quo (.t 48) (.k (.int .i64 ((32 : Nat) : Int))))⟩, ⟨(some 50), none, (.bin .add (.t 47) (.t 49))⟩, ⟨(some 51), none, (.bin .add (.t 50) (.k (.int .i64 ((1 : Nat) : Int))))⟩, ⟨(some 52), none, (.idxA 1 (.t 46) (.t 51))⟩, ⟨(some 53), none, (.load none (.t 52))⟩, ⟨(some 54), none, (.mov (.t 10))⟩, ⟨(some 55), none, (.bin .shr (.t 54) (.k (.int .u64 ((32 : Nat) : Int))))⟩, ⟨(some 56), none, (.conv .u32 (.t 55))⟩, ⟨(some 57), none, (.bin .or (.t 53) (.t 56))⟩, ⟨(some 58), none, (.idxA 1 (.t 46) (.t 51))⟩, ⟨none, none, (.store 1 (.t 58) (.t 57))⟩] [1, 6, 7, 24, 25, 26]))))) (.reg [⟨(some 59), none, (.bin .add (.t 26) (.k (.int .i64 ((1 : Nat) : Int))))⟩, ⟨(some 26), none, (.mov (.t 59))⟩] [1, 6, 7, 24, 25, 26]))))))) (.seq (.reg [⟨(some 60), none, (.mov (.t 6))⟩, ⟨(some 61), none, (.call (.k (.fn (.func 90) [] [])) [(.t 60)])⟩, ⟨(some 4), none, (.mov (.t 61))⟩, ⟨(some 5), none, (.mov (.k (.int .i64 ((0 : Nat) : Int))))⟩] [4, 5]) .ret)))))))
def rs59 : List RV := [(.t 4), (.t 5)]
theorem co59 : compFn Go.Proofs.Tryd.prog Go.Proofs.Tryd.f59 pl59 = some (ac59, rs59) := by kernel_rfl
theorem enter59 {args : List AV} {H : AHeap} {Q : AV → AHeap → Prop} (hn : args.length ≤ 62) (h : W Go.Proofs.Tryd.prog ac59 (retN rs59 Q) ⟨[], initE args 0, H⟩) : Run Go.Proofs.Tryd.prog 59 args H Q := Run_fn2 mixed Go.Proofs.Tryd.func59 (by kernel_rfl) co59 (n := 62) (by kernel_rfl) hn h
def ac60 : ACode := (.seq (.reg [⟨(some 4), none, (.mov (.k (.seq 0 [] true)))⟩, ⟨(some 5), none, (.mov (.k (.int .i64 ((0 : Nat) : Int))))⟩] [0, 1]) (.seq (.seq (.reg [⟨(some 11), none, (.mov (.t 1))⟩, ⟨(some 12), none, (.bin .lss (.t 11) (.k (.int .i64 ((0 : Nat) : Int))))⟩] [0, 1, 12]) (.cond (.t 12) (.seq (.reg [⟨(some 4), none, (.mov (.k (.seq 0 [] true)))⟩, ⟨(some 5), none, (.mov (.k (.int .i64 ((2 : Nat) : Int))))⟩] [4, 5]) .ret) .skip)) (.seq (.reg [⟨(some 13), none, (.mov (.t 0))⟩, ⟨(some 14), none, (.call (.k (.fn (.func 90) [] [])) [(.t 13)])⟩, ⟨(some 0), none, (.mov (.t 14))⟩] [0, 1]) (.seq (.seq (.reg [⟨(some 15), none, (.mov (.t 1))⟩, ⟨(some 16), none, (.bin .quo (.t 15) (.k (.int .i64 ((32 : Nat) : Int))))⟩, ⟨(some 17), none, (.mov (.t 0))⟩, ⟨(some 18), none, (.len false (.t 17))⟩, ⟨(some 19), none, (.bin .geq (.t 16) (.t 18))⟩] [0, 1, 19]) (.cond (.t 19) (.seq (.reg [⟨(some 4), none, (.mov (.k (.seq 0 [] true)))⟩, ⟨(some 5), none, (.mov (.k (.int .i64 ((0 : Nat) : Int))))⟩] [4, 5]) .ret) .skip)) (.seq (.reg [⟨(some 20), none, (.mov (.t 0))⟩, ⟨(some 21), none, (.mov (.t 1))⟩, ⟨(some 22), none, (.bin .quo (.t 21) (.k (.int .i64 ((32 : Nat) : Int))))⟩, ⟨(some 23), none, (.slc 1 (.t 20) (some (.t 22)) none none)⟩, ⟨(some 0), none, (.mov (.t 23))⟩] [0, 1]) (.seq (.reg [⟨(some 24), none, (.mov (.t 1))⟩, ⟨(some 25), none, (.bin .rem (.t 24) (.k (.int .i64 ((32 : Nat) : Int))))⟩, ⟨(some 6), none, (.mov (.t 25))⟩] [0, 6]) (.seq (.reg [⟨(some 26), none, (.mov (.t 0))⟩, ⟨(some 27), none, (.len false (.t 26))⟩, ⟨(some 28), none, (.mks 45 1 4 [(.int .u32 ((0 : Nat) : Int))] (.t 27) (.t 27))⟩, ⟨(some 7), none, (.mov (.t 28))⟩] [0, 6, 7]) (.seq (.seq (.reg [⟨(some 29), none, (.mov (.t 0))⟩, ⟨(some 30), none, (.len false (.t 29))⟩, ⟨(some 31), none, (.mov (.k (.int .i64 ((0 : Nat) : Int))))⟩] [0, 6, 7, 29, 30, 31]) (.block 0 (.loop (.seq (.reg [⟨(some 32), none, (.bin .lss (.t 31) (.t 30))⟩] [0, 6, 7, 29, 30, 31, 32]) (.seq (.cond (.t 32) .skip (.exit 0)) (.seq (.block 1 (.seq (.reg [⟨(some 33), none, (.mov (.t 31))⟩, ⟨(some 34), none, (.idxA 1 (.t 29) (.t 31))⟩, ⟨(some 35), none, (.load none (.t 34))⟩, ⟨(some 8), none, (.mov (.t 33))⟩, ⟨(some 9), none, (.mov (.t 35))⟩] [0, 6, 7, 8, 9, 29, 30, 31]) (.seq (.reg [⟨(some 36), none, (.mov (.t 9))⟩, ⟨(some 37), none, (.conv .u64 (.t 36))⟩, ⟨(some 10), none, (.mov (.t 37))⟩] [0, 6, 7, 8, 10, 29, 30, 31]) (.seq (.seq (.reg [⟨(some 38), none, (.mov (.t 8))⟩, ⟨(some 39), none, (.bin .add (.t 38) (.k (.int .i64 ((1 : Nat) : Int))))⟩, ⟨(some 40), none, (.mov (.t 0))⟩, ⟨(some 41), none, (.len false (.t 40))⟩, ⟨(some 42), none, (.bin .lss (.t 39) (.t 41))⟩] [0, 6, 7, 8, 10, 29, 30, 31, 42]) (.cond (.t 42) (.reg [⟨(some 43), none, (.mov (.t 10))⟩, ⟨(some 44), none, (.mov (.t 0))⟩, ⟨(some 45), none, (.mov (.t 8))⟩, ⟨(some 46), none, (.bin .add (.t 45) (.k (.int .i64 ((1 : Nat) : Int))))⟩, ⟨(some 47), none, (.idxA 1 (.t 44) (.t 46))⟩, ⟨(some 48), none, (.load none (.t 47))⟩, ⟨(some 49), none, (.conv .u64 (.t 48))⟩, ⟨(some 50), none, (.bin .shl (.t 49) (.k (.int .u64 ((32 : Nat) : Int))))⟩, ⟨(some 51), none, (.bin .or (.t 43) (.t 50))⟩, ⟨(some 10), none, (.mov (.t 51))⟩] [0, 6, 7, 8, 10, 29, 30, 31]) .skip)) (.reg [⟨(some 52), none, (.mov (.t 7))⟩, ⟨(some 53), none, (.mov (.t 8))⟩, ⟨(some 54), none, (.mov (.t 10))⟩, ⟨(some 55), none, (.mov (.t 6))⟩, ⟨(some 56), none, (.bin .shr (.t 54) (.t 55))⟩, ⟨(some 57), none, (.conv .u32 (.t 56))⟩, ⟨(some 58), none, (.idxA 1 (.t 52) (.t 53))⟩, ⟨none, none, (.store 1 (.t 58) (.t 57))⟩] [0, 6, 7, 29, 30, 31]))))) (.reg [⟨(some 59), none, (.bin .add (.t 31) (.k (.int .i64 ((1 : Nat) : Int))))⟩, ⟨(some 31), none, (.mov (.t 59))⟩] [0, 6, 7, 29, 30, 31]))))))) (.seq (.reg [⟨(some 60), none, (.mov (.t 7))⟩, ⟨(some 61), none, (.call (.k (.fn (.func 90) [] [])) [(.t 60)])⟩, ⟨(some 4), none, (.mov (.t 61))⟩, ⟨(some 5), none, (.mov (.k (.int .i64 ((0 : Nat) : Int))))⟩] [4, 5]) .ret)))))))))
def rs60 : List RV := [(.t 4), (.t 5)]
theorem co60 : compFn Go.Proofs.Tryd.prog Go.Proofs.Tryd.f60 pl60 = some (ac60, rs60) := by kernel_rfl
theorem enter60 {args : List AV} {H : AHeap} {Q : AV → AHeap → Prop} (hn : args.length ≤ 62) (h : W Go.Proofs.Tryd.prog ac60 (retN rs60 Q) ⟨[], initE args 0, H⟩) : Run Go.Proofs.Tryd.prog 60 args H Q := Run_fn2 mixed Go.Proofs.Tryd.func60 (by kernel_rfl) co60 (n := 62) (by kernel_rfl) hn h
def ac61 : ACode := (.seq (.reg [⟨(some 2), none, (.mov (.k (.int .i64 ((0 : Nat) : Int))))⟩] [0]) (.seq (.reg [⟨(some 3), none, (.mov (.t 0))⟩, ⟨(some 4), none, (.call (.k (.fn (.func 90) [] [])) [(.t 3)])⟩, ⟨(some 0), none, (.mov (.t 4))⟩] [0]) (.seq (.seq (.reg [⟨(some 5), none, (.mov (.t 0))⟩, ⟨(some 6), none, (.len false (.t 5))⟩, ⟨(some 7), none, (.bin .eql (.t 6) (.k (.int .i64 ((0 : Nat) : Int))))⟩] [0, 7]) (.cond (.t 7) (.seq (.reg [⟨(some 2), none, (.mov (.k (.int .i64 ((0 : Nat) : Int))))⟩] [2]) .ret) .skip)) (.seq (.reg [⟨(some 8), none, (.mov (.t 0))⟩, ⟨(some 9), none, (.len false (.t 8))⟩, ⟨(some 10), none, (.bin .sub (.t 9) (.k (.int .i64 ((1 : Nat) : Int))))⟩, ⟨(some 11), none, (.bin .mul (.k (.int .i64 ((32 : Nat) : Int))) (.t 10))⟩, ⟨(some 12), none, (.mov (.t 0))⟩, ⟨(some 13), none, (.mov (.t 0))⟩, ⟨(some 14), none, (.len false (.t 13))⟩, ⟨(some 15), none, (.bin .sub (.t 14) (.k (.int .i64 ((1 : Nat) : Int))))⟩, ⟨(some 16), none, (.idxA 1 (.t 12) (.t 15))⟩, ⟨(some 17), none, (.load none (.t 16))⟩, ⟨(some 18), none, (.call (.k (.fn (.func 101) [] [])) [(.t 17)])⟩, ⟨(some 19), none, (.bin .add (.t 11) (.t 18))⟩, ⟨(some 2), none, (.mov (.t 19))⟩] [2]) .ret))))
def rs61 : List RV := [(.t 2)]
theorem co61 : compFn Go.Proofs.Tryd.prog Go.Proofs.Tryd.f61 pl61 = some (ac61, rs61) := by kernel_rfl
theorem enter61 {args : List AV} {H : AHeap} {Q : AV → AHeap → Prop} (hn : args.length ≤ 20) (h : W Go.Proofs.Tryd.prog ac61 (retN rs61 Q) ⟨[], initE args 0, H⟩) : Run Go.Proofs.Tryd.prog 61 args H Q := Run_fn2 mixed Go.Proofs.Tryd.func61 (by kernel_rfl) co61 (n := 20) (by kernel_rfl) hn h
def ac62 : ACode := (.seq (.reg [⟨(some 2), none, (.mov (.k (.int .i64 ((0 : Nat) : Int))))⟩] [0]) (.seq (.reg [⟨(some 6), none, (.mov (.t 0))⟩, ⟨(some 7), none, (.call (.k (.fn (.func 53) [] [])) [(.t 6)])⟩, ⟨(some 3), none, (.mov (.t 7))⟩] [3]) (.seq (.seq (.reg [⟨(some 8), none, (.mov (.t 3))⟩, ⟨(some 9), none, (.len false (.t 8))⟩, ⟨(some 10), none, (.bin .eql (.t 9) (.k (.int .i64 ((0 : Nat) : Int))))⟩] [3, 10]) (.cond (.t 10) (.seq (.reg [⟨(some 2), none, (.mov (.k (.int .i64 ((0 : Nat) : Int))))⟩] [2]) .ret) .skip)) (.seq (.reg [⟨(some 11), none, (.mov (.t 3))⟩, ⟨(some 12), none, (.len false (.t 11))⟩, ⟨(some 13), none, (.bin .sub (.t 12) (.k (.int .i64 ((1 : Nat) : Int))))⟩, ⟨(some 14), none, (.bin .mul (.k (.int .i64 ((32 : Nat) : Int))) (.t 13))⟩, ⟨(some 4), none, (.mov (.t 14))⟩] [3, 4]) (.seq (.seq (.reg [⟨(some 15), none, (.mov (.t 3))⟩, ⟨(some 16), none, (.mov (.t 3))⟩, ⟨(some 17), none, (.len false (.t 16))⟩, ⟨(some 18), none, (.bin .sub (.t 17) (.k (.int .i64 ((1 : Nat) : Int))))⟩, ⟨(some 19), none, (.idxA 1 (.t 15) (.t 18))⟩, ⟨(some 20), none, (.load none (.t 19))⟩, ⟨(some 5), none, (.mov (.t 20))⟩] [4, 5]) (.block 0 (.loop (.seq (.seq (.reg [⟨(some 21), none, (.mov (.t 5))⟩, ⟨(some 22), none, (.bin .gtr (.t 21) (.k (.int .u32 ((0 : Nat) : Int))))⟩] [4, 5, 22]) (.cond (.t 22) .skip (.exit 0))) (.seq (.block 1 (.reg [⟨(some 25), none, (.mov (.t 4))⟩, ⟨(some 26), none, (.bin .add (.t 25) (.k (.int .i64 ((1 : Nat) : Int))))⟩, ⟨(some 4), none, (.mov (.t 26))⟩] [4, 5])) (.reg [⟨(some 23), none, (.mov (.t 5))⟩, ⟨(some 24), none, (.bin .quo (.t 23) (.k (.int .u32 ((2 : Nat) : Int))))⟩, ⟨(some 5), none, (.mov (.t 24))⟩] [4, 5])))))) (.seq (.reg [⟨(some 27), none, (.mov (.t 4))⟩, ⟨(some 2), none, (.mov (.t 27))⟩] [2]) .ret))))))
def rs62 : List RV := [(.t 2)]
theorem co62 : compFn Go.Proofs.Tryd.prog Go.Proofs.Tryd.f62 pl62 = some (ac62, rs62) := by kernel_rfl
theorem enter62 {args : List AV} {H : AHeap} {Q : AV → AHeap → Prop} (hn : args.length ≤ 28) (h : W Go.Proofs.Tryd.prog ac62 (retN rs62 Q) ⟨[], initE args 0, H⟩) : Run Go.Proofs.Tryd.prog 62 args H Q := Run_fn2 mixed Go.Proofs.Tryd.func62 (by kernel_rfl) co62 (n := 28) (by kernel_rfl) hn h
def ac63 : ACode := (.seq (.reg [⟨(some 4), none, (.mov (.k (.bool false)))⟩] [0, 1]) (.seq (.reg [⟨(some 5), none, (.mov (.t 1))⟩, ⟨(some 6), none, (.bin .geq (.t 5) (.k (.int .i64 ((0 : Nat) : Int))))⟩, ⟨(some 7), none, (.mov (.t 6))⟩, ⟨(some 8), (some (7, true)), (.mov (.t 1))⟩, ⟨(some 9), (some (7, true)), (.bin .quo (.t 8) (.k (.int .i64 ((32 : Nat) : Int))))⟩, ⟨(some 10), (some (7, true)), (.mov (.t 0))⟩, ⟨(some 11), (some (7, true)), (.len false (.t 10))⟩, ⟨(some 12), (some (7, true)), (.bin .lss (.t 9) (.t 11))⟩, ⟨(some 13), none, (.pick (.t 7) (.t 12) (.k (.bool false)))⟩, ⟨(some 14), none, (.mov (.t 13))⟩, ⟨(some 15), (some (14, true)), (.mov (.t 0))⟩, ⟨(some 16), (some (14, true)), (.mov (.t 1))⟩, ⟨(some 17), (some (14, true)), (.bin .quo (.t 16) (.k (.int .i64 ((32 : Nat) : Int))))⟩, ⟨(some 18), (some (14, true)), (.idxA 1 (.t 15) (.t 17))⟩, ⟨(some 19), (some (14, true)), (.load none (.t 18))⟩, ⟨(some 20), (some (14, true)), (.mov (.t 1))⟩, ⟨(some 21), (some (14, true)), (.bin .rem (.t 20) (.k (.int .i64 ((32 : Nat) : Int))))⟩, ⟨(some 22), (some (14, true)), (.bin .shr (.t 19) (.t 21))⟩, ⟨(some 23), (some (14, true)), (.bin .and (.t 22) (.k (.int .u32 ((1 : Nat) : Int))))⟩, ⟨(some 24), (some (14, true)), (.bin .eql (.t 23) (.k (.int .u32 ((1 : Nat) : Int))))⟩, ⟨(some 25), none, (.pick (.t 14) (.t 24) (.k (.bool false)))⟩, ⟨(some 4), none, (.mov (.t 25))⟩] [4]) .ret))
def rs63 : List RV := [(.t 4)]
theorem co63 : compFn Go.Proofs.Tryd.prog Go.Proofs.Tryd.f63 pl63 = some (ac63, rs63) := by kernel_rfl
theorem enter63 {args : List AV} {H : AHeap} {Q : AV → AHeap → Prop} (hn : args.length ≤ 26) (h : W Go.Proofs.Tryd.prog ac63 (retN rs63 Q) ⟨[], initE args 0, H⟩) : Run Go.Proofs.Tryd.prog 63 args H Q := Run_fn2 mixed Go.Proofs.Tryd.func63 (by kernel_rfl) co63 (n := 26) (by kernel_rfl) hn h
def ac64 : ACode := (.seq (.reg [⟨(some 4), none, (.mov (.k (.bool false)))⟩] [0, 1]) (.seq (.reg [⟨(some 5), none, (.mov (.t 1))⟩, ⟨(some 6), none, (.bin .geq (.t 5) (.k (.int .i64 ((0 : Nat) : Int))))⟩, ⟨(some 7), none, (.mov (.t 6))⟩, ⟨(some 8), (some (7, true)), (.mov (.t 1))⟩, ⟨(some 9), (some (7, true)), (.bin .quo (.t 8) (.k (.int .i64 ((32 : Nat) : Int))))⟩, ⟨(some 10), (some (7, true)), (.mov (.t 0))⟩, ⟨(some 11), (some (7, true)), (.len false (.t 10))⟩, ⟨(some 12), (some (7, true)), (.bin .lss (.t 9) (.t 11))⟩, ⟨(some 13), none, (.pick (.t 7) (.t 12) (.k (.bool false)))⟩, ⟨(some 14), none, (.mov (.t 13))⟩, ⟨(some 15), (some (14, true)), (.mov (.t 0))⟩, ⟨(some 16), (some (14, true)), (.mov (.t 1))⟩, ⟨(some 17), (some (14, true)), (.bin .quo (.t 16) (.k (.int .i64 ((32 : Nat) : Int))))⟩, ⟨(some 18), (some (14, true)), (.idxA 1 (.t 15) (.t 17))⟩, ⟨(some 19), (some (14, true)), (.load none (.t 18))⟩, ⟨(some 20), (some (14, true)), (.mov (.t 1))⟩, ⟨(some 21), (some (14, true)), (.bin .rem (.t 20) (.k (.int .i64 ((32 : Nat) : Int))))⟩, ⟨(some 22), (some (14, true)), (.bin .shr (.t 19) (.t 21))⟩, ⟨(some 23), (some (14, true)), (.bin .and (.t 22) (.k (.int .u32 ((1 : Nat) : Int))))⟩, ⟨(some 24), (some (14, true)), (.bin .eql (.t 23) (.k (.int .u32 ((1 : Nat) : Int))))⟩, ⟨(some 25), none, (.pick (.t 14) (.t 24) (.k (.bool false)))⟩, ⟨(some 4), none, (.mov (.t 25))⟩] [4]) .ret))
def rs64 : List RV := [(.t 4)]
theorem co64 : compFn Go.Proofs.Tryd.prog Go.Proofs.Tryd.f64 pl64 = some (ac64, rs64) := by kernel_rfl
theorem enter64 {args : List AV} {H : AHeap} {Q : AV → AHeap → Prop} (hn : args.length ≤ 26) (h : W Go.Proofs.Tryd.prog ac64 (retN rs64 Q) ⟨[], initE args 0, H⟩) : Run Go.Proofs.Tryd.prog 64 args H Q := Run_fn2 mixed Go.Proofs.Tryd.func64 (by kernel_rfl) co64 (n := 26) (by kernel_rfl) hn h
def ac65 : ACode := (.seq (.reg [⟨(some 2), none, (.mov (.k (.int .i64 ((0 : Nat) : Int))))⟩] [0]) (.seq (.seq (.reg [⟨(some 5), none, (.mov (.t 0))⟩, ⟨(some 6), none, (.len false (.t 5))⟩, ⟨(some 7), none, (.mov (.k (.int .i64 ((0 : Nat) : Int))))⟩] [5, 6, 7]) (.block 0 (.loop (.seq (.reg [⟨(some 8), none, (.bin .lss (.t 7) (.t 6))⟩] [5, 6, 7, 8]) (.seq (.cond (.t 8) .skip (.exit 0)) (.seq (.block 1 (.seq (.reg [⟨(some 9), none, (.mov (.t 7))⟩, ⟨(some 10), none, (.idxA 1 (.t 5) (.t 7))⟩, ⟨(some 11), none, (.load none (.t 10))⟩, ⟨(some 3), none, (.mov (.t 9))⟩, ⟨(some 4), none, (.mov (.t 11))⟩] [3, 4, 5, 6, 7]) (.seq (.reg [⟨(some 12), none, (.mov (.t 4))⟩, ⟨(some 13), none, (.bin .gtr (.t 12) (.k (.int .u32 ((0 : Nat) : Int))))⟩] [3, 4, 5, 6, 7, 13]) (.cond (.t 13) (.seq (.reg [⟨(some 14), none, (.mov (.t 3))⟩, ⟨(some 15), none, (.bin .mul (.k (.int .i64 ((32 : Nat) : Int))) (.t 14))⟩, ⟨(some 16), none, (.mov (.t 4))⟩, ⟨(some 17), none, (.call (.k (.fn (.func 102) [] [])) [(.t 16)])⟩, ⟨(some 18), none, (.bin .add (.t 15) (.t 17))⟩, ⟨(some 2), none, (.mov (.t 18))⟩] [2]) .ret) .skip)))) (.reg [⟨(some 19), none, (.bin .add (.t 7) (.k (.int .i64 ((1 : Nat) : Int))))⟩, ⟨(some 7), none, (.mov (.t 19))⟩] [5, 6, 7]))))))) (.seq (.reg [⟨(some 2), none, (.mov (.k (.int .i64 ((0 : Nat) : Int))))⟩] [2]) .ret)))
def rs65 : List RV := [(.t 2)]
theorem co65 : compFn Go.Proofs.Tryd.prog Go.Proofs.Tryd.f65 pl65 = some (ac65, rs65) := by kernel_rfl
theorem enter65 {args : List AV} {H : AHeap} {Q : AV → AHeap → Prop} (hn : args.length ≤ 20) (h : W Go.Proofs.Tryd.prog ac65 (retN rs65 Q) ⟨[], initE args 0, H⟩) : Run Go.Proofs.Tryd.prog 65 args H Q := Run_fn2 mixed Go.Proofs.Tryd.func65 (by kernel_rfl) co65 (n := 20) (by kernel_rfl) hn h
def ac66 : ACode := (.seq (.reg [⟨(some 2), none, (.mov (.k (.int .i64 ((0 : Nat) : Int))))⟩] [0]) (.seq (.reg [⟨(some 3), none, (.mov (.k (.int .i64 ((0 : Nat) : Int))))⟩] [0, 3]) (.seq (.block 0 (.loop (.seq (.seq (.reg [⟨(some 4), none, (.mov (.t 0))⟩, ⟨(some 5), none, (.call (.k (.fn (.func 62) [] [])) [(.t 4)])⟩, ⟨(some 6), none, (.bin .gtr (.t 5) (.k (.int .i64 ((0 : Nat) : Int))))⟩, ⟨(some 7), none, (.mov (.t 6))⟩, ⟨(some 8), (some (7, true)), (.mov (.t 0))⟩, ⟨(some 9), (some (7, true)), (.mov (.t 3))⟩, ⟨(some 10), (some (7, true)), (.call (.k (.fn (.func 64) [] [])) [(.t 8), (.t 9)])⟩, ⟨(some 11), (some (7, true)), (.un .not (.t 10))⟩, ⟨(some 12), none, (.pick (.t 7) (.t 11) (.k (.bool false)))⟩] [0, 3, 12]) (.cond (.t 12) .skip (.exit 0))) (.block 1 (.reg [⟨(some 13), none, (.mov (.t 3))⟩, ⟨(some 14), none, (.bin .add (.t 13) (.k (.int .i64 ((1 : Nat) : Int))))⟩, ⟨(some 3), none, (.mov (.t 14))⟩] [0, 3]))))) (.seq (.reg [⟨(some 15), none, (.mov (.t 3))⟩, ⟨(some 2), none, (.mov (.t 15))⟩] [2]) .ret))))
def rs66 : List RV := [(.t 2)]
theorem co66 : compFn Go.Proofs.Tryd.prog Go.Proofs.Tryd.f66 pl66 = some (ac66, rs66) := by kernel_rfl
theorem enter66 {args : List AV} {H : AHeap} {Q : AV → AHeap → Prop} (hn : args.length ≤ 16) (h : W Go.Proofs.Tryd.prog ac66 (retN rs66 Q) ⟨[], initE args 0, H⟩) : Run Go.Proofs.Tryd.prog 66 args H Q := Run_fn2 mixed Go.Proofs.Tryd.func66 (by kernel_rfl) co66 (n := 16) (by kernel_rfl) hn h
def ac67 : ACode := (.seq (.reg [⟨(some 4), none, (.mov (.k (.seq 0 [] true)))⟩] [0, 1]) (.seq (.reg [⟨(some 5), none, (.mov (.k (.seq 0 [] true)))⟩] [0, 1, 5]) (.seq (.seq (.reg [⟨(some 6), none, (.mov (.k (.int .i64 ((0 : Nat) : Int))))⟩] [0, 1, 5, 6]) (.block 0 (.loop (.seq (.seq (.reg [⟨(some 7), none, (.mov (.t 6))⟩, ⟨(some 8), none, (.mov (.t 1))⟩, ⟨(some 9), none, (.bin .quo (.t 8) (.k (.int .i64 ((32 : Nat) : Int))))⟩, ⟨(some 10), none, (.bin .lss (.t 7) (.t 9))⟩] [0, 1, 5, 6, 10]) (.cond (.t 10) .skip (.exit 0))) (.seq (.block 1 (.reg [⟨(some 13), none, (.mov (.t 5))⟩, ⟨(some 14), none, (.bsl [(.int .u32 ((0 : Nat) : Int))] 1 1 [(0, (1, (.k (.int .u32 ((0 : Nat) : Int)))))])⟩, ⟨(some 15), none, (.app 45 1 4 (.t 13) (.t 14))⟩, ⟨(some 5), none, (.mov (.t 15))⟩] [0, 1, 5, 6])) (.reg [⟨(some 11), none, (.mov (.t 6))⟩, ⟨(some 12), none, (.bin .add (.t 11) (.k (.int .i64 ((1 : Nat) : Int))))⟩, ⟨(some 6), none, (.mov (.t 12))⟩] [0, 1, 5, 6])))))) (.seq (.reg [⟨(some 16), none, (.mov (.t 5))⟩, ⟨(some 17), none, (.mov (.t 0))⟩, ⟨(some 18), none, (.app 45 1 4 (.t 16) (.t 17))⟩, ⟨(some 5), none, (.mov (.t 18))⟩] [1, 5]) (.seq (.reg [⟨(some 19), none, (.mov (.t 5))⟩, ⟨(some 20), none, (.mov (.t 1))⟩, ⟨(some 21), none, (.bin .rem (.t 20) (.k (.int .i64 ((32 : Nat) : Int))))⟩, ⟨(some 22), none, (.bin .shl (.k (.int .u32 ((1 : Nat) : Int))) (.t 21))⟩, ⟨(some 23), none, (.call (.k (.fn (.func 55) [] [])) [(.t 19), (.t 22)])⟩, ⟨(some 4), none, (.mov (.t 23))⟩] [4]) .ret)))))
def rs67 : List RV := [(.t 4)]
theorem co67 : compFn Go.Proofs.Tryd.prog Go.Proofs.Tryd.f67 pl67 = some (ac67, rs67) := by kernel_rfl
theorem enter67 {args : List AV} {H : AHeap} {Q : AV → AHeap → Prop} (hn : args.length ≤ 24) (h : W Go.Proofs.Tryd.prog ac67 (retN rs67 Q) ⟨[], initE args 0, H⟩) : Run Go.Proofs.Tryd.prog 67 args H Q := Run_fn2 mixed Go.Proofs.Tryd.func67 (by kernel_rfl) co67 (n := 24) (by kernel_rfl) hn h
def ac68 : ACode := (.seq (.reg [⟨(some 4), none, (.mov (.k (.seq 0 [] true)))⟩] [0, 1]) (.seq (.seq (.reg [⟨(some 7), none, (.mov (.t 1))⟩, ⟨(some 8), none, (.mov (.t 0))⟩, ⟨(some 9), none, (.call (.k (.fn (.func 62) [] [])) [(.t 8)])⟩, ⟨(some 10), none, (.bin .geq (.t 7) (.t 9))⟩] [0, 1, 10]) (.cond (.t 10) (.seq (.reg [⟨(some 4), none, (.mov (.k (.seq 0 [] true)))⟩] [4]) .ret) .skip)) (.seq (.draw [⟨(some 12), none, (.mov (.t 0))⟩, ⟨(some 13), none, (.mov (.t 1))⟩, ⟨(some 14), none, (.bin .quo (.t 13) (.k (.int .i64 ((32 : Nat) : Int))))⟩, ⟨(some 15), none, (.slc 1 (.t 12) (some (.t 14)) none none)⟩, ⟨(some 16), none, (.mov (.t 1))⟩, ⟨(some 17), none, (.bin .rem (.t 16) (.k (.int .i64 ((32 : Nat) : Int))))⟩, ⟨(some 18), none, (.bin .shl (.k (.int .u32 ((1 : Nat) : Int))) (.t 17))⟩, ⟨(some 19), none, (.bsl [(.int .u32 ((0 : Nat) : Int))] 1 1 [(0, (1, (.t 18)))])⟩, ⟨(some 20), none, (.call (.k (.fn (.func 52) [] [])) [(.t 15), (.t 19)])⟩, ⟨(some 11), none, (.mov (.t 20))⟩, ⟨(some 21), none, (.ext (.t 11) 0)⟩, ⟨(some 22), none, (.ext (.t 11) 1)⟩, ⟨(some 5), none, (.mov (.t 21))⟩] [⟨(some 6), none, (.mov (.t 22))⟩] [0, 1, 1, 0, 15, 15, 15, 15, 0, 0, 0, 1024, 2048] [5]) (.seq (.reg [⟨(some 23), none, (.mov (.t 5))⟩, ⟨(some 4), none, (.mov (.t 23))⟩] [4]) .ret))))
def rs68 : List RV := [(.t 4)]
theorem co68 : compFn Go.Proofs.Tryd.prog Go.Proofs.Tryd.f68 pl68 = some (ac68, rs68) := by kernel_rfl
theorem enter68 {args : List AV} {H : AHeap} {Q : AV → AHeap → Prop} (hn : args.length ≤ 24) (h : W Go.Proofs.Tryd.prog ac68 (retN rs68 Q) ⟨[], initE args 0, H⟩) : Run Go.Proofs.Tryd.prog 68 args H Q := Run_fn2 mixed Go.Proofs.Tryd.func68 (by kernel_rfl) co68 (n := 24) (by kernel_rfl) hn h
def ac70 : ACode := (.seq (.reg [⟨(some 2), none, (.mov (.k (.str ⟨#[]⟩)))⟩] [0]) (.seq (.reg [⟨(some 3), none, (.mov (.k (.seq 0 [] true)))⟩] [0, 3]) (.seq (.seq (.reg [⟨(some 14), none, (.mov (.t 0))⟩, ⟨(some 15), none, (.call (.k (.fn (.func 35) [] [])) [(.t 14)])⟩, ⟨(some 4), none, (.mov (.t 15))⟩] [3, 4]) (.block 0 (.loop (.seq (.seq (.reg [⟨(some 16), none, (.mov (.t 4))⟩, ⟨(some 17), none, (.len false (.t 16))⟩, ⟨(some 18), none, (.bin .gtr (.t 17) (.k (.int .i64 ((0 : Nat) : Int))))⟩] [3, 4, 18]) (.cond (.t 18) .skip (.exit 0))) (.block 1 (.seq (.reg [⟨(some 20), none, (.mov (.t 4))⟩, ⟨(some 21), none, (.call (.k (.fn (.func 40) [] [])) [(.t 20), (.k (.int .u32 ((1000000000 : Nat) : Int)))])⟩, ⟨(some 19), none, (.mov (.t 21))⟩, ⟨(some 22), none, (.ext (.t 19) 0)⟩, ⟨(some 23), none, (.ext (.t 19) 1)⟩, ⟨(some 24), none, (.ext (.t 19) 2)⟩, ⟨(some 5), none, (.mov (.t 22))⟩, ⟨(some 6), none, (.mov (.t 23))⟩, ⟨(some 7), none, (.mov (.t 24))⟩] [3, 5, 6]) (.seq (.reg [⟨(some 25), none, (.mov (.t 3))⟩, ⟨(some 26), none, (.mov (.t 6))⟩, ⟨(some 27), none, (.bsl [(.int .u32 ((0 : Nat) : Int))] 1 1 [(0, (1, (.t 26)))])⟩, ⟨(some 28), none, (.app 45 1 4 (.t 25) (.t 27))⟩, ⟨(some 3), none, (.mov (.t 28))⟩] [3, 5]) (.reg [⟨(some 29), none, (.mov (.t 5))⟩, ⟨(some 4), none, (.mov (.t 29))⟩] [3, 4])))))))) (.seq (.seq (.reg [⟨(some 30), none, (.mov (.t 3))⟩, ⟨(some 31), none, (.len false (.t 30))⟩, ⟨(some 32), none, (.bin .eql (.t 31) (.k (.int .i64 ((0 : Nat) : Int))))⟩] [3, 32]) (.cond (.t 32) (.seq (.reg [⟨(some 2), none, (.mov (.k (.str ⟨#[48]⟩)))⟩] [2]) .ret) .skip)) (.seq (.reg [⟨(some 8), none, (.alloc 113 0 [.nilP, (.seq 0 [] true)])⟩] [3, 8]) (.seq (.seq (.reg [⟨(some 33), none, (.mov (.t 3))⟩, ⟨(some 34), none, (.len false (.t 33))⟩, ⟨(some 35), none, (.bin .sub (.t 34) (.k (.int .i64 ((1 : Nat) : Int))))⟩, ⟨(some 9), none, (.mov (.t 35))⟩] [3, 8, 9]) (.block 2 (.loop (.seq (.seq (.reg [⟨(some 36), none, (.mov (.t 9))⟩, ⟨(some 37), none, (.bin .geq (.t 36) (.k (.int .i64 ((0 : Nat) : Int))))⟩] [3, 8, 9, 37]) (.cond (.t 37) .skip (.exit 2))) (.seq (.block 3 (.seq (.reg [⟨(some 10), none, (.alloc 114 1 [(.int .u8 ((0 : Nat) : Int)), (.int .u8 ((0 : Nat) : Int)), (.int .u8 ((0 : Nat) : Int)), (.int .u8 ((0 : Nat) : Int)), (.int .u8 ((0 : Nat) : Int)), (.int .u8 ((0 : Nat) : Int)), (.int .u8 ((0 : Nat) : Int)), (.int .u8 ((0 : Nat) : Int)), (.int .u8 ((0 : Nat) : Int))])⟩] [3, 8, 9, 10]) (.seq (.reg [⟨(some 40), none, (.mov (.t 3))⟩, ⟨(some 41), none, (.mov (.t 9))⟩, ⟨(some 42), none, (.idxA 1 (.t 40) (.t 41))⟩, ⟨(some 43), none, (.load none (.t 42))⟩, ⟨(some 11), none, (.mov (.t 43))⟩] [3, 8, 9, 10, 11]) (.seq (.seq (.reg [⟨(some 12), none, (.mov (.k (.int .i64 ((8 : Nat) : Int))))⟩] [3, 8, 9, 10, 11, 12]) (.block 4 (.loop (.seq (.seq (.reg [⟨(some 44), none, (.mov (.t 12))⟩, ⟨(some 45), none, (.bin .geq (.t 44) (.k (.int .i64 ((0 : Nat) : Int))))⟩] [3, 8, 9, 10, 11, 12, 45]) (.cond (.t 45) .skip (.exit 4))) (.seq (.block 5 (.seq (.reg [⟨(some 48), none, (.mov (.t 12))⟩, ⟨(some 49), none, (.mov (.t 11))⟩, ⟨(some 50), none, (.bin .rem (.t 49) (.k (.int .u32 ((10 : Nat) : Int))))⟩, ⟨(some 51), none, (.bin .add (.k (.int .u32 ((48 : Nat) : Int))) (.t 50))⟩, ⟨(some 52), none, (.conv .u8 (.t 51))⟩, ⟨(some 53), none, (.prim (.idxP 9 1) [(.t 10), (.t 48)])⟩, ⟨none, none, (.store 1 (.t 53) (.t 52))⟩] [3, 8, 9, 10, 11, 12]) (.reg [⟨(some 54), none, (.mov (.t 11))⟩, ⟨(some 55), none, (.bin .quo (.t 54) (.k (.int .u32 ((10 : Nat) : Int))))⟩, ⟨(some 11), none, (.mov (.t 55))⟩] [3, 8, 9, 10, 11, 12]))) (.reg [⟨(some 46), none, (.mov (.t 12))⟩, ⟨(some 47), none, (.bin .sub (.t 46) (.k (.int .i64 ((1 : Nat) : Int))))⟩, ⟨(some 12), none, (.mov (.t 47))⟩] [3, 8, 9, 10, 11, 12])))))) (.seq (.reg [⟨(some 56), none, (.prim (.slcP 9 1) [(.t 10)])⟩, ⟨(some 57), none, (.prim .b2s [(.t 56)])⟩, ⟨(some 13), none, (.mov (.t 57))⟩] [3, 8, 9, 13]) (.seq (.seq (.reg [⟨(some 58), none, (.mov (.t 9))⟩, ⟨(some 59), none, (.mov (.t 3))⟩, ⟨(some 60), none, (.len false (.t 59))⟩, ⟨(some 61), none, (.bin .sub (.t 60) (.k (.int .i64 ((1 : Nat) : Int))))⟩, ⟨(some 62), none, (.bin .eql (.t 58) (.t 61))⟩] [3, 8, 9, 13, 62]) (.cond (.t 62) (.reg [⟨(some 63), none, (.mov (.t 13))⟩, ⟨(some 64), none, (.call (.k (.fn (.func 103) [] [])) [(.t 63), (.k (.str ⟨#[48]⟩))])⟩, ⟨(some 13), none, (.mov (.t 64))⟩] [3, 8, 9, 13]) .skip)) (.reg [⟨(some 65), none, (.mov (.t 13))⟩, ⟨(some 66), none, (.call (.k (.fn (.func 104) [] [])) [(.t 8), (.t 65)])⟩] [3, 8, 9]))))))) (.reg [⟨(some 38), none, (.mov (.t 9))⟩, ⟨(some 39), none, (.bin .sub (.t 38) (.k (.int .i64 ((1 : Nat) : Int))))⟩, ⟨(some 9), none, (.mov (.t 39))⟩] [3, 8, 9])))))) (.seq (.reg [⟨(some 67), none, (.call (.k (.fn (.func 105) [] [])) [(.t 8)])⟩, ⟨(some 2), none, (.mov (.t 67))⟩] [2]) .ret)))))))
def rs70 : List RV := [(.t 2)]
theorem co70 : compFn Go.Proofs.Tryd.prog Go.Proofs.Tryd.f70 pl70 = some (ac70, rs70) := by kernel_rfl
theorem enter70 {args : List AV} {H : AHeap} {Q : AV → AHeap → Prop} (hn : args.length ≤ 68) (h : W Go.Proofs.Tryd.prog ac70 (retN rs70 Q) ⟨[], initE args 0, H⟩) : Run Go.Proofs.Tryd.prog 70 args H Q := Run_fn2 mixed Go.Proofs.Tryd.func70 (by kernel_rfl) co70 (n := 68) (by kernel_rfl) hn h
def ac90 : ACode := (.seq (.reg [⟨(some 2), none, (.mov (.k (.seq 0 [] true)))⟩] [0]) (.seq (.reg [⟨(some 4), none, (.mov (.t 0))⟩, ⟨(some 5), none, (.len false (.t 4))⟩, ⟨(some 3), none, (.mov (.t 5))⟩] [0, 3]) (.seq (.block 0 (.loop (.seq (.seq (.reg [⟨(some 6), none, (.mov (.t 3))⟩, ⟨(some 7), none, (.bin .gtr (.t 6) (.k (.int .i64 ((0 : Nat) : Int))))⟩, ⟨(some 8), none, (.mov (.t 7))⟩, ⟨(some 9), (some (8, true)), (.mov (.t 0))⟩, ⟨(some 10), (some (8, true)), (.mov (.t 3))⟩, ⟨(some 11), (some (8, true)), (.bin .sub (.t 10) (.k (.int .i64 ((1 : Nat) : Int))))⟩, ⟨(some 12), (some (8, true)), (.idxA 1 (.t 9) (.t 11))⟩, ⟨(some 13), (some (8, true)), (.load none (.t 12))⟩, ⟨(some 14), (some (8, true)), (.bin .eql (.t 13) (.k (.int .u32 ((0 : Nat) : Int))))⟩, ⟨(some 15), none, (.pick (.t 8) (.t 14) (.k (.bool false)))⟩] [0, 3, 15]) (.cond (.t 15) .skip (.exit 0))) (.block 1 (.reg [⟨(some 16), none, (.mov (.t 3))⟩, ⟨(some 17), none, (.bin .sub (.t 16) (.k (.int .i64 ((1 : Nat) : Int))))⟩, ⟨(some 3), none, (.mov (.t 17))⟩] [0, 3]))))) (.seq (.reg [⟨(some 18), none, (.mov (.t 0))⟩, ⟨(some 19), none, (.mov (.t 3))⟩, ⟨(some 20), none, (.mov (.t 3))⟩, ⟨(some 21), none, (.slc 1 (.t 18) none (some (.t 19)) (some (.t 20)))⟩, ⟨(some 2), none, (.mov (.t 21))⟩] [2]) .ret))))
def rs90 : List RV := [(.t 2)]
theorem co90 : compFn Go.Proofs.Tryd.prog Go.Proofs.Tryd.f90 pl90 = some (ac90, rs90) := by kernel_rfl
theorem enter90 {args : List AV} {H : AHeap} {Q : AV → AHeap → Prop} (hn : args.length ≤ 22) (h : W Go.Proofs.Tryd.prog ac90 (retN rs90 Q) ⟨[], initE args 0, H⟩) : Run Go.Proofs.Tryd.prog 90 args H Q := Run_fn2 mixed Go.Proofs.Tryd.func90 (by kernel_rfl) co90 (n := 22) (by kernel_rfl) hn h
def ac91 : ACode := (.seq (.reg [⟨(some 2), none, (.mov (.k (.int .i64 ((0 : Nat) : Int))))⟩] [0]) (.seq (.reg [⟨(some 3), none, (.mov (.t 0))⟩, ⟨(some 4), none, (.call (.k (.fn (.func 101) [] [])) [(.t 3)])⟩, ⟨(some 5), none, (.bin .sub (.k (.int .i64 ((32 : Nat) : Int))) (.t 4))⟩, ⟨(some 2), none, (.mov (.t 5))⟩] [2]) .ret))
def rs91 : List RV := [(.t 2)]
theorem co91 : compFn Go.Proofs.Tryd.prog Go.Proofs.Tryd.f91 pl91 = some (ac91, rs91) := by kernel_rfl
theorem enter91 {args : List AV} {H : AHeap} {Q : AV → AHeap → Prop} (hn : args.length ≤ 6) (h : W Go.Proofs.Tryd.prog ac91 (retN rs91 Q) ⟨[], initE args 0, H⟩) : Run Go.Proofs.Tryd.prog 91 args H Q := Run_fn2 mixed Go.Proofs.Tryd.func91 (by kernel_rfl) co91 (n := 6) (by kernel_rfl) hn h
def ac92 : ACode := (.seq (.reg [⟨(some 4), none, (.mov (.k (.int .u32 ((0 : Nat) : Int))))⟩] [0, 1]) (.scope0 (.seq (.reg [⟨(some 11), none, (.mov (.t 1))⟩, ⟨(some 12), none, (.len false (.t 11))⟩, ⟨(some 5), none, (.mov (.t 12))⟩] [0, 1, 5]) (.seq (.draw [⟨(some 13), none, (.mov (.t 0))⟩, ⟨(some 14), none, (.mov (.t 5))⟩, ⟨(some 15), none, (.idxA 1 (.t 13) (.t 14))⟩, ⟨(some 16), none, (.load none (.t 15))⟩, ⟨(some 17), none, (.conv .u64 (.t 16))⟩, ⟨(some 18), none, (.bin .shl (.t 17) (.k (.int .u64 ((32 : Nat) : Int))))⟩, ⟨(some 19), none, (.mov (.t 0))⟩, ⟨(some 20), none, (.mov (.t 5))⟩, ⟨(some 21), none, (.bin .sub (.t 20) (.k (.int .i64 ((1 : Nat) : Int))))⟩, ⟨(some 22), none, (.idxA 1 (.t 19) (.t 21))⟩, ⟨(some 23), none, (.load none (.t 22))⟩, ⟨(some 24), none, (.conv .u64 (.t 23))⟩] [⟨(some 25), none, (.bin .or (.t 18) (.t 24))⟩, ⟨(some 6), none, (.mov (.t 25))⟩] [0, 1, 0, 0, 0, 0, 63, 127, 127, 63, 63, 63] [0, 1, 5, 6]) (.seq (.draw [⟨(some 26), none, (.mov (.t 6))⟩, ⟨(some 27), none, (.mov (.t 1))⟩, ⟨(some 28), none, (.mov (.t 5))⟩, ⟨(some 29), none, (.bin .sub (.t 28) (.k (.int .i64 ((1 : Nat) : Int))))⟩, ⟨(some 30), none, (.idxA 1 (.t 27) (.t 29))⟩, ⟨(some 31), none, (.load none (.t 30))⟩, ⟨(some 32), none, (.conv .u64 (.t 31))⟩, ⟨(some 33), none, (.bin .quo (.t 26) (.t 32))⟩, ⟨(some 34), none, (.mov (.t 6))⟩, ⟨(some 35), none, (.mov (.t 1))⟩, ⟨(some 36), none, (.mov (.t 5))⟩, ⟨(some 37), none, (.bin .sub (.t 36) (.k (.int .i64 ((1 : Nat) : Int))))⟩, ⟨(some 38), none, (.idxA 1 (.t 35) (.t 37))⟩, ⟨(some 39), none, (.load none (.t 38))⟩, ⟨(some 40), none, (.conv .u64 (.t 39))⟩, ⟨(some 41), none, (.bin .rem (.t 34) (.t 40))⟩, ⟨(some 7), none, (.mov (.t 33))⟩] [⟨(some 8), none, (.mov (.t 41))⟩] [0, 1, 3, 3, 1, 1, 1, 0, 255, 511, 1023, 1023, 511, 511, 511, 255, 65280] [0, 1, 5, 7, 8]) (.seq .skip (.seq (.block 0 (.loop (.seq (.seq (.draw [⟨(some 42), none, (.mov (.t 7))⟩, ⟨(some 43), none, (.bin .shr (.t 42) (.k (.int .u64 ((32 : Nat) : Int))))⟩, ⟨(some 44), none, (.bin .gtr (.t 43) (.k (.int .u64 ((0 : Nat) : Int))))⟩, ⟨(some 45), none, (.mov (.t 44))⟩, ⟨(some 46), (some (45, false)), (.mov (.t 7))⟩, ⟨(some 47), (some (45, false)), (.mov (.t 1))⟩, ⟨(some 48), (some (45, false)), (.mov (.t 5))⟩, ⟨(some 49), (some (45, false)), (.bin .sub (.t 48) (.k (.int .i64 ((2 : Nat) : Int))))⟩, ⟨(some 50), (some (45, false)), (.idxA 1 (.t 47) (.t 49))⟩, ⟨(some 51), (some (45, false)), (.load none (.t 50))⟩, ⟨(some 52), (some (45, false)), (.conv .u64 (.t 51))⟩, ⟨(some 53), (some (45, false)), (.bin .mul (.t 46) (.t 52))⟩, ⟨(some 54), (some (45, false)), (.mov (.t 8))⟩, ⟨(some 55), (some (45, false)), (.bin .shl (.t 54) (.k (.int .u64 ((32 : Nat) : Int))))⟩, ⟨(some 56), (some (45, false)), (.mov (.t 0))⟩, ⟨(some 57), (some (45, false)), (.mov (.t 5))⟩, ⟨(some 58), (some (45, false)), (.bin .sub (.t 57) (.k (.int .i64 ((2 : Nat) : Int))))⟩, ⟨(some 59), (some (45, false)), (.idxA 1 (.t 56) (.t 58))⟩, ⟨(some 60), (some (45, false)), (.load none (.t 59))⟩, ⟨(some 61), (some (45, false)), (.conv .u64 (.t 60))⟩, ⟨(some 62), (some (45, false)), (.bin .or (.t 55) (.t 61))⟩] [⟨(some 63), (some (45, false)), (.bin .gtr (.t 53) (.t 62))⟩, ⟨(some 64), none, (.pick (.t 45) (.k (.bool true)) (.t 63))⟩] [0, 0, 0, 0, 0, 16, 48, 48, 16, 16, 16, 0, 4080, 4080, 16368, 32752, 32752, 16368, 16368, 16368, 4080] [0, 1, 5, 7, 8, 64]) (.cond (.t 64) .skip (.exit 0))) (.block 1 (.seq (.reg [⟨(some 65), none, (.mov (.t 7))⟩, ⟨(some 66), none, (.bin .sub (.t 65) (.k (.int .u64 ((1 : Nat) : Int))))⟩, ⟨(some 7), none, (.mov (.t 66))⟩] [0, 1, 5, 7, 8]) (.seq (.reg [⟨(some 67), none, (.mov (.t 8))⟩, ⟨(some 68), none, (.mov (.t 1))⟩, ⟨(some 69), none, (.mov (.t 5))⟩, ⟨(some 70), none, (.bin .sub (.t 69) (.k (.int .i64 ((1 : Nat) : Int))))⟩, ⟨(some 71), none, (.idxA 1 (.t 68) (.t 70))⟩, ⟨(some 72), none, (.load none (.t 71))⟩, ⟨(some 73), none, (.conv .u64 (.t 72))⟩, ⟨(some 74), none, (.bin .add (.t 67) (.t 73))⟩, ⟨(some 8), none, (.mov (.t 74))⟩] [0, 1, 5, 7, 8]) (.seq (.reg [⟨(some 75), none, (.mov (.t 8))⟩, ⟨(some 76), none, (.bin .shr (.t 75) (.k (.int .u64 ((32 : Nat) : Int))))⟩, ⟨(some 77), none, (.bin .gtr (.t 76) (.k (.int .u64 ((0 : Nat) : Int))))⟩] [0, 1, 5, 7, 8, 77]) (.cond (.t 77) (.exit 0) .skip)))))))) (.seq (.seq (.reg [⟨(some 78), none, (.mov (.t 0))⟩, ⟨(some 79), none, (.mov (.t 1))⟩, ⟨(some 80), none, (.mov (.t 7))⟩, ⟨(some 81), none, (.call (.k (.fn (.func 114) [] [])) [(.t 78), (.t 79), (.t 80)])⟩, ⟨(some 82), none, (.un .not (.t 81))⟩] [0, 1, 5, 7, 82]) (.cond (.t 82) (.seq (.reg [⟨(some 83), none, (.mov (.t 7))⟩, ⟨(some 84), none, (.conv .u32 (.t 83))⟩, ⟨(some 4), none, (.mov (.t 84))⟩] [4]) .ret) .skip)) (.seq (.reg [⟨(some 85), none, (.mov (.t 7))⟩, ⟨(some 86), none, (.bin .sub (.t 85) (.k (.int .u64 ((1 : Nat) : Int))))⟩, ⟨(some 7), none, (.mov (.t 86))⟩] [0, 1, 5, 7]) (.seq (.reg [⟨(some 9), none, (.mov (.k (.int .u64 ((0 : Nat) : Int))))⟩] [0, 1, 5, 7, 9]) (.seq (.seq (.reg [⟨(some 87), none, (.mov (.t 0))⟩, ⟨(some 88), none, (.len false (.t 87))⟩, ⟨(some 89), none, (.mov (.k (.int .i64 ((0 : Nat) : Int))))⟩] [0, 1, 5, 7, 9, 88, 89]) (.block 2 (.loop (.seq (.reg [⟨(some 90), none, (.bin .lss (.t 89) (.t 88))⟩] [0, 1, 5, 7, 9, 88, 89, 90]) (.seq (.cond (.t 90) .skip (.exit 2)) (.seq (.block 3 (.seq (.reg [⟨(some 91), none, (.mov (.t 89))⟩, ⟨(some 10), none, (.mov (.t 91))⟩] [0, 1, 5, 7, 9, 10, 88, 89]) (.seq (.reg [⟨(some 92), none, (.mov (.t 9))⟩, ⟨(some 93), none, (.mov (.t 0))⟩, ⟨(some 94), none, (.mov (.t 10))⟩, ⟨(some 95), none, (.idxA 1 (.t 93) (.t 94))⟩, ⟨(some 96), none, (.load none (.t 95))⟩, ⟨(some 97), none, (.conv .u64 (.t 96))⟩, ⟨(some 98), none, (.bin .add (.t 92) (.t 97))⟩, ⟨(some 9), none, (.mov (.t 98))⟩] [0, 1, 5, 7, 9, 10, 88, 89]) (.seq (.seq (.reg [⟨(some 99), none, (.mov (.t 10))⟩, ⟨(some 100), none, (.mov (.t 5))⟩, ⟨(some 101), none, (.bin .lss (.t 99) (.t 100))⟩] [0, 1, 5, 7, 9, 10, 88, 89, 101]) (.cond (.t 101) (.reg [⟨(some 102), none, (.mov (.t 9))⟩, ⟨(some 103), none, (.mov (.t 1))⟩, ⟨(some 104), none, (.mov (.t 10))⟩, ⟨(some 105), none, (.idxA 1 (.t 103) (.t 104))⟩, ⟨(some 106), none, (.load none (.t 105))⟩, ⟨(some 107), none, (.conv .u64 (.t 106))⟩, ⟨(some 108), none, (.bin .add (.t 102) (.t 107))⟩, ⟨(some 9), none, (.mov (.t 108))⟩] [0, 1, 5, 7, 9, 10, 88, 89]) .skip)) (.seq (.reg [⟨(some 109), none, (.mov (.t 0))⟩, ⟨(some 110), none, (.mov (.t 10))⟩, ⟨(some 111), none, (.mov (.t 9))⟩, ⟨(some 112), none, (.conv .u32 (.t 111))⟩, ⟨(some 113), none, (.idxA 1 (.t 109) (.t 110))⟩, ⟨none, none, (.store 1 (.t 113) (.t 112))⟩] [0, 1, 5, 7, 9, 88, 89]) (.reg [⟨(some 114), none, (.mov (.t 9))⟩, ⟨(some 115), none, (.bin .shr (.t 114) (.k (.int .u64 ((32 : Nat) : Int))))⟩, ⟨(some 9), none, (.mov (.t 115))⟩] [0, 1, 5, 7, 9, 88, 89])))))) (.reg [⟨(some 116), none, (.bin .add (.t 89) (.k (.int .i64 ((1 : Nat) : Int))))⟩, ⟨(some 89), none, (.mov (.t 116))⟩] [0, 1, 5, 7, 9, 88, 89]))))))) (.seq (.reg [⟨(some 117), none, (.mov (.t 7))⟩, ⟨(some 118), none, (.conv .u32 (.t 117))⟩, ⟨(some 4), none, (.mov (.t 118))⟩] [4]) .ret))))))))))))
def rs92 : List RV := [(.t 4)]
theorem co92 : compFn Go.Proofs.Tryd.prog Go.Proofs.Tryd.f92 pl92 = some (ac92, rs92) := by kernel_rfl
theorem enter92 {args : List AV} {H : AHeap} {Q : AV → AHeap → Prop} (hn : args.length ≤ 119) (h : W Go.Proofs.Tryd.prog ac92 (retN rs92 Q) ⟨[], initE args 0, H⟩) : Run Go.Proofs.Tryd.prog 92 args H Q := Run_fn2 mixed Go.Proofs.Tryd.func92 (by kernel_rfl) co92 (n := 119) (by kernel_rfl) hn h
def ac96 : ACode := (.seq (.reg [⟨(some 2), none, (.mov (.k (.seq 0 [] true)))⟩] [0]) (.seq (.seq (.reg [⟨(some 3), none, (.mov (.t 0))⟩, ⟨(some 4), none, (.nilS false (.t 3))⟩] [0, 4]) (.cond (.t 4) (.seq (.reg [⟨(some 2), none, (.mov (.k (.seq 0 [] true)))⟩] [2]) .ret) .skip)) (.seq (.reg [⟨(some 5), none, (.bsl [(.int .u32 ((0 : Nat) : Int))] 0 1 [])⟩, ⟨(some 6), none, (.mov (.t 0))⟩, ⟨(some 7), none, (.app 45 1 4 (.t 5) (.t 6))⟩, ⟨(some 2), none, (.mov (.t 7))⟩] [2]) .ret)))
def rs96 : List RV := [(.t 2)]
theorem co96 : compFn Go.Proofs.Tryd.prog Go.Proofs.Tryd.f96 pl96 = some (ac96, rs96) := by kernel_rfl
theorem enter96 {args : List AV} {H : AHeap} {Q : AV → AHeap → Prop} (hn : args.length ≤ 8) (h : W Go.Proofs.Tryd.prog ac96 (retN rs96 Q) ⟨[], initE args 0, H⟩) : Run Go.Proofs.Tryd.prog 96 args H Q := Run_fn2 mixed Go.Proofs.Tryd.func96 (by kernel_rfl) co96 (n := 8) (by kernel_rfl) hn h
def ac97 : ACode := (.seq (.reg [⟨(some 4), none, (.mov (.k (.bool false)))⟩] [0, 1]) (.seq (.reg [⟨(some 5), none, (.mov (.t 0))⟩, ⟨(some 6), none, (.mov (.t 1))⟩, ⟨(some 7), none, (.call (.k (.fn (.func 118) [] [])) [(.t 5), (.t 6)])⟩, ⟨(some 8), none, (.bin .geq (.t 7) (.k (.int .i64 ((0 : Nat) : Int))))⟩, ⟨(some 4), none, (.mov (.t 8))⟩] [4]) .ret))
def rs97 : List RV := [(.t 4)]
theorem co97 : compFn Go.Proofs.Tryd.prog Go.Proofs.Tryd.f97 pl97 = some (ac97, rs97) := by kernel_rfl
theorem enter97 {args : List AV} {H : AHeap} {Q : AV → AHeap → Prop} (hn : args.length ≤ 9) (h : W Go.Proofs.Tryd.prog ac97 (retN rs97 Q) ⟨[], initE args 0, H⟩) : Run Go.Proofs.Tryd.prog 97 args H Q := Run_fn2 mixed Go.Proofs.Tryd.func97 (by kernel_rfl) co97 (n := 9) (by kernel_rfl) hn h
def ac98 : ACode := (.seq (.reg [⟨(some 2), none, (.mov (.k (.bool false)))⟩] [0]) (.seq (.reg [⟨(some 3), none, (.mov (.t 0))⟩, ⟨(some 4), none, (.len false (.t 3))⟩, ⟨(some 5), none, (.bin .gtr (.t 4) (.k (.int .i64 ((160 : Nat) : Int))))⟩, ⟨(some 2), none, (.mov (.t 5))⟩] [2]) .ret))
def rs98 : List RV := [(.t 2)]
theorem co98 : compFn Go.Proofs.Tryd.prog Go.Proofs.Tryd.f98 pl98 = some (ac98, rs98) := by kernel_rfl
theorem enter98 {args : List AV} {H : AHeap} {Q : AV → AHeap → Prop} (hn : args.length ≤ 6) (h : W Go.Proofs.Tryd.prog ac98 (retN rs98 Q) ⟨[], initE args 0, H⟩) : Run Go.Proofs.Tryd.prog 98 args H Q := Run_fn2 mixed Go.Proofs.Tryd.func98 (by kernel_rfl) co98 (n := 6) (by kernel_rfl) hn h
def ac99 : ACode := (.seq (.reg [⟨(some 4), none, (.mov (.k (.seq 0 [] true)))⟩] [0, 1]) (.seq (.reg [⟨(some 5), none, (.mov (.k (.seq 0 [] true)))⟩] [0, 1, 5]) (.seq (.reg [⟨(some 6), none, (.mov (.k (.int .u32 ((0 : Nat) : Int))))⟩] [0, 1, 5, 6]) (.seq (.seq (.reg [⟨(some 8), none, (.mov (.t 1))⟩] [0, 5, 6, 8]) (.cond (.t 8) (.reg [⟨(some 6), none, (.mov (.k (.int .u32 ((1 : Nat) : Int))))⟩] [0, 5, 6]) .skip)) (.seq (.seq (.reg [⟨(some 7), none, (.mov (.k (.int .i64 ((0 : Nat) : Int))))⟩] [0, 5, 6, 7]) (.block 0 (.loop (.seq (.seq (.reg [⟨(some 9), none, (.mov (.t 7))⟩, ⟨(some 10), none, (.mov (.t 0))⟩, ⟨(some 11), none, (.len false (.t 10))⟩, ⟨(some 12), none, (.bin .lss (.t 9) (.t 11))⟩] [0, 5, 6, 7, 12]) (.cond (.t 12) .skip (.exit 0))) (.seq (.block 1 (.seq (.reg [⟨(some 15), none, (.mov (.t 5))⟩, ⟨(some 16), none, (.mov (.t 0))⟩, ⟨(some 17), none, (.mov (.t 7))⟩, ⟨(some 18), none, (.idxA 1 (.t 16) (.t 17))⟩, ⟨(some 19), none, (.load none (.t 18))⟩, ⟨(some 20), none, (.bin .mul (.t 19) (.k (.int .u32 ((2 : Nat) : Int))))⟩, ⟨(some 21), none, (.mov (.t 6))⟩, ⟨(some 22), none, (.bin .add (.t 20) (.t 21))⟩, ⟨(some 23), none, (.bsl [(.int .u32 ((0 : Nat) : Int))] 1 1 [(0, (1, (.t 22)))])⟩, ⟨(some 24), none, (.app 45 1 4 (.t 15) (.t 23))⟩, ⟨(some 5), none, (.mov (.t 24))⟩] [0, 5, 7]) (.reg [⟨(some 25), none, (.mov (.t 0))⟩, ⟨(some 26), none, (.mov (.t 7))⟩, ⟨(some 27), none, (.idxA 1 (.t 25) (.t 26))⟩, ⟨(some 28), none, (.load none (.t 27))⟩, ⟨(some 29), none, (.bin .quo (.t 28) (.k (.int .u32 ((2147483648 : Nat) : Int))))⟩, ⟨(some 6), none, (.mov (.t 29))⟩] [0, 5, 6, 7]))) (.reg [⟨(some 13), none, (.mov (.t 7))⟩, ⟨(some 14), none, (.bin .add (.t 13) (.k (.int .i64 ((1 : Nat) : Int))))⟩, ⟨(some 7), none, (.mov (.t 14))⟩] [0, 5, 6, 7])))))) (.seq (.seq (.reg [⟨(some 30), none, (.mov (.t 6))⟩, ⟨(some 31), none, (.bin .gtr (.t 30) (.k (.int .u32 ((0 : Nat) : Int))))⟩] [5, 6, 31]) (.cond (.t 31) (.reg [⟨(some 32), none, (.mov (.t 5))⟩, ⟨(some 33), none, (.mov (.t 6))⟩, ⟨(some 34), none, (.bsl [(.int .u32 ((0 : Nat) : Int))] 1 1 [(0, (1, (.t 33)))])⟩, ⟨(some 35), none, (.app 45 1 4 (.t 32) (.t 34))⟩, ⟨(some 5), none, (.mov (.t 35))⟩] [5]) .skip)) (.seq (.reg [⟨(some 36), none, (.mov (.t 5))⟩, ⟨(some 4), none, (.mov (.t 36))⟩] [4]) .ret)))))))
def rs99 : List RV := [(.t 4)]
theorem co99 : compFn Go.Proofs.Tryd.prog Go.Proofs.Tryd.f99 pl99 = some (ac99, rs99) := by kernel_rfl
theorem enter99 {args : List AV} {H : AHeap} {Q : AV → AHeap → Prop} (hn : args.length ≤ 37) (h : W Go.Proofs.Tryd.prog ac99 (retN rs99 Q) ⟨[], initE args 0, H⟩) : Run Go.Proofs.Tryd.prog 99 args H Q := Run_fn2 mixed Go.Proofs.Tryd.func99 (by kernel_rfl) co99 (n := 37) (by kernel_rfl) hn h
def ac100 : ACode := (.seq (.reg [⟨(some 4), none, (.mov (.k (.int .u32 ((0 : Nat) : Int))))⟩] [0, 1]) (.seq (.seq (.reg [⟨(some 5), none, (.mov (.t 1))⟩, ⟨(some 6), none, (.mov (.t 0))⟩, ⟨(some 7), none, (.len false (.t 6))⟩, ⟨(some 8), none, (.bin .lss (.t 5) (.t 7))⟩] [0, 1, 8]) (.cond (.t 8) (.seq (.reg [⟨(some 9), none, (.mov (.t 0))⟩, ⟨(some 10), none, (.mov (.t 1))⟩, ⟨(some 11), none, (.idxA 1 (.t 9) (.t 10))⟩, ⟨(some 12), none, (.load none (.t 11))⟩, ⟨(some 4), none, (.mov (.t 12))⟩] [4]) .ret) .skip)) (.seq (.reg [⟨(some 4), none, (.mov (.k (.int .u32 ((0 : Nat) : Int))))⟩] [4]) .ret)))
def rs100 : List RV := [(.t 4)]
theorem co100 : compFn Go.Proofs.Tryd.prog Go.Proofs.Tryd.f100 pl100 = some (ac100, rs100) := by kernel_rfl
theorem enter100 {args : List AV} {H : AHeap} {Q : AV → AHeap → Prop} (hn : args.length ≤ 13) (h : W Go.Proofs.Tryd.prog ac100 (retN rs100 Q) ⟨[], initE args 0, H⟩) : Run Go.Proofs.Tryd.prog 100 args H Q := Run_fn2 mixed Go.Proofs.Tryd.func100 (by kernel_rfl) co100 (n := 13) (by kernel_rfl) hn h
def ac101 : ACode := (.seq (.reg [⟨(some 2), none, (.mov (.k (.int .i64 ((0 : Nat) : Int))))⟩] [0, 2]) (.seq (.seq (.reg [⟨(some 3), none, (.mov (.t 0))⟩, ⟨(some 4), none, (.bin .geq (.t 3) (.k (.int .u32 ((65536 : Nat) : Int))))⟩] [0, 2, 4]) (.cond (.t 4) (.seq (.reg [⟨(some 5), none, (.mov (.t 0))⟩, ⟨(some 6), none, (.bin .shr (.t 5) (.k (.int .u64 ((16 : Nat) : Int))))⟩, ⟨(some 0), none, (.mov (.t 6))⟩] [0]) (.reg [⟨(some 2), none, (.mov (.k (.int .i64 ((16 : Nat) : Int))))⟩] [0, 2])) .skip)) (.seq (.seq (.reg [⟨(some 7), none, (.mov (.t 0))⟩, ⟨(some 8), none, (.bin .geq (.t 7) (.k (.int .u32 ((256 : Nat) : Int))))⟩] [0, 2, 8]) (.cond (.t 8) (.seq (.reg [⟨(some 9), none, (.mov (.t 0))⟩, ⟨(some 10), none, (.bin .shr (.t 9) (.k (.int .u64 ((8 : Nat) : Int))))⟩, ⟨(some 0), none, (.mov (.t 10))⟩] [0, 2]) (.reg [⟨(some 11), none, (.mov (.t 2))⟩, ⟨(some 12), none, (.bin .add (.t 11) (.k (.int .i64 ((8 : Nat) : Int))))⟩, ⟨(some 2), none, (.mov (.t 12))⟩] [0, 2])) .skip)) (.seq (.reg [⟨(some 13), none, (.mov (.t 2))⟩, ⟨(some 14), none, (.mov (.t 0))⟩, ⟨(some 15), none, (.conv .u8 (.t 14))⟩, ⟨(some 16), none, (.idxS (.k (.str ⟨#[0, 1, 2, 2, 3, 3, 3, 3, 4, 4, 4, 4, 4, 4, 4, 4, 5, 5, 5, 5, 5, 5, 5, 5, 5, 5, 5, 5, 5, 5, 5, 5, 6, 6, 6, 6, 6, 6, 6, 6, 6, 6, 6, 6, 6, 6, 6, 6, 6, 6, 6, 6, 6, 6, 6, 6, 6, 6, 6, 6, 6, 6, 6, 6, 7, 7, 7, 7, 7, 7, 7, 7, 7, 7, 7, 7, 7, 7, 7, 7, 7, 7, 7, 7, 7, 7, 7, 7, 7, 7, 7, 7, 7, 7, 7, 7, 7, 7, 7, 7, 7, 7, 7, 7, 7, 7, 7, 7, 7, 7, 7, 7, 7, 7, 7, 7, 7, 7, 7, 7, 7, 7, 7, 7, 7, 7, 7, 7, 8, 8, 8, 8, 8, 8, 8, 8, 8, 8, 8, 8, 8, 8, 8, 8, 8, 8, 8, 8, 8, 8, 8, 8, 8, 8, 8, 8, 8, 8, 8, 8, 8, 8, 8, 8, 8, 8, 8, 8, 8, 8, 8, 8, 8, 8, 8, 8, 8, 8, 8, 8, 8, 8, 8, 8, 8, 8, 8, 8, 8, 8, 8, 8, 8, 8, 8, 8, 8, 8, 8, 8, 8, 8, 8, 8, 8, 8, 8, 8, 8, 8, 8, 8, 8, 8, 8, 8, 8, 8, 8, 8, 8, 8, 8, 8, 8, 8, 8, 8, 8, 8, 8, 8, 8, 8, 8, 8, 8, 8, 8, 8, 8, 8, 8, 8, 8, 8, 8, 8, 8, 8, 8, 8, 8, 8, 8, 8]⟩)) (.t 15))⟩, ⟨(some 17), none, (.conv .i64 (.t 16))⟩, ⟨(some 18), none, (.bin .add (.t 13) (.t 17))⟩, ⟨(some 2), none, (.mov (.t 18))⟩] [2]) .ret))))
def rs101 : List RV := [(.t 2)]
theorem co101 : compFn Go.Proofs.Tryd.prog Go.Proofs.Tryd.f101 pl101 = some (ac101, rs101) := by kernel_rfl
theorem enter101 {args : List AV} {H : AHeap} {Q : AV → AHeap → Prop} (hn : args.length ≤ 19) (h : W Go.Proofs.Tryd.prog ac101 (retN rs101 Q) ⟨[], initE args 0, H⟩) : Run Go.Proofs.Tryd.prog 101 args H Q := Run_fn2 mixed Go.Proofs.Tryd.func101 (by kernel_rfl) co101 (n := 19) (by kernel_rfl) hn h
def ac102 : ACode := (.seq (.reg [⟨(some 2), none, (.mov (.k (.int .i64 ((0 : Nat) : Int))))⟩] [0]) (.seq (.seq (.reg [⟨(some 3), none, (.mov (.t 0))⟩, ⟨(some 4), none, (.bin .eql (.t 3) (.k (.int .u32 ((0 : Nat) : Int))))⟩] [0, 4]) (.cond (.t 4) (.seq (.reg [⟨(some 2), none, (.mov (.k (.int .i64 ((32 : Nat) : Int))))⟩] [2]) .ret) .skip)) (.seq (.reg [⟨(some 5), none, (.mov (.t 0))⟩, ⟨(some 6), none, (.mov (.t 0))⟩, ⟨(some 7), none, (.un .neg (.t 6))⟩, ⟨(some 8), none, (.bin .and (.t 5) (.t 7))⟩, ⟨(some 9), none, (.bin .mul (.t 8) (.k (.int .u32 ((125613361 : Nat) : Int))))⟩, ⟨(some 10), none, (.bin .shr (.t 9) (.k (.int .u64 ((27 : Nat) : Int))))⟩, ⟨(some 11), none, (.prim (.gix 0 32 1) [(.t 10)])⟩, ⟨(some 12), none, (.load none (.t 11))⟩, ⟨(some 13), none, (.conv .i64 (.t 12))⟩, ⟨(some 2), none, (.mov (.t 13))⟩] [2]) .ret)))
def rs102 : List RV := [(.t 2)]
theorem co102 : compFn Go.Proofs.Tryd.prog Go.Proofs.Tryd.f102 pl102 = some (ac102, rs102) := by kernel_rfl
theorem enter102 {args : List AV} {H : AHeap} {Q : AV → AHeap → Prop} (hn : args.length ≤ 14) (h : W Go.Proofs.Tryd.prog ac102 (retN rs102 Q) ⟨[], initE args 0, H⟩) : Run Go.Proofs.Tryd.prog 102 args H Q := Run_fn2 mixed Go.Proofs.Tryd.func102 (by kernel_rfl) co102 (n := 14) (by kernel_rfl) hn h
def ac103 : ACode := (.seq (.reg [⟨(some 4), none, (.mov (.k (.str ⟨#[]⟩)))⟩] [0, 1]) (.seq (.seq (.reg [⟨(some 7), none, (.mov (.t 0))⟩, ⟨(some 8), none, (.bin .eql (.t 7) (.k (.str ⟨#[]⟩)))⟩, ⟨(some 9), none, (.mov (.t 8))⟩, ⟨(some 10), (some (9, false)), (.mov (.t 1))⟩, ⟨(some 11), (some (9, false)), (.bin .eql (.t 10) (.k (.str ⟨#[]⟩)))⟩, ⟨(some 12), none, (.pick (.t 9) (.k (.bool true)) (.t 11))⟩] [0, 1, 12]) (.cond (.t 12) (.seq (.reg [⟨(some 13), none, (.mov (.t 0))⟩, ⟨(some 4), none, (.mov (.t 13))⟩] [4]) .ret) .skip)) (.seq (.seq (.reg [⟨(some 14), none, (.mov (.t 1))⟩, ⟨(some 15), none, (.len true (.t 14))⟩, ⟨(some 16), none, (.bin .eql (.t 15) (.k (.int .i64 ((1 : Nat) : Int))))⟩, ⟨(some 17), none, (.mov (.t 16))⟩, ⟨(some 18), (some (17, true)), (.mov (.t 1))⟩, ⟨(some 19), (some (17, true)), (.idxS (.t 18) (.k (.int .i64 ((0 : Nat) : Int))))⟩, ⟨(some 20), (some (17, true)), (.bin .lss (.t 19) (.k (.int .u8 ((128 : Nat) : Int))))⟩, ⟨(some 21), none, (.pick (.t 17) (.t 20) (.k (.bool false)))⟩] [0, 1, 21]) (.cond (.t 21) (.seq (.reg [⟨(some 22), none, (.mov (.t 0))⟩, ⟨(some 23), none, (.mov (.t 1))⟩, ⟨(some 24), none, (.idxS (.t 23) (.k (.int .i64 ((0 : Nat) : Int))))⟩, ⟨(some 25), none, (.call (.k (.fn (.func 119) [] [])) [(.t 22), (.t 24)])⟩, ⟨(some 4), none, (.mov (.t 25))⟩] [4]) .ret) .skip)) (.seq (.seq (.reg [⟨(some 27), none, (.mov (.t 1))⟩, ⟨(some 28), none, (.call (.k (.fn (.func 120) [] [])) [(.t 27)])⟩, ⟨(some 26), none, (.mov (.t 28))⟩, ⟨(some 29), none, (.ext (.t 26) 0)⟩, ⟨(some 30), none, (.ext (.t 26) 1)⟩, ⟨(some 5), none, (.alloc 130 1 [(.bool false), (.bool false), (.bool false), (.bool false), (.bool false), (.bool false), (.bool false), (.bool false), (.bool false), (.bool false), (.bool false), (.bool false), (.bool false), (.bool false), (.bool false), (.bool false), (.bool false), (.bool false), (.bool false), (.bool false), (.bool false), (.bool false), (.bool false), (.bool false), (.bool false), (.bool false), (.bool false), (.bool false), (.bool false), (.bool false), (.bool false), (.bool false), (.bool false), (.bool false), (.bool false), (.bool false), (.bool false), (.bool false), (.bool false), (.bool false), (.bool false), (.bool false), (.bool false), (.bool false), (.bool false), (.bool false), (.bool false), (.bool false), (.bool false), (.bool false), (.bool false), (.bool false), (.bool false), (.bool false), (.bool false), (.bool false), (.bool false), (.bool false), (.bool false), (.bool false), (.bool false), (.bool false), (.bool false), (.bool false), (.bool false), (.bool false), (.bool false), (.bool false), (.bool false), (.bool false), (.bool false), (.bool false), (.bool false), (.bool false), (.bool false), (.bool false), (.bool false), (.bool false), (.bool false), (.bool false), (.bool false), (.bool false), (.bool false), (.bool false), (.bool false), (.bool false), (.bool false), (.bool false), (.bool false), (.bool false), (.bool false), (.bool false), (.bool false), (.bool false), (.bool false), (.bool false), (.bool false), (.bool false), (.bool false), (.bool false), (.bool false), (.bool false), (.bool false), (.bool false), (.bool false), (.bool false), (.bool false), (.bool false), (.bool false), (.bool false), (.bool false), (.bool false), (.bool false), (.bool false), (.bool false), (.bool false), (.bool false), (.bool false), (.bool false), (.bool false), (.bool false), (.bool false), (.bool false), (.bool false), (.bool false), (.bool false), (.bool false), (.bool false), (.bool false), (.bool false), (.bool false), (.bool false), (.bool false), (.bool false), (.bool false), (.bool false), (.bool false), (.bool false), (.bool false), (.bool false), (.bool false), (.bool false), (.bool false), (.bool false), (.bool false), (.bool false), (.bool false), (.bool false), (.bool false), (.bool false), (.bool false), (.bool false), (.bool false), (.bool false), (.bool false), (.bool false), (.bool false), (.bool false), (.bool false), (.bool false), (.bool false), (.bool false), (.bool false), (.bool false), (.bool false), (.bool false), (.bool false), (.bool false), (.bool false), (.bool false), (.bool false), (.bool false), (.bool false), (.bool false), (.bool false), (.bool false), (.bool false), (.bool false), (.bool false), (.bool false), (.bool false), (.bool false), (.bool false), (.bool false), (.bool false), (.bool false), (.bool false), (.bool false), (.bool false), (.bool false), (.bool false), (.bool false), (.bool false), (.bool false), (.bool false), (.bool false), (.bool false), (.bool false), (.bool false), (.bool false), (.bool false), (.bool false), (.bool false), (.bool false), (.bool false), (.bool false), (.bool false), (.bool false), (.bool false), (.bool false), (.bool false), (.bool false), (.bool false), (.bool false), (.bool false), (.bool false), (.bool false), (.bool false), (.bool false), (.bool false), (.bool false), (.bool false), (.bool false), (.bool false), (.bool false), (.bool false), (.bool false), (.bool false), (.bool false), (.bool false), (.bool false), (.bool false), (.bool false), (.bool false), (.bool false), (.bool false), (.bool false), (.bool false), (.bool false), (.bool false), (.bool false), (.bool false), (.bool false), (.bool false), (.bool false), (.bool false), (.bool false), (.bool false), (.bool false), (.bool false), (.bool false), (.bool false), (.bool false), (.bool false), (.bool false), (.bool false)])⟩, ⟨none, none, (.store 256 (.t 5) (.t 29))⟩, ⟨(some 6), none, (.mov (.t 30))⟩] [0, 1, 5, 6]) (.seq (.reg [⟨(some 31), none, (.mov (.t 6))⟩] [0, 1, 5, 31]) (.cond (.t 31) (.seq (.reg [⟨(some 32), none, (.mov (.t 0))⟩, ⟨(some 33), none, (.call (.k (.fn (.func 121) [] [])) [(.t 32), (.t 5)])⟩, ⟨(some 4), none, (.mov (.t 33))⟩] [4]) .ret) .skip))) (.seq (.reg [⟨(some 34), none, (.mov (.t 0))⟩, ⟨(some 35), none, (.mov (.t 1))⟩, ⟨(some 36), none, (.call (.k (.fn (.func 122) [] [])) [(.t 34), (.t 35)])⟩, ⟨(some 4), none, (.mov (.t 36))⟩] [4]) .ret)))))
def rs103 : List RV := [(.t 4)]
theorem co103 : compFn Go.Proofs.Tryd.prog Go.Proofs.Tryd.f103 pl103 = some (ac103, rs103) := by kernel_rfl
theorem enter103 {args : List AV} {H : AHeap} {Q : AV → AHeap → Prop} (hn : args.length ≤ 37) (h : W Go.Proofs.Tryd.prog ac103 (retN rs103 Q) ⟨[], initE args 0, H⟩) : Run Go.Proofs.Tryd.prog 103 args H Q := Run_fn2 mixed Go.Proofs.Tryd.func103 (by kernel_rfl) co103 (n := 37) (by kernel_rfl) hn h
def ac104 : ACode := (.seq (.reg [⟨(some 4), none, (.mov (.k (.int .i64 ((0 : Nat) : Int))))⟩, ⟨(some 5), none, (.mov (.k .nilI))⟩] [0, 1]) (.seq (.reg [⟨(some 6), none, (.mov (.t 0))⟩, ⟨(some 7), none, (.call (.k (.fn (.func 123) [] [])) [(.t 6)])⟩] [0, 1]) (.seq (.reg [⟨(some 8), none, (.mov (.t 0))⟩, ⟨(some 9), none, (.mov (.t 0))⟩, ⟨(some 10), none, (.prim .nck [(.t 9)])⟩, ⟨(some 11), none, (.fldA 1 (.t 10))⟩, ⟨(some 12), none, (.load none (.t 11))⟩, ⟨(some 13), none, (.mov (.t 1))⟩, ⟨(some 14), none, (.app 5 1 1 (.t 12) (.t 13))⟩, ⟨(some 15), none, (.prim .nck [(.t 8)])⟩, ⟨(some 16), none, (.fldA 1 (.t 15))⟩, ⟨none, none, (.store 1 (.t 16) (.t 14))⟩] [1]) (.seq (.reg [⟨(some 17), none, (.mov (.t 1))⟩, ⟨(some 18), none, (.len true (.t 17))⟩, ⟨(some 4), none, (.mov (.t 18))⟩, ⟨(some 5), none, (.mov (.k .nilI))⟩] [4, 5]) .ret))))
def rs104 : List RV := [(.t 4), (.t 5)]
theorem co104 : compFn Go.Proofs.Tryd.prog Go.Proofs.Tryd.f104 pl104 = some (ac104, rs104) := by kernel_rfl
theorem enter104 {args : List AV} {H : AHeap} {Q : AV → AHeap → Prop} (hn : args.length ≤ 19) (h : W Go.Proofs.Tryd.prog ac104 (retN rs104 Q) ⟨[], initE args 0, H⟩) : Run Go.Proofs.Tryd.prog 104 args H Q := Run_fn2 mixed Go.Proofs.Tryd.func104 (by kernel_rfl) co104 (n := 19) (by kernel_rfl) hn h
def ac105 : ACode := (.seq (.reg [⟨(some 2), none, (.mov (.k (.str ⟨#[]⟩)))⟩] [0]) (.seq (.draw [⟨(some 3), none, (.mov (.t 0))⟩, ⟨(some 4), none, (.prim .nck [(.t 3)])⟩, ⟨(some 5), none, (.fldA 1 (.t 4))⟩, ⟨(some 6), none, (.load none (.t 5))⟩, ⟨(some 7), none, (.prim .usd [(.t 6)])⟩, ⟨(some 8), none, (.mov (.t 0))⟩, ⟨(some 9), none, (.prim .nck [(.t 8)])⟩, ⟨(some 10), none, (.fldA 1 (.t 9))⟩, ⟨(some 11), none, (.load none (.t 10))⟩, ⟨(some 12), none, (.len false (.t 11))⟩] [⟨(some 13), none, (.ust 5 (.t 7) (.t 12))⟩, ⟨(some 2), none, (.mov (.t 13))⟩] [0, 0, 0, 0, 0, 31, 31, 31, 31, 31] [2]) .ret))
def rs105 : List RV := [(.t 2)]
theorem co105 : compFn Go.Proofs.Tryd.prog Go.Proofs.Tryd.f105 pl105 = some (ac105, rs105) := by kernel_rfl
theorem enter105 {args : List AV} {H : AHeap} {Q : AV → AHeap → Prop} (hn : args.length ≤ 14) (h : W Go.Proofs.Tryd.prog ac105 (retN rs105 Q) ⟨[], initE args 0, H⟩) : Run Go.Proofs.Tryd.prog 105 args H Q := Run_fn2 mixed Go.Proofs.Tryd.func105 (by kernel_rfl) co105 (n := 14) (by kernel_rfl) hn h
def ac114 : ACode := (.seq (.reg [⟨(some 6), none, (.mov (.k (.bool false)))⟩] [0, 1, 2]) (.seq (.reg [⟨(some 7), none, (.mov (.k (.int .u64 ((0 : Nat) : Int))))⟩, ⟨(some 8), none, (.mov (.k (.int .u64 ((0 : Nat) : Int))))⟩] [0, 1, 2, 7, 8]) (.seq (.seq (.reg [⟨(some 11), none, (.mov (.t 0))⟩, ⟨(some 12), none, (.len false (.t 11))⟩, ⟨(some 13), none, (.mov (.k (.int .i64 ((0 : Nat) : Int))))⟩] [0, 1, 2, 7, 8, 12, 13]) (.block 0 (.loop (.seq (.reg [⟨(some 14), none, (.bin .lss (.t 13) (.t 12))⟩] [0, 1, 2, 7, 8, 12, 13, 14]) (.seq (.cond (.t 14) .skip (.exit 0)) (.seq (.block 1 (.seq (.reg [⟨(some 15), none, (.mov (.t 13))⟩, ⟨(some 9), none, (.mov (.t 15))⟩] [0, 1, 2, 7, 8, 9, 12, 13]) (.seq (.seq (.reg [⟨(some 16), none, (.mov (.t 9))⟩, ⟨(some 17), none, (.mov (.t 1))⟩, ⟨(some 18), none, (.len false (.t 17))⟩, ⟨(some 19), none, (.bin .lss (.t 16) (.t 18))⟩] [0, 1, 2, 7, 8, 9, 12, 13, 19]) (.cond (.t 19) (.reg [⟨(some 20), none, (.mov (.t 7))⟩, ⟨(some 21), none, (.mov (.t 1))⟩, ⟨(some 22), none, (.mov (.t 9))⟩, ⟨(some 23), none, (.idxA 1 (.t 21) (.t 22))⟩, ⟨(some 24), none, (.load none (.t 23))⟩, ⟨(some 25), none, (.conv .u64 (.t 24))⟩, ⟨(some 26), none, (.mov (.t 2))⟩, ⟨(some 27), none, (.bin .mul (.t 25) (.t 26))⟩, ⟨(some 28), none, (.bin .add (.t 20) (.t 27))⟩, ⟨(some 7), none, (.mov (.t 28))⟩] [0, 1, 2, 7, 8, 9, 12, 13]) .skip)) (.seq (.reg [⟨(some 29), none, (.mov (.t 0))⟩, ⟨(some 30), none, (.mov (.t 9))⟩, ⟨(some 31), none, (.idxA 1 (.t 29) (.t 30))⟩, ⟨(some 32), none, (.load none (.t 31))⟩, ⟨(some 33), none, (.conv .u64 (.t 32))⟩, ⟨(some 34), none, (.mov (.t 7))⟩, ⟨(some 35), none, (.bin .and (.t 34) (.k (.int .u64 ((4294967295 : Nat) : Int))))⟩, ⟨(some 36), none, (.bin .sub (.t 33) (.t 35))⟩, ⟨(some 37), none, (.mov (.t 8))⟩, ⟨(some 38), none, (.bin .sub (.t 36) (.t 37))⟩, ⟨(some 10), none, (.mov (.t 38))⟩] [0, 1, 2, 7, 9, 10, 12, 13]) (.seq (.reg [⟨(some 39), none, (.mov (.t 7))⟩, ⟨(some 40), none, (.bin .shr (.t 39) (.k (.int .u64 ((32 : Nat) : Int))))⟩, ⟨(some 7), none, (.mov (.t 40))⟩] [0, 1, 2, 7, 9, 10, 12, 13]) (.seq (.reg [⟨(some 41), none, (.mov (.t 0))⟩, ⟨(some 42), none, (.mov (.t 9))⟩, ⟨(some 43), none, (.mov (.t 10))⟩, ⟨(some 44), none, (.conv .u32 (.t 43))⟩, ⟨(some 45), none, (.idxA 1 (.t 41) (.t 42))⟩, ⟨none, none, (.store 1 (.t 45) (.t 44))⟩] [0, 1, 2, 7, 10, 12, 13]) (.reg [⟨(some 46), none, (.mov (.t 10))⟩, ⟨(some 47), none, (.bin .shr (.t 46) (.k (.int .u64 ((32 : Nat) : Int))))⟩, ⟨(some 48), none, (.bin .and (.t 47) (.k (.int .u64 ((1 : Nat) : Int))))⟩, ⟨(some 8), none, (.mov (.t 48))⟩] [0, 1, 2, 7, 8, 12, 13]))))))) (.reg [⟨(some 49), none, (.bin .add (.t 13) (.k (.int .i64 ((1 : Nat) : Int))))⟩, ⟨(some 13), none, (.mov (.t 49))⟩] [0, 1, 2, 7, 8, 12, 13]))))))) (.seq (.reg [⟨(some 50), none, (.mov (.t 8))⟩, ⟨(some 51), none, (.bin .gtr (.t 50) (.k (.int .u64 ((0 : Nat) : Int))))⟩, ⟨(some 6), none, (.mov (.t 51))⟩] [6]) .ret))))
def rs114 : List RV := [(.t 6)]
theorem co114 : compFn Go.Proofs.Tryd.prog Go.Proofs.Tryd.f114 pl114 = some (ac114, rs114) := by kernel_rfl
theorem enter114 {args : List AV} {H : AHeap} {Q : AV → AHeap → Prop} (hn : args.length ≤ 52) (h : W Go.Proofs.Tryd.prog ac114 (retN rs114 Q) ⟨[], initE args 0, H⟩) : Run Go.Proofs.Tryd.prog 114 args H Q := Run_fn2 mixed Go.Proofs.Tryd.func114 (by kernel_rfl) co114 (n := 52) (by kernel_rfl) hn h
def ac118 : ACode := (.seq (.reg [⟨(some 4), none, (.mov (.k (.int .i64 ((0 : Nat) : Int))))⟩] [0, 1]) (.seq (.seq (.reg [⟨(some 6), none, (.mov (.t 0))⟩, ⟨(some 7), none, (.len false (.t 6))⟩, ⟨(some 8), none, (.mov (.k (.int .i64 ((0 : Nat) : Int))))⟩] [0, 1, 7, 8]) (.block 0 (.loop (.seq (.reg [⟨(some 9), none, (.bin .lss (.t 8) (.t 7))⟩] [0, 1, 7, 8, 9]) (.seq (.cond (.t 9) .skip (.exit 0)) (.seq (.block 1 (.seq (.reg [⟨(some 10), none, (.mov (.t 8))⟩, ⟨(some 5), none, (.mov (.t 10))⟩] [0, 1, 5, 7, 8]) (.seq (.reg [⟨(some 11), none, (.mov (.t 1))⟩, ⟨(some 12), none, (.mov (.t 0))⟩, ⟨(some 13), none, (.mov (.t 5))⟩, ⟨(some 14), none, (.idxA 1 (.t 12) (.t 13))⟩, ⟨(some 15), none, (.load none (.t 14))⟩, ⟨(some 16), none, (.call (.t 11) [(.t 15)])⟩] [0, 1, 5, 7, 8, 16]) (.cond (.t 16) (.seq (.reg [⟨(some 17), none, (.mov (.t 5))⟩, ⟨(some 4), none, (.mov (.t 17))⟩] [4]) .ret) .skip)))) (.reg [⟨(some 18), none, (.bin .add (.t 8) (.k (.int .i64 ((1 : Nat) : Int))))⟩, ⟨(some 8), none, (.mov (.t 18))⟩] [0, 1, 7, 8]))))))) (.seq (.reg [⟨(some 4), none, (.mov (.k (.int .i64 (-1))))⟩] [4]) .ret)))
def rs118 : List RV := [(.t 4)]
theorem co118 : compFn Go.Proofs.Tryd.prog Go.Proofs.Tryd.f118 pl118 = some (ac118, rs118) := by kernel_rfl
theorem enter118 {args : List AV} {H : AHeap} {Q : AV → AHeap → Prop} (hn : args.length ≤ 19) (h : W Go.Proofs.Tryd.prog ac118 (retN rs118 Q) ⟨[], initE args 0, H⟩) : Run Go.Proofs.Tryd.prog 118 args H Q := Run_fn2 mixed Go.Proofs.Tryd.func118 (by kernel_rfl) co118 (n := 19) (by kernel_rfl) hn h
def ac119 : ACode := (.seq (.reg [⟨(some 4), none, (.mov (.k (.str ⟨#[]⟩)))⟩] [0, 1]) (.seq (.block 0 (.loop (.seq (.seq (.reg [⟨(some 5), none, (.mov (.t 0))⟩, ⟨(some 6), none, (.len true (.t 5))⟩, ⟨(some 7), none, (.bin .gtr (.t 6) (.k (.int .i64 ((0 : Nat) : Int))))⟩, ⟨(some 8), none, (.mov (.t 7))⟩, ⟨(some 9), (some (8, true)), (.mov (.t 0))⟩, ⟨(some 10), (some (8, true)), (.idxS (.t 9) (.k (.int .i64 ((0 : Nat) : Int))))⟩, ⟨(some 11), (some (8, true)), (.mov (.t 1))⟩, ⟨(some 12), (some (8, true)), (.bin .eql (.t 10) (.t 11))⟩, ⟨(some 13), none, (.pick (.t 8) (.t 12) (.k (.bool false)))⟩] [0, 1, 13]) (.cond (.t 13) .skip (.exit 0))) (.block 1 (.reg [⟨(some 14), none, (.mov (.t 0))⟩, ⟨(some 15), none, (.slcS (.t 14) (some (.k (.int .i64 ((1 : Nat) : Int)))) none)⟩, ⟨(some 0), none, (.mov (.t 15))⟩] [0, 1]))))) (.seq (.reg [⟨(some 16), none, (.mov (.t 0))⟩, ⟨(some 4), none, (.mov (.t 16))⟩] [4]) .ret)))
def rs119 : List RV := [(.t 4)]
theorem co119 : compFn Go.Proofs.Tryd.prog Go.Proofs.Tryd.f119 pl119 = some (ac119, rs119) := by kernel_rfl
theorem enter119 {args : List AV} {H : AHeap} {Q : AV → AHeap → Prop} (hn : args.length ≤ 17) (h : W Go.Proofs.Tryd.prog ac119 (retN rs119 Q) ⟨[], initE args 0, H⟩) : Run Go.Proofs.Tryd.prog 119 args H Q := Run_fn2 mixed Go.Proofs.Tryd.func119 (by kernel_rfl) co119 (n := 17) (by kernel_rfl) hn h
def ac123 : ACode := (.seq (.reg [⟨(some 2), none, (.mov (.t 0))⟩, ⟨(some 3), none, (.prim .nck [(.t 2)])⟩, ⟨(some 4), none, (.fldA 0 (.t 3))⟩, ⟨(some 5), none, (.load none (.t 4))⟩, ⟨(some 6), none, (.prim (.peq false) [(.t 5), (.k .nilP)])⟩] [0, 6]) (.cond (.t 6) (.reg [⟨(some 7), none, (.mov (.t 0))⟩, ⟨(some 8), none, (.mov (.t 0))⟩, ⟨(some 9), none, (.prim .toU [(.t 8)])⟩, ⟨(some 10), none, (.mov (.t 9))⟩, ⟨(some 11), none, (.prim (.fromU 113 2) [(.t 10)])⟩, ⟨(some 12), none, (.prim .nck [(.t 7)])⟩, ⟨(some 13), none, (.fldA 0 (.t 12))⟩, ⟨none, none, (.store 1 (.t 13) (.t 11))⟩] []) (.seq (.reg [⟨(some 14), none, (.mov (.t 0))⟩, ⟨(some 15), none, (.prim .nck [(.t 14)])⟩, ⟨(some 16), none, (.fldA 0 (.t 15))⟩, ⟨(some 17), none, (.load none (.t 16))⟩, ⟨(some 18), none, (.mov (.t 0))⟩, ⟨(some 19), none, (.prim (.peq true) [(.t 17), (.t 18)])⟩] [19]) (.cond (.t 19) .refuse .skip))))
def rs123 : List RV := []
theorem co123 : compFn Go.Proofs.Tryd.prog Go.Proofs.Tryd.f123 pl123 = some (ac123, rs123) := by kernel_rfl
theorem enter123 {args : List AV} {H : AHeap} {Q : AV → AHeap → Prop} (hn : args.length ≤ 20) (h : W Go.Proofs.Tryd.prog ac123 (retN rs123 Q) ⟨[], initE args 0, H⟩) : Run Go.Proofs.Tryd.prog 123 args H Q := Run_fn2 mixed Go.Proofs.Tryd.func123 (by kernel_rfl) co123 (n := 20) (by kernel_rfl) hn h
end Go.Proofs.YtipbcjnniamcgaaDoor.Fw

/- What package limb computes: trimming, copies, comparing. -/
namespace Go.Proofs.YtipbcjnniamcgaaDoor.Fw
set_option linter.unusedSimpArgs false
set_option linter.unusedVariables false
open Go Go.Proofs.YtipbcjnniamcgaaDoor.Ma

theorem load_LS0 {H : AHeap} {K : AV → Prop} {l : List Nat} (h : 0 < l.length) : loadW H none (.cptr (U l)) K = K (.int .u32 ((l.getD 0 0 : Nat) : Int)) := by
  have := load_LS (H := H) (K := K) (l := l) (i := 0) h
  rwa [List.drop_zero] at this
theorem digs_len0 {B n : Nat} (hB : 2 ≤ B) : ((digs B n).length = 0) = (n = 0) := by
  rw [List.length_eq_zero_iff]; exact propext (digs_nil hB)
theorem trim_fn (l : List Nat) (t : Bool) : PFn Tryd.prog 90 [LS l t] (LS (tr l) true) := by
  intro H Q hq
  refine enter90 (by simp) ?_
  simp (disch := first | assumption | (apply Ap.symm; assumption) | omega | decide | (simp only [U_len, List.length_append, List.length_replicate, List.length_cons, List.length_nil, List.length_set] <;> omega) | fail) only [ac90, len_LS, len_own, ↓Xa, Xb, Xc, ↓reduceIte, Nat.reduceLT, Nat.reduceEqDiff, Nat.reduceBEq, Nat.reduceLeDiff, Nat.reduceAdd, Nat.reduceMul]
  intro hl
  refine W_loop (fun n : Nat => ⟨[], [(0, LS l t), (3, .int .i64 n)], H⟩) (fun n => n ≤ l.length ∧ ∀ i, n ≤ i → i < l.length → l.getD i 0 = 0) id l.length (Settle.now rfl) ⟨Nat.le_refl _, fun i h1 h2 => absurd h1 (by omega)⟩ ?_
  rintro n ⟨hn, hz⟩
  have fin : (n = 0 ∨ l.getD (n - 1) 0 ≠ 0) → SetR Q (LS (l.take n) true) H := fun h => by rw [tr_take hn hz h]; exact SetR.now hq
  by_cases h0 : 0 < n
  · by_cases h1 : l.getD (n - 1) 0 = 0
    · simp (disch := first | assumption | (apply Ap.symm; assumption) | omega | decide | (simp only [U_len, List.length_append, List.length_replicate, List.length_cons, List.length_nil, List.length_set] <;> omega) | fail) only [h0, h1, len_LS, len_own, ↓Xa, Xb, Xc, ↓reduceIte, Nat.reduceLT, Nat.reduceEqDiff, Nat.reduceBEq, Nat.reduceLeDiff, Nat.reduceAdd, Nat.reduceMul]
      refine Settle.now ⟨n - 1, ?_, ⟨by omega, fun i hi hl' => ?_⟩, rfl⟩
      · show n - 1 < n; omega
      · rcases Nat.lt_or_ge i n with h | h
        · rw [show i = n - 1 by omega]; exact h1
        · exact hz i h hl'
    · simp (disch := first | assumption | (apply Ap.symm; assumption) | omega | decide | (simp only [U_len, List.length_append, List.length_replicate, List.length_cons, List.length_nil, List.length_set] <;> omega) | fail) only [h0, h1, len_LS, len_own, ↓Xa, Xb, Xc, ↓reduceIte, Nat.reduceLT, Nat.reduceEqDiff, Nat.reduceBEq, Nat.reduceLeDiff, Nat.reduceAdd, Nat.reduceMul]
      refine Settle.now ?_
      simp (disch := first | assumption | (apply Ap.symm; assumption) | omega | decide | (simp only [U_len, List.length_append, List.length_replicate, List.length_cons, List.length_nil, List.length_set] <;> omega) | fail) only [rs90, len_LS, len_own, ↓Xa, Xb, Xc, ↓reduceIte, Nat.reduceLT, Nat.reduceEqDiff, Nat.reduceBEq, Nat.reduceLeDiff, Nat.reduceAdd, Nat.reduceMul]
      exact fin (.inr h1)
  · simp (disch := first | assumption | (apply Ap.symm; assumption) | omega | decide | (simp only [U_len, List.length_append, List.length_replicate, List.length_cons, List.length_nil, List.length_set] <;> omega) | fail) only [h0, len_LS, len_own, ↓Xa, Xb, Xc, ↓reduceIte, Nat.reduceLT, Nat.reduceEqDiff, Nat.reduceBEq, Nat.reduceLeDiff, Nat.reduceAdd, Nat.reduceMul]
    refine Settle.now ?_
    simp (disch := first | assumption | (apply Ap.symm; assumption) | omega | decide | (simp only [U_len, List.length_append, List.length_replicate, List.length_cons, List.length_nil, List.length_set] <;> omega) | fail) only [rs90, len_LS, len_own, ↓Xa, Xb, Xc, ↓reduceIte, Nat.reduceLT, Nat.reduceEqDiff, Nat.reduceBEq, Nat.reduceLeDiff, Nat.reduceAdd, Nat.reduceMul]
    exact fin (.inl (by omega))

/-- .. of a row of one's own. -/
theorem trim_own {l : List Nat} {b ty n : Nat} {t : Bool} {H : AHeap} {Q : AV → AHeap → Prop} (hH : H b = some (.row ty 1 (U l))) (hn : l.length = n) (hq : Q (.own b n 0 (tr l).length true) H) : Run Tryd.prog 90 [.own b n 0 n t] H Q := by
  subst hn
  refine enter90 (by simp) ?_
  simp (disch := first | assumption | (apply Ap.symm; assumption) | omega | decide | (simp only [U_len, List.length_append, List.length_replicate, List.length_cons, List.length_nil, List.length_set] <;> omega) | fail) only [ac90, len_LS, len_own, ↓Xa, Xb, Xc, ↓reduceIte, Nat.reduceLT, Nat.reduceEqDiff, Nat.reduceBEq, Nat.reduceLeDiff, Nat.reduceAdd, Nat.reduceMul]
  intro hl
  refine W_loop (fun n : Nat => ⟨[], [(0, .own b l.length 0 l.length t), (3, .int .i64 n)], H⟩) (fun n => n ≤ l.length ∧ ∀ i, n ≤ i → i < l.length → l.getD i 0 = 0) id l.length (Settle.now rfl) ⟨Nat.le_refl _, fun i h1 h2 => absurd h1 (by omega)⟩ ?_
  rintro n ⟨hn, hz⟩
  have fin : (n = 0 ∨ l.getD (n - 1) 0 ≠ 0) → SetR Q (.own b l.length 0 n true) H := fun h => by
    have := congrArg List.length (tr_take hn hz h)
    rw [List.length_take, Nat.min_eq_left hn] at this
    rw [this]; exact SetR.now hq
  by_cases h0 : 0 < n
  · by_cases h1 : l.getD (n - 1) 0 = 0
    · simp (disch := first | assumption | (apply Ap.symm; assumption) | omega | decide | (simp only [U_len, List.length_append, List.length_replicate, List.length_cons, List.length_nil, List.length_set] <;> omega) | fail) only [h0, h1, hH, len_LS, len_own, ↓Xa, Xb, Xc, ↓reduceIte, Nat.reduceLT, Nat.reduceEqDiff, Nat.reduceBEq, Nat.reduceLeDiff, Nat.reduceAdd, Nat.reduceMul]
      refine Settle.now ⟨n - 1, ?_, ⟨by omega, fun i hi hl' => ?_⟩, rfl⟩
      · show n - 1 < n; omega
      · rcases Nat.lt_or_ge i n with h | h
        · rw [show i = n - 1 by omega]; exact h1
        · exact hz i h hl'
    · simp (disch := first | assumption | (apply Ap.symm; assumption) | omega | decide | (simp only [U_len, List.length_append, List.length_replicate, List.length_cons, List.length_nil, List.length_set] <;> omega) | fail) only [h0, h1, hH, len_LS, len_own, ↓Xa, Xb, Xc, ↓reduceIte, Nat.reduceLT, Nat.reduceEqDiff, Nat.reduceBEq, Nat.reduceLeDiff, Nat.reduceAdd, Nat.reduceMul]
      refine Settle.now ?_
      simp (disch := first | assumption | (apply Ap.symm; assumption) | omega | decide | (simp only [U_len, List.length_append, List.length_replicate, List.length_cons, List.length_nil, List.length_set] <;> omega) | fail) only [rs90, hH, len_LS, len_own, ↓Xa, Xb, Xc, ↓reduceIte, Nat.reduceLT, Nat.reduceEqDiff, Nat.reduceBEq, Nat.reduceLeDiff, Nat.reduceAdd, Nat.reduceMul]
      exact fin (.inr h1)
  · simp (disch := first | assumption | (apply Ap.symm; assumption) | omega | decide | (simp only [U_len, List.length_append, List.length_replicate, List.length_cons, List.length_nil, List.length_set] <;> omega) | fail) only [h0, hH, len_LS, len_own, ↓Xa, Xb, Xc, ↓reduceIte, Nat.reduceLT, Nat.reduceEqDiff, Nat.reduceBEq, Nat.reduceLeDiff, Nat.reduceAdd, Nat.reduceMul]
    refine Settle.now ?_
    simp (disch := first | assumption | (apply Ap.symm; assumption) | omega | decide | (simp only [U_len, List.length_append, List.length_replicate, List.length_cons, List.length_nil, List.length_set] <;> omega) | fail) only [rs90, hH, len_LS, len_own, ↓Xa, Xb, Xc, ↓reduceIte, Nat.reduceLT, Nat.reduceEqDiff, Nat.reduceBEq, Nat.reduceLeDiff, Nat.reduceAdd, Nat.reduceMul]
    exact fin (.inl (by omega))
theorem trim_call {l : List Nat} {b ty n : Nat} {t : Bool} {H : AHeap} {K : AV → AHeap → Prop} (hH : H b = some (.row ty 1 (U l))) (hn : l.length = n) (k : K (.own b n 0 (tr l).length true) H) : callW Tryd.prog (.fn (.func 90) [] []) [.own b n 0 n t] H K := by
  simpa [callW] using trim_own (t := t) hH hn k
/-- A new row, trimmed and handed back. -/
theorem frz_tr {l : List Nat} {b n : Nat} (hn : l.length = n) : frz b 1 (U l) (.own b n 0 (tr l).length true) = LS (tr l) true := by
  subst hn
  have h1 := tr_len l
  obtain ⟨k, h2⟩ := tr_pre l
  have h3 : (U l).take (tr l).length = U (tr l) := by
    rw [← U_take]; congr 1
    generalize tr l = x at *
    rw [h2]; simp
  simp [frz, frz2, frz1, LS, h1, h3]
theorem fin_tr {l : List Nat} {b ty n : Nat} {H : AHeap} {Q : AV → AHeap → Prop} (hb : H b = none) (hn : l.length = n) (hq : Q (LS (tr l) true) H) : SetR Q (.own b n 0 (tr l).length true) (H.upd b (some (.row ty 1 (U l)))) := by
  refine SetR.frz b (upd_same _ _ _) ?_
  rw [frz_tr hn, upd_upd, upd_back _ hb]
  exact SetR.now hq

theorem frz2_tr {l : List Nat} {b n : Nat} (hn : l.length = n) : frz2 b 1 (U l) (.own b n 0 (tr l).length true) = LS (tr l) true := frz_tr hn
theorem frz2_int {b es : Nat} {c : List AV} {k : IntKind} {n : Int} : frz2 b es c (.int k n) = .int k n := rfl
theorem fin_tr2 {l : List Nat} {b ty n : Nat} {H : AHeap} {Q : AV → AHeap → Prop} {k : IntKind} {m : Int} (hb : H b = none) (hn : l.length = n) (hq : Q (.tup [LS (tr l) true, .int k m]) H) : SetR Q (.tup [.own b n 0 (tr l).length true, .int k m]) (H.upd b (some (.row ty 1 (U l)))) := by
  refine SetR.frz b (upd_same _ _ _) ?_
  rw [upd_upd, upd_back _ hb, frz, List.map_cons, List.map_cons, List.map_nil, frz2_tr hn, frz2_int]
  exact SetR.now hq
theorem fin_tr3 {l : List Nat} {b ty n : Nat} {H : AHeap} {Q : AV → AHeap → Prop} {k k' : IntKind} {m m' : Int} (hb : H b = none) (hn : l.length = n) (hq : Q (.tup [LS (tr l) true, .int k m, .int k' m']) H) : SetR Q (.tup [.own b n 0 (tr l).length true, .int k m, .int k' m']) (H.upd b (some (.row ty 1 (U l)))) := by
  refine SetR.frz b (upd_same _ _ _) ?_
  rw [upd_upd, upd_back _ hb, frz, List.map_cons, List.map_cons, List.map_cons, List.map_nil, frz2_tr hn, frz2_int, frz2_int]
  exact SetR.now hq

theorem norm_fn {l : List Nat} (t : Bool) (hl : l.length ≤ 70368744177664) : PFn Tryd.prog 35 [LS l t] (LS (tr l) true) := by
  intro H Q hq
  refine enter35 (by simp) ?_
  simp (disch := first | assumption | (apply Ap.symm; assumption) | omega | decide | (simp only [U_len, List.length_append, List.length_replicate, List.length_cons, List.length_nil, List.length_set] <;> omega) | fail) only [ac35, len_LS, len_own, ↓Xa, Xb, Xc, ↓reduceIte, Nat.reduceLT, Nat.reduceEqDiff, Nat.reduceBEq, Nat.reduceLeDiff, Nat.reduceAdd, Nat.reduceMul]
  refine (trim_fn l t).call ?_
  have h1 := tr_len l
  simp (disch := first | assumption | (apply Ap.symm; assumption) | omega | decide | (simp only [U_len, List.length_append, List.length_replicate, List.length_cons, List.length_nil, List.length_set] <;> omega) | fail) only [len_LS, len_own, ↓Xa, Xb, Xc, ↓reduceIte, Nat.reduceLT, Nat.reduceEqDiff, Nat.reduceBEq, Nat.reduceLeDiff, Nat.reduceAdd, Nat.reduceMul]
  intro h2
  refine newU_i fun b hb => ?_
  simp (disch := first | assumption | (apply Ap.symm; assumption) | omega | decide | (simp only [U_len, List.length_append, List.length_replicate, List.length_cons, List.length_nil, List.length_set] <;> omega) | fail) only [len_LS, len_own, ↓Xa, Xb, Xc, ↓reduceIte, Nat.reduceLT, Nat.reduceEqDiff, Nat.reduceBEq, Nat.reduceLeDiff, Nat.reduceAdd, Nat.reduceMul]
  refine cpy_U (upd_same _ _ _) (by simp) rfl ?_
  simp (disch := first | assumption | (apply Ap.symm; assumption) | omega | decide | (simp only [U_len, List.length_append, List.length_replicate, List.length_cons, List.length_nil, List.length_set] <;> omega) | fail) only [rs35, len_LS, len_own, ↓Xa, Xb, Xc, ↓reduceIte, Nat.reduceLT, Nat.reduceEqDiff, Nat.reduceBEq, Nat.reduceLeDiff, Nat.reduceAdd, Nat.reduceMul]
  refine SetR.frz b (upd_same _ _ _) ?_
  rw [upd_upd, upd_back _ hb]
  have e : frz b 1 (U (tr l)) (.own b (tr l).length 0 (tr l).length true) = LS (tr l) true := by simp [frz, frz2, frz1, LS, List.take_of_length_le]
  rw [e]; exact SetR.now hq

/-- -1, 0, 1. -/
def cmpZ (a b : Nat) : Int := if a < b then -1 else if b < a then ((1 : Nat) : Int) else ((0 : Nat) : Int)

theorem cmp_fn {a b : List Nat} (ta tb : Bool) (ha : Lim 4294967296 a) (hb : Lim 4294967296 b) : PFn Tryd.prog 36 [LS a ta, LS b tb] (.int .i64 (cmpZ (val 4294967296 a) (val 4294967296 b))) := by
  intro H Q hq
  refine enter36 (by simp) ?_
  simp (disch := first | assumption | (apply Ap.symm; assumption) | omega | decide | (simp only [U_len, List.length_append, List.length_replicate, List.length_cons, List.length_nil, List.length_set] <;> omega) | fail) only [ac36, len_LS, len_own, ↓Xa, Xb, Xc, ↓reduceIte, Nat.reduceLT, Nat.reduceEqDiff, Nat.reduceBEq, Nat.reduceLeDiff, Nat.reduceAdd, Nat.reduceMul]
  refine (trim_fn a ta).call ?_
  simp (disch := first | assumption | (apply Ap.symm; assumption) | omega | decide | (simp only [U_len, List.length_append, List.length_replicate, List.length_cons, List.length_nil, List.length_set] <;> omega) | fail) only [len_LS, len_own, ↓Xa, Xb, Xc, ↓reduceIte, Nat.reduceLT, Nat.reduceEqDiff, Nat.reduceBEq, Nat.reduceLeDiff, Nat.reduceAdd, Nat.reduceMul]
  refine (trim_fn b tb).call ?_
  rw [tr_digs (by omega) ha, tr_digs (by omega) hb]
  generalize val 4294967296 a = m at *
  generalize val 4294967296 b = n at *
  have hx := lim_digs (B := 4294967296) (by omega) m
  have hy := lim_digs (B := 4294967296) (by omega) n
  have vx := val_digs (B := 4294967296) (by omega) m
  have vy := val_digs (B := 4294967296) (by omega) n
  have lt1 := digs_lt_len (B := 4294967296) (a := m) (b := n) (by omega)
  have lt2 := digs_lt_len (B := 4294967296) (a := n) (b := m) (by omega)
  generalize digs 4294967296 m = x at *
  generalize digs 4294967296 n = y at *
  have less : m < n → SetR Q (.int .i64 (-1)) H := fun h => by
    have : cmpZ m n = -1 := by simp [cmpZ, h]
    rw [← this]; exact SetR.now hq
  have more : n < m → SetR Q (.int .i64 ((1 : Nat) : Int)) H := fun h => by
    have : cmpZ m n = ((1 : Nat) : Int) := by simp [cmpZ, h, Nat.not_lt_of_lt h]
    rw [← this]; exact SetR.now hq
  by_cases c1 : x.length < y.length
  · simp (disch := first | assumption | (apply Ap.symm; assumption) | omega | decide | (simp only [U_len, List.length_append, List.length_replicate, List.length_cons, List.length_nil, List.length_set] <;> omega) | fail) only [c1, rs36, len_LS, len_own, ↓Xa, Xb, Xc, ↓reduceIte, Nat.reduceLT, Nat.reduceEqDiff, Nat.reduceBEq, Nat.reduceLeDiff, Nat.reduceAdd, Nat.reduceMul]
    intro _ _
    exact less (lt1 c1)
  by_cases c2 : y.length < x.length
  · simp (disch := first | assumption | (apply Ap.symm; assumption) | omega | decide | (simp only [U_len, List.length_append, List.length_replicate, List.length_cons, List.length_nil, List.length_set] <;> omega) | fail) only [c1, c2, rs36, len_LS, len_own, ↓Xa, Xb, Xc, ↓reduceIte, Nat.reduceLT, Nat.reduceEqDiff, Nat.reduceBEq, Nat.reduceLeDiff, Nat.reduceAdd, Nat.reduceMul]
    intro _ _ _ _
    exact more (lt2 c2)
  simp (disch := first | assumption | (apply Ap.symm; assumption) | omega | decide | (simp only [U_len, List.length_append, List.length_replicate, List.length_cons, List.length_nil, List.length_set] <;> omega) | fail) only [c1, c2, len_LS, len_own, ↓Xa, Xb, Xc, ↓reduceIte, Nat.reduceLT, Nat.reduceEqDiff, Nat.reduceBEq, Nat.reduceLeDiff, Nat.reduceAdd, Nat.reduceMul]
  intro l1 l2
  intros
  simp (disch := first | assumption | (apply Ap.symm; assumption) | omega | decide | (simp only [U_len, List.length_append, List.length_replicate, List.length_cons, List.length_nil, List.length_set] <;> omega) | fail) only [len_LS, len_own, ↓Xa, Xb, Xc, ↓reduceIte, Nat.reduceLT, Nat.reduceEqDiff, Nat.reduceBEq, Nat.reduceLeDiff, Nat.reduceAdd, Nat.reduceMul]
  have hlen : x.length = y.length := by omega
  refine W_loop (fun k : Nat => ⟨[], [(0, LS x true), (1, LS y true), (5, .int .i64 (dn k))], H⟩) (fun k => k ≤ x.length ∧ x.drop k = y.drop k) id x.length (Settle.now rfl) ⟨Nat.le_refl _, by rw [List.drop_of_length_le (Nat.le_refl _), List.drop_of_length_le (by omega)]⟩ ?_
  rintro k ⟨hk, hd⟩
  cases k with
  | zero =>
    simp (disch := first | assumption | (apply Ap.symm; assumption) | omega | decide | (simp only [U_len, List.length_append, List.length_replicate, List.length_cons, List.length_nil, List.length_set] <;> omega) | fail) only [len_LS, len_own, ↓Xa, Xb, Xc, ↓reduceIte, Nat.reduceLT, Nat.reduceEqDiff, Nat.reduceBEq, Nat.reduceLeDiff, Nat.reduceAdd, Nat.reduceMul]
    refine Settle.now ?_
    simp (disch := first | assumption | (apply Ap.symm; assumption) | omega | decide | (simp only [U_len, List.length_append, List.length_replicate, List.length_cons, List.length_nil, List.length_set] <;> omega) | fail) only [rs36, len_LS, len_own, ↓Xa, Xb, Xc, ↓reduceIte, Nat.reduceLT, Nat.reduceEqDiff, Nat.reduceBEq, Nat.reduceLeDiff, Nat.reduceAdd, Nat.reduceMul]
    have e : m = n := by rw [← vx, ← vy]; rw [List.drop_zero, List.drop_zero] at hd; rw [hd]
    have : cmpZ m n = ((0 : Nat) : Int) := by simp [cmpZ, e]
    rw [← this]; exact SetR.now hq
  | succ k =>
    by_cases d1 : x.getD k 0 < y.getD k 0
    · simp (disch := first | assumption | (apply Ap.symm; assumption) | omega | decide | (simp only [U_len, List.length_append, List.length_replicate, List.length_cons, List.length_nil, List.length_set] <;> omega) | fail) only [d1, rs36, len_LS, len_own, ↓Xa, Xb, Xc, ↓reduceIte, Nat.reduceLT, Nat.reduceEqDiff, Nat.reduceBEq, Nat.reduceLeDiff, Nat.reduceAdd, Nat.reduceMul]
      exact less (by rw [← vx, ← vy]; exact val_lt_high hx (by omega) k (by omega) hlen hd d1)
    by_cases d2 : y.getD k 0 < x.getD k 0
    · simp (disch := first | assumption | (apply Ap.symm; assumption) | omega | decide | (simp only [U_len, List.length_append, List.length_replicate, List.length_cons, List.length_nil, List.length_set] <;> omega) | fail) only [d1, d2, rs36, len_LS, len_own, ↓Xa, Xb, Xc, ↓reduceIte, Nat.reduceLT, Nat.reduceEqDiff, Nat.reduceBEq, Nat.reduceLeDiff, Nat.reduceAdd, Nat.reduceMul]
      exact more (by rw [← vx, ← vy]; exact val_lt_high hy (by omega) k (by omega) hlen.symm hd.symm d2)
    simp (disch := first | assumption | (apply Ap.symm; assumption) | omega | decide | (simp only [U_len, List.length_append, List.length_replicate, List.length_cons, List.length_nil, List.length_set] <;> omega) | fail) only [d1, d2, len_LS, len_own, ↓Xa, Xb, Xc, ↓reduceIte, Nat.reduceLT, Nat.reduceEqDiff, Nat.reduceBEq, Nat.reduceLeDiff, Nat.reduceAdd, Nat.reduceMul]
    refine Settle.now ⟨k, Nat.lt_succ_self k, ⟨by omega, ?_⟩, rfl⟩
    rw [List.drop_eq_getElem_cons (by omega), List.drop_eq_getElem_cons (i := k) (l := y) (by omega), hd]
    congr 1
    have e1 : x.getD k 0 = x[k] := by simp [List.getD_eq_getElem?_getD, List.getElem?_eq_getElem (show k < x.length by omega)]
    have e2 : y.getD k 0 = y[k] := by simp [List.getD_eq_getElem?_getD, List.getElem?_eq_getElem (show k < y.length by omega)]
    omega
end Go.Proofs.YtipbcjnniamcgaaDoor.Fw

/- What package limb computes: sums, differences, products, quotients by one limb. -/
namespace Go.Proofs.YtipbcjnniamcgaaDoor.Fw
set_option linter.unusedSimpArgs false
set_option linter.unusedVariables false
open Go Go.Proofs.YtipbcjnniamcgaaDoor.Ma
set_option maxRecDepth 20000

theorem add_tail {a b : List Nat} {ta tb : Bool} {H : AHeap} {Q : AV → AHeap → Prop} (hab : b.length ≤ a.length) (ha : Lim 4294967296 a) (hb : Lim 4294967296 b) (hl : a.length ≤ 1099511627776)
    (hq : Q (LS (digs 4294967296 (val 4294967296 a + val 4294967296 b)) true) H) : W Tryd.prog (hold (sndC (sndC ac38))) (retN rs38 Q) ⟨[], [(0, LS a ta), (1, LS b tb)], H⟩ := by
  simp (disch := first | assumption | (apply Ap.symm; assumption) | omega | decide | (simp only [U_len, List.length_append, List.length_replicate, List.length_cons, List.length_nil, List.length_set] <;> omega) | fail) only [ac38, hold, sndC, ↓Xa, Xb, Xc, ↓reduceIte, Nat.reduceLT, Nat.reduceEqDiff, Nat.reduceBEq, Nat.reduceLeDiff, Nat.reduceAdd, Nat.reduceMul]
  refine newU_i fun o ho => ?_
  simp (disch := first | assumption | (apply Ap.symm; assumption) | omega | decide | (simp only [U_len, List.length_append, List.length_replicate, List.length_cons, List.length_nil, List.length_set] <;> omega) | fail) only [↓Xa, Xb, Xc, ↓reduceIte, Nat.reduceLT, Nat.reduceEqDiff, Nat.reduceBEq, Nat.reduceLeDiff, Nat.reduceAdd, Nat.reduceMul]
  refine W_loop (fun p : Nat × Nat × List Nat => ⟨[], [(0, LS a ta), (1, LS b tb), (5, .own o (a.length + 1) 0 (a.length + 1) true), (6, .int .u64 p.2.1), (20, LS a ta), (21, .int .i64 a.length), (22, .int .i64 p.1)],
      H.upd o (some (.row 45 1 (U (p.2.2 ++ List.replicate (a.length + 1 - p.1) 0))))⟩)
    (fun p => p.1 ≤ a.length ∧ AddI a b p.1 p.2.1 p.2.2) (fun p => a.length - p.1) (0, 0, []) (Settle.now rfl) ⟨by simp, AddI.zero a b⟩ ?_
  rintro ⟨i, c, done⟩ ⟨h1, h2⟩
  dsimp only at h1 h2 ⊢
  have hdl := h2.1
  have hc := h2.2.2.1
  by_cases hi : i < a.length
  · have hx := ha.getD (by omega) i
    have hy := hb.getD (by omega) i
    by_cases hj : i < b.length
    · simp (disch := first | assumption | (apply Ap.symm; assumption) | omega | decide | (simp only [U_len, List.length_append, List.length_replicate, List.length_cons, List.length_nil, List.length_set] <;> omega) | fail) only [hi, hj, ↓Xa, Xb, Xc, ↓reduceIte, Nat.reduceLT, Nat.reduceEqDiff, Nat.reduceBEq, Nat.reduceLeDiff, Nat.reduceAdd, Nat.reduceMul]
      refine Settle.now ⟨(i + 1, _, done ++ [_]), by dsimp only; omega, ⟨by dsimp only; omega, h2.step ha hb rfl⟩, ?_⟩
      rw [set_zeros' _ _ _ _ hdl (by omega)]
    · simp (disch := first | assumption | (apply Ap.symm; assumption) | omega | decide | (simp only [U_len, List.length_append, List.length_replicate, List.length_cons, List.length_nil, List.length_set] <;> omega) | fail) only [hi, hj, ↓Xa, Xb, Xc, ↓reduceIte, Nat.reduceLT, Nat.reduceEqDiff, Nat.reduceBEq, Nat.reduceLeDiff, Nat.reduceAdd, Nat.reduceMul]
      have := getD_beyond (show b.length ≤ i by omega)
      refine Settle.now ⟨(i + 1, _, done ++ [_]), by dsimp only; omega, ⟨by dsimp only; omega, h2.step ha hb (s := c + a.getD i 0) (by omega)⟩, ?_⟩
      rw [set_zeros' _ _ _ _ hdl (by omega)]
  · obtain rfl : i = a.length := by omega
    simp (disch := first | assumption | (apply Ap.symm; assumption) | omega | decide | (simp only [U_len, List.length_append, List.length_replicate, List.length_cons, List.length_nil, List.length_set] <;> omega) | fail) only [hi, ↓Xa, Xb, Xc, ↓reduceIte, Nat.reduceLT, Nat.reduceEqDiff, Nat.reduceBEq, Nat.reduceLeDiff, Nat.reduceAdd, Nat.reduceMul]
    refine Settle.now ?_
    simp (disch := first | assumption | (apply Ap.symm; assumption) | omega | decide | (simp only [U_len, List.length_append, List.length_replicate, List.length_cons, List.length_nil, List.length_set] <;> omega) | fail) only [↓Xa, Xb, Xc, ↓reduceIte, Nat.reduceLT, Nat.reduceEqDiff, Nat.reduceBEq, Nat.reduceLeDiff, Nat.reduceAdd, Nat.reduceMul]
    rw [set_zeros _ _ _ _ hdl (by omega), show a.length + 1 - a.length - 1 = 0 by omega, List.replicate_zero, List.append_nil]
    refine trim_call (upd_same _ _ _) (by simp [hdl]) ?_
    simp (disch := first | assumption | (apply Ap.symm; assumption) | omega | decide | (simp only [U_len, List.length_append, List.length_replicate, List.length_cons, List.length_nil, List.length_set] <;> omega) | fail) only [rs38, ↓Xa, Xb, Xc, ↓reduceIte, Nat.reduceLT, Nat.reduceEqDiff, Nat.reduceBEq, Nat.reduceLeDiff, Nat.reduceAdd, Nat.reduceMul]
    exact fin_tr ho (by simp [hdl]) (by rw [h2.end hab]; exact hq)

theorem add_fn {a b : List Nat} (ta tb : Bool) (ha : Lim 4294967296 a) (hb : Lim 4294967296 b) (hla : a.length ≤ 1099511627776) (hlb : b.length ≤ 1099511627776) : PFn Tryd.prog 38 [LS a ta, LS b tb] (LS (digs 4294967296 (val 4294967296 a + val 4294967296 b)) true) := by
  intro H Q hq
  refine enter38 (by simp) ?_
  rw [show ac38 = .seq (fstC ac38) (.seq (fstC (sndC ac38)) (hold (sndC (sndC ac38)))) from rfl]
  by_cases c : a.length < b.length
  · simp (disch := first | assumption | (apply Ap.symm; assumption) | omega | decide | (simp only [U_len, List.length_append, List.length_replicate, List.length_cons, List.length_nil, List.length_set] <;> omega) | fail) only [c, fstC, sndC, ac38, ↓Xa, Xb, Xc, ↓reduceIte, Nat.reduceLT, Nat.reduceEqDiff, Nat.reduceBEq, Nat.reduceLeDiff, Nat.reduceAdd, Nat.reduceMul]
    exact add_tail (by omega) hb ha hlb (by rw [Nat.add_comm]; exact hq)
  · simp (disch := first | assumption | (apply Ap.symm; assumption) | omega | decide | (simp only [U_len, List.length_append, List.length_replicate, List.length_cons, List.length_nil, List.length_set] <;> omega) | fail) only [c, fstC, sndC, ac38, ↓Xa, Xb, Xc, ↓reduceIte, Nat.reduceLT, Nat.reduceEqDiff, Nat.reduceBEq, Nat.reduceLeDiff, Nat.reduceAdd, Nat.reduceMul]
    exact add_tail (by omega) ha hb hla hq

theorem mul_fn {a b : List Nat} (ta tb : Bool) (ha : Lim 4294967296 a) (hb : Lim 4294967296 b) (hla : a.length ≤ 1099511627776) (hlb : b.length ≤ 1099511627776) :
    PFn Tryd.prog 39 [LS a ta, LS b tb] (LS (digs 4294967296 (val 4294967296 a * val 4294967296 b)) true) := by
  intro H Q hq
  refine enter39 (by simp) ?_
  simp (disch := first | assumption | (apply Ap.symm; assumption) | omega | decide | (simp only [U_len, List.length_append, List.length_replicate, List.length_cons, List.length_nil, List.length_set] <;> omega) | fail) only [ac39, ↓Xa, Xb, Xc, ↓reduceIte, Nat.reduceLT, Nat.reduceEqDiff, Nat.reduceBEq, Nat.reduceLeDiff, Nat.reduceAdd, Nat.reduceMul]
  refine newU_i fun o ho => ?_
  simp (disch := first | assumption | (apply Ap.symm; assumption) | omega | decide | (simp only [U_len, List.length_append, List.length_replicate, List.length_cons, List.length_nil, List.length_set] <;> omega) | fail) only [↓Xa, Xb, Xc, ↓reduceIte, Nat.reduceLT, Nat.reduceEqDiff, Nat.reduceBEq, Nat.reduceLeDiff, Nat.reduceAdd, Nat.reduceMul]
  refine W_loop (fun p : Nat × List Nat => ⟨[], [(1, LS b tb), (5, .own o (a.length + b.length) 0 (a.length + b.length) true), (17, LS a ta), (18, .int .i64 a.length), (19, .int .i64 p.1)],
      H.upd o (some (.row 45 1 (U p.2)))⟩)
    (fun p => p.1 ≤ a.length ∧ MulI a b p.1 p.2) (fun p => a.length - p.1) (0, List.replicate (a.length + b.length) 0) (Settle.now rfl) ⟨by simp, MulI.zero a b⟩ ?_
  rintro ⟨i, out⟩ ⟨h1, h2⟩
  dsimp only at h1 h2 ⊢
  have hol := h2.1
  by_cases hi : i < a.length
  · simp (disch := first | assumption | (apply Ap.symm; assumption) | omega | decide | (simp only [U_len, List.length_append, List.length_replicate, List.length_cons, List.length_nil, List.length_set] <;> omega) | fail) only [hi, ↓Xa, Xb, Xc, ↓reduceIte, Nat.reduceLT, Nat.reduceEqDiff, Nat.reduceBEq, Nat.reduceLeDiff, Nat.reduceAdd, Nat.reduceMul]
    refine W_loop (fun p : Nat × Nat × List Nat => ⟨[], [(1, LS b tb), (5, .own o (a.length + b.length) 0 (a.length + b.length) true), (6, .int .i64 i), (7, .int .u32 (a.getD i 0 : Nat)), (8, .int .u64 p.2.1), (17, LS a ta), (18, .int .i64 a.length), (19, .int .i64 i), (24, LS b tb), (25, .int .i64 b.length), (26, .int .i64 p.1)],
      H.upd o (some (.row 45 1 (U p.2.2)))⟩)
      (fun p => p.1 ≤ b.length ∧ MulK a b i p.1 p.2.1 p.2.2) (fun p => b.length - p.1) (0, 0, out) (Settle.now rfl) ⟨by simp, MulK.start h2⟩ ?_
    rintro ⟨k, c, out⟩ ⟨g1, g2⟩
    dsimp only at g1 g2 ⊢
    have gol := g2.1
    have gc := g2.2.2.1
    have hx := ha.getD (by omega) i
    by_cases hk : k < b.length
    · have hy := hb.getD (by omega) k
      have ho := g2.2.1.getD (by omega) (i + k)
      have hm : a.getD i 0 * b.getD k 0 ≤ 4294967295 * 4294967295 := Nat.mul_le_mul (by omega) (by omega)
      simp (disch := first | assumption | (apply Ap.symm; assumption) | omega | decide | (simp only [U_len, List.length_append, List.length_replicate, List.length_cons, List.length_nil, List.length_set] <;> omega) | fail) only [hk, ↓Xa, Xb, Xc, ↓reduceIte, Nat.reduceLT, Nat.reduceEqDiff, Nat.reduceBEq, Nat.reduceLeDiff, Nat.reduceAdd, Nat.reduceMul]
      refine Settle.now ⟨(k + 1, _, _), by dsimp only; omega, ⟨by dsimp only; omega, g2.step hi hk ha hb rfl⟩, rfl⟩
    · obtain rfl : k = b.length := by omega
      simp (disch := first | assumption | (apply Ap.symm; assumption) | omega | decide | (simp only [U_len, List.length_append, List.length_replicate, List.length_cons, List.length_nil, List.length_set] <;> omega) | fail) only [hk, ↓Xa, Xb, Xc, ↓reduceIte, Nat.reduceLT, Nat.reduceEqDiff, Nat.reduceBEq, Nat.reduceLeDiff, Nat.reduceAdd, Nat.reduceMul]
      refine Settle.now ?_
      simp (disch := first | assumption | (apply Ap.symm; assumption) | omega | decide | (simp only [U_len, List.length_append, List.length_replicate, List.length_cons, List.length_nil, List.length_set] <;> omega) | fail) only [↓Xa, Xb, Xc, ↓reduceIte, Nat.reduceLT, Nat.reduceEqDiff, Nat.reduceBEq, Nat.reduceLeDiff, Nat.reduceAdd, Nat.reduceMul]
      refine Settle.now ⟨(i + 1, _), by dsimp only; omega, ⟨by dsimp only; omega, g2.end hi⟩, rfl⟩
  · obtain rfl : i = a.length := by omega
    simp (disch := first | assumption | (apply Ap.symm; assumption) | omega | decide | (simp only [U_len, List.length_append, List.length_replicate, List.length_cons, List.length_nil, List.length_set] <;> omega) | fail) only [hi, ↓Xa, Xb, Xc, ↓reduceIte, Nat.reduceLT, Nat.reduceEqDiff, Nat.reduceBEq, Nat.reduceLeDiff, Nat.reduceAdd, Nat.reduceMul]
    refine Settle.now ?_
    simp (disch := first | assumption | (apply Ap.symm; assumption) | omega | decide | (simp only [U_len, List.length_append, List.length_replicate, List.length_cons, List.length_nil, List.length_set] <;> omega) | fail) only [↓Xa, Xb, Xc, ↓reduceIte, Nat.reduceLT, Nat.reduceEqDiff, Nat.reduceBEq, Nat.reduceLeDiff, Nat.reduceAdd, Nat.reduceMul]
    refine trim_call (upd_same _ _ _) hol ?_
    simp (disch := first | assumption | (apply Ap.symm; assumption) | omega | decide | (simp only [U_len, List.length_append, List.length_replicate, List.length_cons, List.length_nil, List.length_set] <;> omega) | fail) only [rs39, ↓Xa, Xb, Xc, ↓reduceIte, Nat.reduceLT, Nat.reduceEqDiff, Nat.reduceBEq, Nat.reduceLeDiff, Nat.reduceAdd, Nat.reduceMul]
    exact fin_tr ho hol (by rw [h2.end]; exact hq)

theorem divsmall_fn {a : List Nat} {d : Nat} (ta : Bool) (ha : Lim 4294967296 a) (hd : 0 < d) (hd' : d < 4294967296) (hla : a.length ≤ 1099511627776) :
    PFn Tryd.prog 40 [LS a ta, .int .u32 (d : Nat)] (.tup [LS (digs 4294967296 (val 4294967296 a / d)) true, .int .u32 ((val 4294967296 a % d : Nat) : Int), .int .i64 ((0 : Nat) : Int)]) := by
  intro H Q hq
  refine enter40 (by simp) ?_
  have hne : (d = 0) = False := by simp; omega
  simp (disch := first | assumption | (apply Ap.symm; assumption) | omega | decide | (simp only [U_len, List.length_append, List.length_replicate, List.length_cons, List.length_nil, List.length_set] <;> omega) | fail) only [ac40, hne, ↓Xa, Xb, Xc, ↓reduceIte, Nat.reduceLT, Nat.reduceEqDiff, Nat.reduceBEq, Nat.reduceLeDiff, Nat.reduceAdd, Nat.reduceMul]
  refine newU_i fun o ho => ?_
  simp (disch := first | assumption | (apply Ap.symm; assumption) | omega | decide | (simp only [U_len, List.length_append, List.length_replicate, List.length_cons, List.length_nil, List.length_set] <;> omega) | fail) only [↓Xa, Xb, Xc, ↓reduceIte, Nat.reduceLT, Nat.reduceEqDiff, Nat.reduceBEq, Nat.reduceLeDiff, Nat.reduceAdd, Nat.reduceMul]
  refine W_loop (fun p : Nat × Nat × List Nat => ⟨[], [(0, LS a ta), (1, .int .u32 (d : Nat)), (7, .own o a.length 0 a.length true), (8, .int .u64 p.2.1), (9, .int .i64 (dn p.1))],
      H.upd o (some (.row 45 1 (U p.2.2)))⟩)
    (fun p => p.1 ≤ a.length ∧ DivI a d p.1 p.2.1 p.2.2) (fun p => p.1) (a.length, 0, List.replicate a.length 0) (Settle.now rfl) ⟨by simp, DivI.zero a hd⟩ ?_
  rintro ⟨k, r, out⟩ ⟨h1, h2⟩
  dsimp only at h1 h2 ⊢
  have hol := h2.1
  have hr := h2.2.2.1
  cases k with
  | zero =>
    simp (disch := first | assumption | (apply Ap.symm; assumption) | omega | decide | (simp only [U_len, List.length_append, List.length_replicate, List.length_cons, List.length_nil, List.length_set] <;> omega) | fail) only [↓Xa, Xb, Xc, ↓reduceIte, Nat.reduceLT, Nat.reduceEqDiff, Nat.reduceBEq, Nat.reduceLeDiff, Nat.reduceAdd, Nat.reduceMul]
    refine Settle.now ?_
    simp (disch := first | assumption | (apply Ap.symm; assumption) | omega | decide | (simp only [U_len, List.length_append, List.length_replicate, List.length_cons, List.length_nil, List.length_set] <;> omega) | fail) only [↓Xa, Xb, Xc, ↓reduceIte, Nat.reduceLT, Nat.reduceEqDiff, Nat.reduceBEq, Nat.reduceLeDiff, Nat.reduceAdd, Nat.reduceMul]
    refine trim_call (upd_same _ _ _) hol ?_
    simp (disch := first | assumption | (apply Ap.symm; assumption) | omega | decide | (simp only [U_len, List.length_append, List.length_replicate, List.length_cons, List.length_nil, List.length_set] <;> omega) | fail) only [rs40, ↓Xa, Xb, Xc, ↓reduceIte, Nat.reduceLT, Nat.reduceEqDiff, Nat.reduceBEq, Nat.reduceLeDiff, Nat.reduceAdd, Nat.reduceMul]
    rw [h2.end.2]
    exact fin_tr3 ho hol (by rw [h2.end.1]; exact hq)
  | succ k =>
    have hx := ha.getD (by omega) k
    have hs : r * 2 ^ 32 + a.getD k 0 < 18446744073709551616 := by omega
    have hq : (r * 2 ^ 32 + a.getD k 0) / d < 18446744073709551616 := Nat.lt_of_le_of_lt (Nat.div_le_self _ _) hs
    simp (disch := first | assumption | (apply Ap.symm; assumption) | omega | decide | (simp only [U_len, List.length_append, List.length_replicate, List.length_cons, List.length_nil, List.length_set] <;> omega) | fail) only [hne, ne_eq, ↓Xa, Xb, Xc, ↓reduceIte, Nat.reduceLT, Nat.reduceEqDiff, Nat.reduceBEq, Nat.reduceLeDiff, Nat.reduceAdd, Nat.reduceMul]
    refine Settle.now ⟨(k, _, _), by dsimp only; omega, ⟨by dsimp only; omega, h2.step (by omega) ha hd' rfl⟩, rfl⟩
end Go.Proofs.YtipbcjnniamcgaaDoor.Fw

/- What package integer computes: making, signs, comparing, sums, products. -/
namespace Go.Proofs.YtipbcjnniamcgaaDoor.Fw
set_option linter.unusedSimpArgs false
set_option linter.unusedVariables false
open Go Go.Proofs.YtipbcjnniamcgaaDoor.Ma
set_option maxRecDepth 20000

/-- A whole number of the program. -/
def IntA (z : Int) : AV := .agg [.bool (decide (z < 0)), LS (digs 4294967296 z.natAbs) true]
/-- A number with a sign. -/
def sg (neg : Bool) (n : Nat) : Int := if neg then -(n : Int) else n
/-- Its two cells. -/
def IntB (z : Int) : AV := .bool (decide (z < 0))
def IntD (z : Int) : AV := LS (digs 4294967296 z.natAbs) true
/-- At most so many limbs. -/
def Bd (k : Nat) (z : Int) : Prop := z.natAbs < 4294967296 ^ k
theorem Bd.len {k : Nat} {z : Int} (h : Bd k z) : (digs 4294967296 z.natAbs).length ≤ k := digs_len (by omega) k _ h
theorem Bd.mono {k k' : Nat} {z : Int} (h : Bd k z) (hk : k ≤ k') : Bd k' z := Nat.lt_of_lt_of_le h (Nat.pow_le_pow_right (by omega) hk)
theorem Bd.neg {k : Nat} {z : Int} (h : Bd k z) : Bd k (-z) := by unfold Bd at *; omega
theorem Bd.add {k : Nat} {x y : Int} (h : Bd k x) (h' : Bd k y) : Bd (k + 1) (x + y) := by
  unfold Bd at *; rw [Nat.pow_succ]; omega
theorem Bd.sub {k : Nat} {x y : Int} (h : Bd k x) (h' : Bd k y) : Bd (k + 1) (x - y) := by
  unfold Bd at *; rw [Nat.pow_succ]; omega
theorem Bd.mul {k k' : Nat} {x y : Int} (h : Bd k x) (h' : Bd k' y) : Bd (k + k') (x * y) := by
  unfold Bd at *; rw [Int.natAbs_mul, Nat.pow_add]
  exact Nat.mul_lt_mul_of_lt_of_lt h h'
theorem Bd.zero (k : Nat) : Bd k 0 := by unfold Bd; exact Nat.pow_pos (by omega)
theorem Bd.i64 {n : Int} (h : -9223372036854775808 ≤ n ∧ n < 9223372036854775808) : Bd 2 n := by unfold Bd; omega

theorem nilW_nil {g t : Bool} {K : AV → Prop} : nilW g (LS [] t) K ↔ (K (.bool true) ∧ K (.bool false)) := by simp [nilW, LS]
theorem nilW_cons {g t : Bool} {x : Nat} {l : List Nat} {K : AV → Prop} : nilW g (LS (x :: l) t) K ↔ K (.bool g) := by simp [nilW, LS]
def sgnI (x : Int) : Int := if x = 0 then ((0 : Nat) : Int) else if x < 0 then -1 else ((1 : Nat) : Int)
def cmpI (x y : Int) : Int := if x < y then -1 else if y < x then ((1 : Nat) : Int) else ((0 : Nat) : Int)
end Go.Proofs.YtipbcjnniamcgaaDoor.Fw

/- Decimal digits as bytes; a number's text, nine digits at a time. -/
namespace Go.Proofs.YtipbcjnniamcgaaDoor.Ma
set_option linter.unusedSimpArgs false
set_option linter.unusedVariables false

def chr (d : Nat) : UInt8 := UInt8.ofNat (48 + d)
theorem chr_nat {d : Nat} (h : d < 10) : (chr d).toNat = 48 + d := by unfold chr; rw [UInt8.toNat_ofNat']; omega
/-- A number's digits, high first; none of 0. -/
def dec (n : Nat) : List UInt8 := (digs 10 n).reverse.map chr
/-- So many digits. -/
def wide (k n : Nat) : List UInt8 := (pad 10 n k).reverse.map chr
theorem dec_zero : dec 0 = [] := by simp [dec, digs_zero]
theorem wide_len {k n : Nat} (h : n < 10 ^ k) : (wide k n).length = k := by
  simp only [wide, List.length_map, List.length_reverse]
  exact pad_len (digs_len (by omega) k n h)
theorem dec_len {k n : Nat} (h : n < 10 ^ k) : (dec n).length ≤ k := by
  simp only [dec, List.length_map, List.length_reverse]
  exact digs_len (by omega) k n h
theorem last_append {l m : List Nat} (h : m ≠ []) : (l ++ m).getD ((l ++ m).length - 1) 0 = m.getD (m.length - 1) 0 := by
  have : 0 < m.length := List.length_pos_iff.2 h
  rw [List.getD_eq_getElem?_getD, List.getD_eq_getElem?_getD, List.length_append, List.getElem?_append_right (by omega)]
  congr 2; omega
theorem dec_app {k p m : Nat} (hp : p < 10 ^ k) (hm : 0 < m) : dec (p + 10 ^ k * m) = dec m ++ wide k p := by
  have hne : digs 10 m ≠ [] := fun e => by have := (digs_nil (B := 10) (by omega)).1 e; omega
  have hlen := pad_len (digs_len (B := 10) (by omega) k p hp)
  have e : digs 10 (p + 10 ^ k * m) = pad 10 p k ++ digs 10 m := by
    have h1 : Lim 10 (pad 10 p k ++ digs 10 m) := (pad_lim (by omega)).append (lim_digs (by omega) m)
    have h2 := digs_of (B := 10) (by omega) h1 (.inr (by rw [last_append hne]; exact digs_last (by omega) hm))
    rw [h2, val_append, pad_val (by omega), val_digs (by omega), hlen]
  simp only [dec, e, wide, List.reverse_append, List.map_append]
/-- The highest digit of so many. -/
theorem wide_succ {j q : Nat} (h : q < 10 ^ (j + 1)) : wide (j + 1) q = chr (q / 10 ^ j) :: wide j (q % 10 ^ j) := by
  have hp : 0 < 10 ^ j := Nat.pow_pos (by omega)
  have hlt : q % 10 ^ j < 10 ^ j := Nat.mod_lt _ hp
  have hd : q / 10 ^ j < 10 := Nat.div_lt_of_lt_mul (by rw [Nat.pow_succ] at h; omega)
  have hlen := pad_len (digs_len (B := 10) (by omega) j _ hlt)
  have e : pad 10 q (j + 1) = pad 10 (q % 10 ^ j) j ++ [q / 10 ^ j] := by
    have h1 : Lim 10 (pad 10 (q % 10 ^ j) j ++ [q / 10 ^ j]) := (pad_lim (by omega)).append (Lim.one hd)
    have h2 := pad_of (B := 10) (by omega) h1
    rw [val_append, pad_val (by omega), hlen, val_one, List.length_append, hlen, Nat.mod_add_div] at h2
    exact h2.symm
  simp only [wide, e, List.reverse_append, List.map_append, List.reverse_singleton, List.map_cons, List.map_nil, List.singleton_append]
theorem wide_step {j p : Nat} : wide (j + 1) (p % 10 ^ (j + 1)) = chr (p / 10 ^ j % 10) :: wide j (p % 10 ^ j) := by
  have hp : 0 < 10 ^ (j + 1) := Nat.pow_pos (by omega)
  rw [wide_succ (Nat.mod_lt _ hp)]
  have e1 : p % 10 ^ (j + 1) / 10 ^ j = p / 10 ^ j % 10 := by rw [Nat.pow_succ, Nat.mod_mul_right_div_self]
  have e2 : p % 10 ^ (j + 1) % 10 ^ j = p % 10 ^ j := by rw [Nat.pow_succ]; exact Nat.mod_mod_of_dvd _ (Nat.dvd_mul_right _ _)
  rw [e1, e2]
theorem chr_48 {d : Nat} (h : d < 10) : (chr d = 48) ↔ d = 0 := by
  constructor
  · intro e
    have := congrArg UInt8.toNat e
    rw [chr_nat h] at this
    simp at this; omega
  · rintro rfl; rfl
/-- Without noughts ahead. -/
theorem wide_trim {k p : Nat} : (wide k p).dropWhile (· == 48) = dec p := by
  have e : wide k p = List.replicate (k - (digs 10 p).length) 48 ++ dec p := by
    simp only [wide, pad, dec, List.reverse_append, List.map_append, List.reverse_replicate, List.map_replicate]
    rfl
  rw [e]
  have h : ∀ n (l : List UInt8), (List.replicate n 48 ++ l).dropWhile (· == 48) = l.dropWhile (· == 48) := by
    intro n
    induction n with
    | zero => intro l; simp
    | succ n ih => intro l; rw [List.replicate_succ, List.cons_append, List.dropWhile_cons]; simp [ih]
  rw [h]
  rcases Nat.eq_zero_or_pos p with hp | hp
  · subst hp; rw [dec_zero]; rfl
  · have hl := digs_last (B := 10) (by omega) hp
    have hne : digs 10 p ≠ [] := fun e => by have := (digs_nil (B := 10) (by omega)).1 e; omega
    obtain ⟨l, x, hx⟩ : ∃ l x, digs 10 p = l ++ [x] := ⟨_, _, (List.dropLast_concat_getLast hne).symm⟩
    have hx0 : x ≠ 0 := by
      rw [hx, last_append (by simp)] at hl
      simpa using hl
    have hx10 : x < 10 := lim_digs (B := 10) (by omega) p x (by rw [hx]; simp)
    have hd : dec p = chr x :: l.reverse.map chr := by simp [dec, hx]
    rw [hd, List.dropWhile_cons]
    have : (chr x == 48) = false := by
      rw [beq_eq_false_iff_ne]; exact fun h => hx0 ((chr_48 hx10).1 h)
    rw [this]; rfl

/-! ### a number, nine digits at a time -/
theorem digs_drop_pos {B n k : Nat} (hB : 2 ≤ B) (hk : k < (digs B n).length) : 0 < val B ((digs B n).drop k) := by
  have hn : 0 < n := by
    rcases Nat.eq_zero_or_pos n with h | h
    · subst h; rw [digs_zero] at hk; simp at hk
    · exact h
  have hl := digs_last hB hn
  have h1 : Lim B ((digs B n).drop k) := (lim_digs hB n).drop k
  have h2 : ((digs B n).drop k).getD (((digs B n).drop k).length - 1) 0 ≠ 0 := by
    rw [List.length_drop, List.getD_eq_getElem?_getD, List.getElem?_drop, ← List.getD_eq_getElem?_getD]
    have : k + ((digs B n).length - k - 1) = (digs B n).length - 1 := by omega
    rw [this]; exact hl
  have h3 := digs_of hB h1 (.inr h2)
  rcases Nat.eq_zero_or_pos (val B ((digs B n).drop k)) with h | h
  · rw [h, digs_zero] at h3
    have := congrArg List.length h3
    simp at this; omega
  · exact h
/-- The text of a number (at least "0"). -/
def decT (n : Nat) : List UInt8 := if n = 0 then [48] else dec n
theorem dec_pos {n : Nat} (h : 0 < n) : dec n ≠ [] := by
  intro e
  have : (digs 10 n) = [] := by simpa [dec] using e
  have := (digs_nil (B := 10) (by omega)).1 this
  omega
/-- A piece more. -/
theorem piece_step {n k p : Nat} (hk : k < (digs 1000000000 n).length) (hp : p = (digs 1000000000 n).getD k 0) :
    p < 1000000000 ∧ dec (val 1000000000 ((digs 1000000000 n).drop k)) = dec (val 1000000000 ((digs 1000000000 n).drop (k + 1))) ++ (if k + 1 = (digs 1000000000 n).length then dec p else wide 9 p) := by
  have hlt : p < 1000000000 := hp ▸ (lim_digs (B := 1000000000) (by omega) n).getD (by omega) k
  refine ⟨hlt, ?_⟩
  rw [val_drop 1000000000 hk, ← hp]
  by_cases h : k + 1 = (digs 1000000000 n).length
  · rw [if_pos h, List.drop_of_length_le (by omega)]
    simp [val, dec_zero]
  · rw [if_neg h]
    have := digs_drop_pos (B := 1000000000) (n := n) (k := k + 1) (by omega) (by omega)
    exact dec_app (k := 9) hlt this
end Go.Proofs.YtipbcjnniamcgaaDoor.Ma

/- Slices held equal; strings without noughts ahead; the builder of strings. -/
namespace Go.Proofs.YtipbcjnniamcgaaDoor.Fw
set_option linter.unusedSimpArgs false
set_option linter.unusedVariables false
open Go Go.Proofs.YtipbcjnniamcgaaDoor.Ma
set_option maxRecDepth 20000

theorem equal_fn {a b : List Nat} (ta tb : Bool) (ha : a.length < 9223372036854775808) (hb : b.length < 9223372036854775808) : PFn Tryd.prog 37 [LS a ta, LS b tb] (.bool (decide (a = b))) := by
  intro H Q hq
  refine enter37 (by simp) ?_
  by_cases c1 : a.length = b.length
  · simp (disch := first | assumption | (apply Ap.symm; assumption) | omega | decide | (simp only [U_len, List.length_append, List.length_replicate, List.length_cons, List.length_nil, List.length_set] <;> omega) | fail) only [ac37, c1, ↓Xa, Xb, Xc, ↓reduceIte, Nat.reduceLT, Nat.reduceEqDiff, Nat.reduceBEq, Nat.reduceLeDiff, Nat.reduceAdd, Nat.reduceMul]
    refine W_loop (fun i : Nat => ⟨[], [(0, LS a ta), (1, LS b tb), (12, .int .i64 (b.length : Nat)), (13, .int .i64 i)], _⟩) (fun i => i ≤ b.length ∧ a.take i = b.take i) (fun i => b.length - i) 0 (Settle.now rfl) ⟨by simp, by simp⟩ ?_
    rintro i ⟨h1, h2⟩
    by_cases hi : i < b.length
    · by_cases hv : a.getD i 0 = b.getD i 0
      · simp (disch := first | assumption | (apply Ap.symm; assumption) | omega | decide | (simp only [U_len, List.length_append, List.length_replicate, List.length_cons, List.length_nil, List.length_set] <;> omega) | fail) only [hi, hv, c1, ↓Xa, Xb, Xc, ↓reduceIte, Nat.reduceLT, Nat.reduceEqDiff, Nat.reduceBEq, Nat.reduceLeDiff, Nat.reduceAdd, Nat.reduceMul]
        refine Settle.now ⟨i + 1, by omega, ⟨by omega, ?_⟩, rfl⟩
        rw [take_succ_getD _ _ (by omega), take_succ_getD _ _ hi, h2, hv]
      · simp (disch := first | assumption | (apply Ap.symm; assumption) | omega | decide | (simp only [U_len, List.length_append, List.length_replicate, List.length_cons, List.length_nil, List.length_set] <;> omega) | fail) only [hi, hv, c1, rs37, ↓Xa, Xb, Xc, ↓reduceIte, Nat.reduceLT, Nat.reduceEqDiff, Nat.reduceBEq, Nat.reduceLeDiff, Nat.reduceAdd, Nat.reduceMul]
        rw [decide_eq_false (fun e => hv (by rw [e]))] at hq
        exact SetR.now hq
    · simp (disch := first | assumption | (apply Ap.symm; assumption) | omega | decide | (simp only [U_len, List.length_append, List.length_replicate, List.length_cons, List.length_nil, List.length_set] <;> omega) | fail) only [hi, c1, ↓Xa, Xb, Xc, ↓reduceIte, Nat.reduceLT, Nat.reduceEqDiff, Nat.reduceBEq, Nat.reduceLeDiff, Nat.reduceAdd, Nat.reduceMul]
      refine Settle.now ?_
      simp (disch := first | assumption | (apply Ap.symm; assumption) | omega | decide | (simp only [U_len, List.length_append, List.length_replicate, List.length_cons, List.length_nil, List.length_set] <;> omega) | fail) only [rs37, ↓Xa, Xb, Xc, ↓reduceIte, Nat.reduceLT, Nat.reduceEqDiff, Nat.reduceBEq, Nat.reduceLeDiff, Nat.reduceAdd, Nat.reduceMul]
      rw [List.take_of_length_le (by omega), List.take_of_length_le (by omega)] at h2
      rw [decide_eq_true h2] at hq
      exact SetR.now hq
  · simp (disch := first | assumption | (apply Ap.symm; assumption) | omega | decide | (simp only [U_len, List.length_append, List.length_replicate, List.length_cons, List.length_nil, List.length_set] <;> omega) | fail) only [ac37, c1, rs37, ↓Xa, Xb, Xc, ↓reduceIte, Nat.reduceLT, Nat.reduceEqDiff, Nat.reduceBEq, Nat.reduceLeDiff, Nat.reduceAdd, Nat.reduceMul]
    rw [decide_eq_false (fun e => c1 (by rw [e]))] at hq
    exact SetR.now hq
end Go.Proofs.YtipbcjnniamcgaaDoor.Fw

/- Strings: as lists of bytes; without noughts ahead; the builder of strings. -/
namespace Go.Proofs.YtipbcjnniamcgaaDoor.Fw
set_option linter.unusedSimpArgs false
set_option linter.unusedVariables false
open Go Go.Proofs.YtipbcjnniamcgaaDoor.Ma
set_option maxRecDepth 20000

/-- A string. -/
def Sx (l : List UInt8) : AV := .str ⟨l.toArray⟩
theorem str_Sx {l : List UInt8} : AV.str ⟨l.toArray⟩ = Sx l := id rfl
theorem size_Sx {l : List UInt8} : (⟨l.toArray⟩ : ByteArray).size = l.length := by simp [ByteArray.size]
section
variable {K : AV → Prop} {K2 : AV → AHeap → Prop} {KD : AV → List Nat → Option (Nat × ABlk) → Prop} {l m : List UInt8} {k k' : IntKind} {H : AHeap}
theorem len_Sx : lenW true (Sx l) K = K (.int .i64 ((l.length : Nat) : Int)) := by simp only [Sx, lenW, size_Sx]
theorem idx_Sx {i : Nat} (h : i < l.length) : idxSW (Sx l) (.int k (i : Int)) K = K (.int .u8 (((l.getD i 0).toNat : Nat) : Int)) := by
  simp [Sx, idxSW, byteAt, size_Sx, h]
theorem extract_Sx {a b : Nat} : (⟨l.toArray⟩ : ByteArray).extract a b = ⟨((l.drop a).take (b - a)).toArray⟩ := by
  apply ByteArray.ext
  rw [ByteArray.data_extract]
  simp [List.extract_toArray]
theorem slc_SxL {a : Nat} (hb : a ≤ l.length) : slcSW (Sx l) (some (.int k (a : Int))) none K = K (Sx (l.drop a)) := by
  have h1 : (0 : Int) ≤ (a : Int) ∧ (a : Int) ≤ ((l.length : Nat) : Int) := by omega
  have e : (l.drop a).take (l.length - a) = l.drop a := List.take_of_length_le (by simp)
  simp [Sx, slcSW, optI, size_Sx, h1, extract_Sx, e]
theorem beq_dec {a b : List UInt8} : (a == b) = decide (a = b) := by by_cases h : a = b <;> simp [h]
theorem eql_Sx : binW .eql (Sx l) (Sx m) K = K (.bool (decide (l = m))) := by
  simp only [Sx, binW, binStr, ByteArray.toList_eq, List.toList_toArray, beq_dec]
/-- A string laid behind bytes. -/
theorem app_S0 {ty : Nat} (h0 : 0 < l.length) (hb : l.length ≤ 70368744177664) (kk : ∀ b, H b = none → K2 (.own b l.length 0 l.length false) (H.upd b (some (.row ty 1 (Bt l))))) : appV H ty 1 1 (.seq 0 [] true) (Sx l) K2 := .inl <| by
  have hal : (Bt l).all AV.cell = true := by
    rw [List.all_eq_true]; intro x hx
    obtain ⟨b, _, rfl⟩ := List.mem_map.1 hx; rfl
  refine ⟨rfl, ?_⟩
  show (bytesA ⟨l.toArray⟩).all AV.cell = true ∧ _
  rw [bytesA_eq, size_Sx]
  refine ⟨hal, rfl, rfl, by omega, by omega, fun e => by omega, fun _ b hb' => ?_⟩
  simpa using kk b hb'
theorem app_S1 {ty b : Nat} {t : Bool} {o : List UInt8} (hH : H b = some (.row ty 1 (Bt o))) (hb : o.length + l.length ≤ 70368744177664) (kk : K2 (.own b (o ++ l).length 0 (o ++ l).length false) (H.upd b (some (.row ty 1 (Bt (o ++ l)))))) : appV H ty 1 1 (.own b o.length 0 o.length t) (Sx l) K2 := .inl <| by
  have hal : (Bt l).all AV.cell = true := by
    rw [List.all_eq_true]; intro x hx
    obtain ⟨b, _, rfl⟩ := List.mem_map.1 hx; rfl
  refine ⟨rfl, ?_⟩
  show (bytesA ⟨l.toArray⟩).all AV.cell = true ∧ _
  rw [bytesA_eq, size_Sx]
  refine ⟨hal, ?_⟩
  dsimp only
  rw [hH]
  refine ⟨Bt_len, rfl, by omega, rfl, rfl, by omega, by omega, ?_⟩
  have e : Bt o ++ Bt l = Bt (o ++ l) := by simp [Bt]
  rw [List.length_append] at kk
  rw [Nat.mul_one, e]
  exact kk
end
theorem trimB_fn {l : List UInt8} {c : UInt8} (hl : l.length < 9223372036854775808) : PFn Tryd.prog 119 [Sx l, .int .u8 ((c.toNat : Nat) : Int)] (Sx (l.dropWhile (· == c))) := by
  intro H Q hq
  refine enter119 (by simp) ?_
  simp (disch := first | assumption | (apply Ap.symm; assumption) | omega | decide | (simp only [U_len, List.length_append, List.length_replicate, List.length_cons, List.length_nil, List.length_set] <;> omega) | fail) only [ac119, ↓Xa, Xb, Xc, ↓reduceIte, Nat.reduceLT, Nat.reduceEqDiff, Nat.reduceBEq, Nat.reduceLeDiff, Nat.reduceAdd, Nat.reduceMul]
  refine W_loop (fun m : List UInt8 => ⟨[], [(0, Sx m), (1, .int .u8 ((c.toNat : Nat) : Int))], _⟩) (fun m => m.length ≤ l.length ∧ m.dropWhile (· == c) = l.dropWhile (· == c)) (fun m => m.length) l (Settle.now rfl) ⟨Nat.le_refl _, rfl⟩ ?_
  rintro m ⟨hm, h1⟩
  cases m with
  | nil =>
    simp (disch := first | assumption | (apply Ap.symm; assumption) | omega | decide | (simp only [U_len, List.length_append, List.length_replicate, List.length_cons, List.length_nil, List.length_set] <;> omega) | fail) only [len_Sx, List.length_nil, ↓Xa, Xb, Xc, ↓reduceIte, Nat.reduceLT, Nat.reduceEqDiff, Nat.reduceBEq, Nat.reduceLeDiff, Nat.reduceAdd, Nat.reduceMul]
    refine Settle.now ?_
    simp (disch := first | assumption | (apply Ap.symm; assumption) | omega | decide | (simp only [U_len, List.length_append, List.length_replicate, List.length_cons, List.length_nil, List.length_set] <;> omega) | fail) only [rs119, ↓Xa, Xb, Xc, ↓reduceIte, Nat.reduceLT, Nat.reduceEqDiff, Nat.reduceBEq, Nat.reduceLeDiff, Nat.reduceAdd, Nat.reduceMul]
    rw [← h1] at hq
    exact SetR.now hq
  | cons x m =>
    have hpos : 0 < m.length + 1 := Nat.succ_pos _
    have e : (x :: m).getD 0 0 = x := rfl
    have hm' : m.length + 1 ≤ l.length := hm
    rw [List.dropWhile_cons] at h1
    by_cases hx : x = c
    · have hb : (x == c) = true := by simp [hx]
      have hx' : x.toNat = c.toNat := by rw [hx]
      rw [if_pos hb] at h1
      simp (disch := first | assumption | (apply Ap.symm; assumption) | omega | decide | (simp only [U_len, List.length_append, List.length_replicate, List.length_cons, List.length_nil, List.length_set] <;> omega) | fail) only [len_Sx, hpos, idx_Sx, e, hx', slc_SxL, List.drop_succ_cons, List.drop_zero, ↓Xa, Xb, Xc, ↓reduceIte, Nat.reduceLT, Nat.reduceEqDiff, Nat.reduceBEq, Nat.reduceLeDiff, Nat.reduceAdd, Nat.reduceMul]
      exact Settle.now ⟨m, by simp, ⟨by omega, h1⟩, rfl⟩
    · have hb : ¬ (x == c) = true := by simp [hx]
      have hx' : ¬ x.toNat = c.toNat := fun h => hx (UInt8.toNat_inj.1 h)
      rw [if_neg hb] at h1
      simp (disch := first | assumption | (apply Ap.symm; assumption) | omega | decide | (simp only [U_len, List.length_append, List.length_replicate, List.length_cons, List.length_nil, List.length_set] <;> omega) | fail) only [len_Sx, hpos, idx_Sx, e, hx', ↓Xa, Xb, Xc, ↓reduceIte, Nat.reduceLT, Nat.reduceEqDiff, Nat.reduceBEq, Nat.reduceLeDiff, Nat.reduceAdd, Nat.reduceMul]
      refine Settle.now ?_
      simp (disch := first | assumption | (apply Ap.symm; assumption) | omega | decide | (simp only [U_len, List.length_append, List.length_replicate, List.length_cons, List.length_nil, List.length_set] <;> omega) | fail) only [rs119, ↓Xa, Xb, Xc, ↓reduceIte, Nat.reduceLT, Nat.reduceEqDiff, Nat.reduceBEq, Nat.reduceLeDiff, Nat.reduceAdd, Nat.reduceMul]
      rw [← h1] at hq
      exact SetR.now hq
theorem trimL_fn {l : List UInt8} {c : UInt8} (hl : l.length < 9223372036854775808) (hc : c.toNat < 128) : PFn Tryd.prog 103 [Sx l, Sx [c]] (Sx (l.dropWhile (· == c))) := by
  intro H Q hq
  refine enter103 (by simp) ?_
  have e : ([c] : List UInt8).getD 0 0 = c := rfl
  have h1 : ([c] = ([] : List UInt8)) = False := by simp
  have h2 : 0 < ([c] : List UInt8).length := by simp
  cases l with
  | nil =>
    simp (disch := first | assumption | (apply Ap.symm; assumption) | omega | decide | (simp only [U_len, List.length_append, List.length_replicate, List.length_cons, List.length_nil, List.length_set] <;> omega) | fail) only [ac103, str_Sx, eql_Sx, rs103, ↓Xa, Xb, Xc, ↓reduceIte, Nat.reduceLT, Nat.reduceEqDiff, Nat.reduceBEq, Nat.reduceLeDiff, Nat.reduceAdd, Nat.reduceMul]
    exact SetR.now hq
  | cons x l =>
    have h3 : (x :: l = ([] : List UInt8)) = False := by simp
    simp (disch := first | assumption | (apply Ap.symm; assumption) | omega | decide | (simp only [U_len, List.length_append, List.length_replicate, List.length_cons, List.length_nil, List.length_set] <;> omega) | fail) only [ac103, str_Sx, eql_Sx, h1, h3, len_Sx, idx_Sx, h2, e, hc, ↓Xa, Xb, Xc, ↓reduceIte, Nat.reduceLT, Nat.reduceEqDiff, Nat.reduceBEq, Nat.reduceLeDiff, Nat.reduceAdd, Nat.reduceMul]
    refine (trimB_fn hl).call ?_
    simp (disch := first | assumption | (apply Ap.symm; assumption) | omega | decide | (simp only [U_len, List.length_append, List.length_replicate, List.length_cons, List.length_nil, List.length_set] <;> omega) | fail) only [rs103, ↓Xa, Xb, Xc, ↓reduceIte, Nat.reduceLT, Nat.reduceEqDiff, Nat.reduceBEq, Nat.reduceLeDiff, Nat.reduceAdd, Nat.reduceMul]
    exact SetR.now hq
end Go.Proofs.YtipbcjnniamcgaaDoor.Fw

/- The builder of strings. -/
namespace Go.Proofs.YtipbcjnniamcgaaDoor.Fw
set_option linter.unusedSimpArgs false
set_option linter.unusedVariables false
open Go Go.Proofs.YtipbcjnniamcgaaDoor.Ma
set_option maxRecDepth 20000

theorem check_new {H : AHeap} {p : Nat} {v : AV} {K : AV → AHeap → Prop} (hH : H p = some (.row 113 0 [.nilP, v])) (k : K (.tup []) (H.upd p (some (.row 113 0 [.ptr p 2 0, v])))) : Run Tryd.prog 123 [.ptr p 2 0] H K := by
  refine enter123 (by simp) ?_
  simp (disch := first | assumption | (apply Ap.symm; assumption) | omega | decide | (simp only [U_len, List.length_append, List.length_replicate, List.length_cons, List.length_nil, List.length_set] <;> omega) | fail) only [ac123, hH, rs123, ↓Xa, Xb, Xc, ↓reduceIte, Nat.reduceLT, Nat.reduceEqDiff, Nat.reduceBEq, Nat.reduceLeDiff, Nat.reduceAdd, Nat.reduceMul]
  exact SetR.now k
theorem check_used {H : AHeap} {p : Nat} {v : AV} {K : AV → AHeap → Prop} (hH : H p = some (.row 113 0 [.ptr p 2 0, v])) (k : K (.tup []) H) : Run Tryd.prog 123 [.ptr p 2 0] H K := by
  refine enter123 (by simp) ?_
  simp (disch := first | assumption | (apply Ap.symm; assumption) | omega | decide | (simp only [U_len, List.length_append, List.length_replicate, List.length_cons, List.length_nil, List.length_set] <;> omega) | fail) only [ac123, hH, rs123, ↓Xa, Xb, Xc, ↓reduceIte, Nat.reduceLT, Nat.reduceEqDiff, Nat.reduceBEq, Nat.reduceLeDiff, Nat.reduceAdd, Nat.reduceMul]
  exact SetR.now k
/-- A builder, at p, that holds bytes. -/
def bld (p : Nat) (l : List UInt8) (H0 H : AHeap) : Prop :=
  (l = [] ∧ (H = H0.upd p (some (.row 113 0 [.nilP, .seq 0 [] true])) ∨ H = H0.upd p (some (.row 113 0 [.ptr p 2 0, .seq 0 [] true])))) ∨
  (l ≠ [] ∧ ∃ bb, H0 bb = none ∧ Ap bb p ∧ H = (H0.upd p (some (.row 113 0 [.ptr p 2 0, .own bb l.length 0 l.length false]))).upd bb (some (.row 5 1 (Bt l))))
theorem bld_new {p : Nat} {H : AHeap} : bld p [] H (H.upd p (some (.row 113 0 [.nilP, .seq 0 [] true]))) := .inl ⟨rfl, .inl rfl⟩
theorem bld_upd {p q : Nat} {l : List UInt8} {H0 H : AHeap} {x : ABlk} (h : bld p l H0 H) (hq : H q = none) : Ap q p ∧ H0 q = none ∧ bld p l (H0.upd q (some x)) (H.upd q (some x)) := by
  rcases h with ⟨rfl, rfl | rfl⟩ | ⟨h0, bb, hbb, hap, rfl⟩
  · obtain ⟨a, b⟩ := upd_none.1 hq
    exact ⟨a, b, .inl ⟨rfl, .inl (upd_comm _ _ _ (Ap.symm a))⟩⟩
  · obtain ⟨a, b⟩ := upd_none.1 hq
    exact ⟨a, b, .inl ⟨rfl, .inr (upd_comm _ _ _ (Ap.symm a))⟩⟩
  · obtain ⟨a1, a2, b⟩ : Ap q bb ∧ Ap q p ∧ H0 q = none := by simpa only [upd_none] using hq
    refine ⟨a2, b, .inr ⟨h0, bb, ?_, hap, ?_⟩⟩
    · rw [upd_otherA (Ap.symm a1)]; exact hbb
    · rw [upd_comm _ _ _ (Ap.symm a1), upd_comm (b := p) (b' := q) _ _ _ (Ap.symm a2)]
theorem wstr_run {p : Nat} {l m : List UInt8} {H0 H : AHeap} {K : AV → AHeap → Prop} (hb : bld p l H0 H) (hl : l.length + m.length ≤ 70368744177664) (hm : 0 < m.length)
    (k : ∀ H', bld p (l ++ m) H0 H' → K (.tup [.int .i64 ((m.length : Nat) : Int), .nilI]) H') : Run Tryd.prog 104 [.ptr p 2 0, Sx m] H K := by
  refine enter104 (by simp) ?_
  simp (disch := first | assumption | (apply Ap.symm; assumption) | omega | decide | (simp only [U_len, List.length_append, List.length_replicate, List.length_cons, List.length_nil, List.length_set] <;> omega) | fail) only [ac104, ↓Xa, Xb, Xc, ↓reduceIte, Nat.reduceLT, Nat.reduceEqDiff, Nat.reduceBEq, Nat.reduceLeDiff, Nat.reduceAdd, Nat.reduceMul]
  have hne : ∀ {x : List UInt8}, x ++ m ≠ [] := fun {x} e => by have := congrArg List.length e; rw [List.length_append, List.length_nil] at this; omega
  have first : ∀ {M : AHeap}, M = H0.upd p (some (.row 113 0 [.ptr p 2 0, .seq 0 [] true])) → l = [] →
      W Tryd.prog (sndC (sndC ac104)) (retN rs104 K) ⟨[], [(0, .ptr p 2 0), (1, Sx m)], M⟩ := by
    rintro M rfl rfl
    simp (disch := first | assumption | (apply Ap.symm; assumption) | omega | decide | (simp only [U_len, List.length_append, List.length_replicate, List.length_cons, List.length_nil, List.length_set] <;> omega) | fail) only [sndC, ac104, ↓Xa, Xb, Xc, ↓reduceIte, Nat.reduceLT, Nat.reduceEqDiff, Nat.reduceBEq, Nat.reduceLeDiff, Nat.reduceAdd, Nat.reduceMul]
    refine app_S0 hm (by simp at hl; omega) fun b hb => ?_
    obtain ⟨a1, a2⟩ := upd_none.1 hb
    simp (disch := first | assumption | (apply Ap.symm; assumption) | omega | decide | (simp only [U_len, List.length_append, List.length_replicate, List.length_cons, List.length_nil, List.length_set] <;> omega) | fail) only [len_Sx, rs104, ↓Xa, Xb, Xc, ↓reduceIte, Nat.reduceLT, Nat.reduceEqDiff, Nat.reduceBEq, Nat.reduceLeDiff, Nat.reduceAdd, Nat.reduceMul]
    refine SetR.now (k _ (.inr ⟨by simpa using hne (x := []), b, a2, a1, ?_⟩))
    simp only [List.nil_append]
  rcases hb with ⟨rfl, rfl | rfl⟩ | ⟨h0, bb, hbb, hap, rfl⟩
  · refine run_call (check_new (upd_same _ _ _) ?_)
    have f := first rfl rfl
    simp (disch := first | assumption | (apply Ap.symm; assumption) | omega | decide | (simp only [U_len, List.length_append, List.length_replicate, List.length_cons, List.length_nil, List.length_set] <;> omega) | fail) only [sndC, ac104, ↓Xa, Xb, Xc, ↓reduceIte, Nat.reduceLT, Nat.reduceEqDiff, Nat.reduceBEq, Nat.reduceLeDiff, Nat.reduceAdd, Nat.reduceMul] at f
    simp (disch := first | assumption | (apply Ap.symm; assumption) | omega | decide | (simp only [U_len, List.length_append, List.length_replicate, List.length_cons, List.length_nil, List.length_set] <;> omega) | fail) only [↓Xa, Xb, Xc, ↓reduceIte, Nat.reduceLT, Nat.reduceEqDiff, Nat.reduceBEq, Nat.reduceLeDiff, Nat.reduceAdd, Nat.reduceMul]
    exact f
  · refine run_call (check_used (upd_same _ _ _) ?_)
    have f := first rfl rfl
    simp (disch := first | assumption | (apply Ap.symm; assumption) | omega | decide | (simp only [U_len, List.length_append, List.length_replicate, List.length_cons, List.length_nil, List.length_set] <;> omega) | fail) only [sndC, ac104, ↓Xa, Xb, Xc, ↓reduceIte, Nat.reduceLT, Nat.reduceEqDiff, Nat.reduceBEq, Nat.reduceLeDiff, Nat.reduceAdd, Nat.reduceMul] at f
    simp (disch := first | assumption | (apply Ap.symm; assumption) | omega | decide | (simp only [U_len, List.length_append, List.length_replicate, List.length_cons, List.length_nil, List.length_set] <;> omega) | fail) only [↓Xa, Xb, Xc, ↓reduceIte, Nat.reduceLT, Nat.reduceEqDiff, Nat.reduceBEq, Nat.reduceLeDiff, Nat.reduceAdd, Nat.reduceMul]
    exact f
  · refine run_call (check_used (v := .own bb l.length 0 l.length false) (by rw [upd_otherA (Ap.symm hap), upd_same]) ?_)
    simp (disch := first | assumption | (apply Ap.symm; assumption) | omega | decide | (simp only [U_len, List.length_append, List.length_replicate, List.length_cons, List.length_nil, List.length_set] <;> omega) | fail) only [↓Xa, Xb, Xc, ↓reduceIte, Nat.reduceLT, Nat.reduceEqDiff, Nat.reduceBEq, Nat.reduceLeDiff, Nat.reduceAdd, Nat.reduceMul]
    refine app_S1 (upd_same _ _ _) hl ?_
    simp (disch := first | assumption | (apply Ap.symm; assumption) | omega | decide | (simp only [U_len, List.length_append, List.length_replicate, List.length_cons, List.length_nil, List.length_set] <;> omega) | fail) only [len_Sx, rs104, ↓Xa, Xb, Xc, ↓reduceIte, Nat.reduceLT, Nat.reduceEqDiff, Nat.reduceBEq, Nat.reduceLeDiff, Nat.reduceAdd, Nat.reduceMul]
    refine SetR.now (k _ (.inr ⟨hne, bb, hbb, hap, ?_⟩))
    simp only [List.length_append]
theorem bstr_run {p : Nat} {l : List UInt8} {H0 H : AHeap} {K : AV → AHeap → Prop} (hb : bld p l H0 H) (hp : H0 p = none) (hl : l.length ≤ 70368744177664) (h0 : 0 < l.length) (k : ∀ H', Le H0 H' → K (Sx l) H') : Run Tryd.prog 105 [.ptr p 2 0] H K := by
  refine enter105 (by simp) ?_
  rcases hb with ⟨rfl, _⟩ | ⟨h1, bb, hbb, hap, rfl⟩
  · simp at h0
  · have hbl : (Bt l).length = l.length := Bt_len
    simp (disch := first | assumption | (apply Ap.symm; assumption) | omega | decide | (simp only [U_len, List.length_append, List.length_replicate, List.length_cons, List.length_nil, List.length_set] <;> omega) | fail) only [ac105, h0, rs105, ↓Xa, Xb, Xc, ↓reduceIte, Nat.reduceLT, Nat.reduceEqDiff, Nat.reduceBEq, Nat.reduceLeDiff, Nat.reduceAdd, Nat.reduceMul]
    exact SetR.now (k _ (((Le.refl H0).updB hp).updB hbb))
end Go.Proofs.YtipbcjnniamcgaaDoor.Fw

/- A number's decimal text, as package limb writes it. -/
namespace Go.Proofs.YtipbcjnniamcgaaDoor.Fw
set_option linter.unusedSimpArgs false
set_option linter.unusedVariables false
open Go Go.Proofs.YtipbcjnniamcgaaDoor.Ma
set_option maxRecDepth 20000

theorem bld_drop {p q : Nat} {l : List UInt8} {H0 H : AHeap} {x : ABlk} (h : bld p l (H0.upd q (some x)) H) (hqp : Ap q p) (hq : H0 q = none) : ∃ H', bld p l H0 H' ∧ Le H' H := by
  have up : ∀ {M : AHeap} {r : Option ABlk}, M = (H0.upd q (some x)).upd p r → Le (H0.upd p r) M := fun {M r} e => by
    rw [e, upd_comm _ _ _ hqp]
    exact (Le.refl _).updB (by rw [upd_otherA hqp]; exact hq)
  rcases h with ⟨rfl, rfl | rfl⟩ | ⟨h0, bb, hbb, hap, rfl⟩
  · exact ⟨_, .inl ⟨rfl, .inl rfl⟩, up rfl⟩
  · exact ⟨_, .inl ⟨rfl, .inr rfl⟩, up rfl⟩
  · obtain ⟨a1, a2⟩ := upd_none.1 hbb
    refine ⟨_, .inr ⟨h0, bb, a2, hap, rfl⟩, ?_⟩
    rw [upd_comm _ _ _ hqp, upd_comm (b := q) (b' := bb) _ _ _ (Ap.symm a1)]
    exact (Le.refl _).updB (by rw [upd_otherA (Ap.symm a1), upd_otherA hqp]; exact hq)
theorem stP_Bt {H : AHeap} {K2 : AV → AHeap → Prop} {b L off ty es c : Nat} {l : List UInt8} (hL : l.length = L) (h : off < L) (hc : c < 256) : stP H 1 b L off K2 (some [.int .u8 (c : Int)]) (some (.row ty es (Bt l))) = K2 .bot (H.upd b (some (.row ty es (Bt (l.set off (UInt8.ofNat c)))))) := by
  subst hL
  have h1 : off + 1 ≤ l.length := h
  have e : splice (Bt l) off [.int .u8 (c : Int)] = Bt (l.set off (UInt8.ofNat c)) := by
    have e2 : (AV.int .u8 (c : Int)) = .int .u8 (((UInt8.ofNat c).toNat : Nat) : Int) := by
      rw [UInt8.toNat_ofNat', Nat.mod_eq_of_lt hc]
    rw [e2]
    unfold splice Bt
    rw [List.map_set, List.set_eq_take_append_cons_drop]
    simp [h]
  simp [stP, Bt_len, h1, e]
def TxI (p j : Nat) (cells : List UInt8) (x : Nat) : Prop := j ≤ 9 ∧ cells = List.replicate j 0 ++ wide (9 - j) (p % 10 ^ (9 - j)) ∧ x = p / 10 ^ (9 - j)
theorem TxI.len {p j x : Nat} {cells : List UInt8} (h : TxI p j cells x) : cells.length = 9 := by
  obtain ⟨h1, rfl, _⟩ := h
  rw [List.length_append, List.length_replicate, wide_len (Nat.mod_lt _ (Nat.pow_pos (by omega)))]; omega
theorem TxI.step {p j x : Nat} {cells : List UInt8} (h : TxI p (j + 1) cells x) : TxI p j (cells.set j (UInt8.ofNat (48 + x % 10))) (x / 10) := by
  obtain ⟨h1, rfl, rfl⟩ := h
  have e9 : 9 - j = (9 - (j + 1)) + 1 := by omega
  refine ⟨by omega, ?_, ?_⟩
  · rw [e9, wide_step]
    rw [List.replicate_succ', List.append_assoc, List.set_append_right _ _ (by simp)]
    simp [chr]
  · rw [e9, Nat.pow_succ, Nat.div_div_eq_div_mul]

theorem text_fn {l : List Nat} (t : Bool) (hl : Lim 4294967296 l) (hn : l.length ≤ 1099511627776) : PFn Tryd.prog 70 [LS l t] (Sx (decT (val 4294967296 l))) := by
  intro H Q hq
  have hP : (2 : Nat) ≤ 1000000000 := by omega
  refine enter70 (by simp) ?_
  simp (disch := first | assumption | (apply Ap.symm; assumption) | omega | decide | (simp only [U_len, List.length_append, List.length_replicate, List.length_cons, List.length_nil, List.length_set] <;> omega) | fail) only [ac70, str_Sx, ↓Xa, Xb, Xc, ↓reduceIte, Nat.reduceLT, Nat.reduceEqDiff, Nat.reduceBEq, Nat.reduceLeDiff, Nat.reduceAdd, Nat.reduceMul]
  refine (norm_fn t (by omega)).call ?_
  rw [tr_digs (by omega) hl]
  have hN : val 4294967296 l < 4294967296 ^ l.length := val_lt hl
  have hp2 : (digs 1000000000 (val 4294967296 l)).length ≤ 2 * l.length := digs_len hP _ _ (Nat.lt_of_lt_of_le hN (by rw [Nat.pow_mul]; exact Nat.pow_le_pow_left (by omega) _))
  have hdl : (dec (val 4294967296 l)).length ≤ 10 * l.length := dec_len (Nat.lt_of_lt_of_le hN (by rw [Nat.pow_mul]; exact Nat.pow_le_pow_left (by omega) _))
  generalize hNe : val 4294967296 l = N at *
  simp (disch := first | assumption | (apply Ap.symm; assumption) | omega | decide | (simp only [U_len, List.length_append, List.length_replicate, List.length_cons, List.length_nil, List.length_set] <;> omega) | fail) only [↓Xa, Xb, Xc, ↓reduceIte, Nat.reduceLT, Nat.reduceEqDiff, Nat.reduceBEq, Nat.reduceLeDiff, Nat.reduceAdd, Nat.reduceMul]
  refine W_loop (fun s : List Nat × AV × AHeap × Nat => ⟨[], [(3, s.2.1), (4, LS (digs 4294967296 s.2.2.2) true)], s.2.2.1⟩) (fun s => grow H 45 s.1 s.2.1 s.2.2.1 ∧ digs 1000000000 N = s.1 ++ digs 1000000000 s.2.2.2 ∧ s.2.2.2 ≤ N) (fun s => s.2.2.2)
    ([], .seq 0 [] true, H, N) (Settle.now rfl) ⟨grow_nil, rfl, Nat.le_refl _⟩ ?_
  rintro ⟨done, x, G, n⟩ ⟨hg, he, hle⟩
  dsimp only at hg he hle ⊢
  have hdn : (digs 4294967296 n).length ≤ l.length := digs_len (by omega) _ _ (Nat.lt_of_le_of_lt hle (hNe ▸ hN))
  have hz := digs_len0 (B := 4294967296) (n := n) (by omega)
  by_cases hn0 : n = 0
  · have h1 : (digs 4294967296 n).length = 0 := by rw [hz]; exact hn0
    simp (disch := first | assumption | (apply Ap.symm; assumption) | omega | decide | (simp only [U_len, List.length_append, List.length_replicate, List.length_cons, List.length_nil, List.length_set] <;> omega) | fail) only [h1, ↓Xa, Xb, Xc, ↓reduceIte, Nat.reduceLT, Nat.reduceEqDiff, Nat.reduceBEq, Nat.reduceLeDiff, Nat.reduceAdd, Nat.reduceMul]
    refine Settle.grown 3 rfl hg (Settle.now ?_)
    rw [hn0, digs_zero, List.append_nil] at he
    subst he
    have hlim := lim_digs hP N
    have hdig := fun k p => piece_step (n := N) (k := k) (p := p)
    have hv : val 1000000000 (digs 1000000000 N) = N := val_digs hP N
    have hlast := digs_last (B := 1000000000) (n := N) hP
    have hnil := digs_len0 (B := 1000000000) (n := N) hP
    generalize digs 1000000000 N = ps at *
    by_cases hp0 : ps.length = 0
    · rw [hnil] at hp0
      have hL : ps.length = 0 := by rw [hnil]; exact hp0
      simp (disch := first | assumption | (apply Ap.symm; assumption) | omega | decide | (simp only [U_len, List.length_append, List.length_replicate, List.length_cons, List.length_nil, List.length_set] <;> omega) | fail) only [hL, str_Sx, rs70, ↓Xa, Xb, Xc, ↓reduceIte, Nat.reduceLT, Nat.reduceEqDiff, Nat.reduceBEq, Nat.reduceLeDiff, Nat.reduceAdd, Nat.reduceMul]
      have e : decT N = [48] := by rw [hp0]; rfl
      rw [e] at hq
      exact SetR.now hq
    · have hN0 : 0 < N := by rcases Nat.eq_zero_or_pos N with h | h
                             · exact absurd (hnil ▸ h) hp0
                             · exact h
      have eT : decT N = dec N := by unfold decT; rw [if_neg (by omega)]
      rw [eT] at hq
      obtain ⟨L, hL⟩ : ∃ L, ps.length = L + 1 := ⟨ps.length - 1, by omega⟩
      have hLp : (0 < L + 1) = True := by simp
      have hL0 : (L + 1 = 0) = False := by simp
      simp (disch := first | assumption | (apply Ap.symm; assumption) | omega | decide | (simp only [U_len, List.length_append, List.length_replicate, List.length_cons, List.length_nil, List.length_set] <;> omega) | fail) only [hL, hL0, ↓Xa, Xb, Xc, ↓reduceIte, Nat.reduceLT, Nat.reduceEqDiff, Nat.reduceBEq, Nat.reduceLeDiff, Nat.reduceAdd, Nat.reduceMul]
      refine alloc_i fun p hp => ?_
      simp (disch := first | assumption | (apply Ap.symm; assumption) | omega | decide | (simp only [U_len, List.length_append, List.length_replicate, List.length_cons, List.length_nil, List.length_set] <;> omega) | fail) only [hL, dn_succ, ↓Xa, Xb, Xc, ↓reduceIte, Nat.reduceLT, Nat.reduceEqDiff, Nat.reduceBEq, Nat.reduceLeDiff, Nat.reduceAdd, Nat.reduceMul]
      refine W_atH fun M0 hM0 => ?_
      refine W_loop (fun s : Nat × AHeap => ⟨[], [(3, LS ps false), (8, .ptr p 2 0), (9, .int .i64 (dn s.1))], s.2⟩) (fun s => s.1 ≤ ps.length ∧ bld p (dec (val 1000000000 (ps.drop s.1))) H s.2) (fun s => s.1) (L + 1, M0) (Settle.now rfl) ⟨by dsimp only; omega, ?_⟩ ?_
      · dsimp only
        rw [List.drop_of_length_le (by omega), show val 1000000000 [] = 0 from rfl, dec_zero, hM0]
        exact bld_new
      rintro ⟨k, M⟩ ⟨hk, hb⟩
      dsimp only at hk hb ⊢
      cases k with
      | zero =>
        simp (disch := first | assumption | (apply Ap.symm; assumption) | omega | decide | (simp only [U_len, List.length_append, List.length_replicate, List.length_cons, List.length_nil, List.length_set] <;> omega) | fail) only [dn_zero, ↓Xa, Xb, Xc, ↓reduceIte, Nat.reduceLT, Nat.reduceEqDiff, Nat.reduceBEq, Nat.reduceLeDiff, Nat.reduceAdd, Nat.reduceMul]
        refine Settle.now ?_
        rw [List.drop_zero, hv] at hb
        simp (disch := first | assumption | (apply Ap.symm; assumption) | omega | decide | (simp only [U_len, List.length_append, List.length_replicate, List.length_cons, List.length_nil, List.length_set] <;> omega) | fail) only [↓Xa, Xb, Xc, ↓reduceIte, Nat.reduceLT, Nat.reduceEqDiff, Nat.reduceBEq, Nat.reduceLeDiff, Nat.reduceAdd, Nat.reduceMul]
        have hd0 : 0 < (dec N).length := List.length_pos_iff.2 (dec_pos hN0)
        refine run_call (bstr_run hb hp (by omega) hd0 fun H' hH' => ?_)
        simp (disch := first | assumption | (apply Ap.symm; assumption) | omega | decide | (simp only [U_len, List.length_append, List.length_replicate, List.length_cons, List.length_nil, List.length_set] <;> omega) | fail) only [rs70, ↓Xa, Xb, Xc, ↓reduceIte, Nat.reduceLT, Nat.reduceEqDiff, Nat.reduceBEq, Nat.reduceLeDiff, Nat.reduceAdd, Nat.reduceMul]
        exact SetR.dropTo hH' (SetR.now hq)
      | succ k =>
        obtain ⟨hlt, hstep⟩ := hdig k _ (by omega) rfl
        have hlt2 : ps.getD k 0 < 1000000000 := hlt
        simp (disch := first | assumption | (apply Ap.symm; assumption) | omega | decide | (simp only [U_len, List.length_append, List.length_replicate, List.length_cons, List.length_nil, List.length_set] <;> omega) | fail) only [dn_succ, hL, ↓Xa, Xb, Xc, ↓reduceIte, Nat.reduceLT, Nat.reduceEqDiff, Nat.reduceBEq, Nat.reduceLeDiff, Nat.reduceAdd, Nat.reduceMul]
        refine alloc_i fun q hq' => ?_
        generalize hpk : ps.getD k 0 = pk at *
        simp (disch := first | assumption | (apply Ap.symm; assumption) | omega | decide | (simp only [U_len, List.length_append, List.length_replicate, List.length_cons, List.length_nil, List.length_set] <;> omega) | fail) only [hpk, dn_succ, hL, ↓Xa, Xb, Xc, ↓reduceIte, Nat.reduceLT, Nat.reduceEqDiff, Nat.reduceBEq, Nat.reduceLeDiff, Nat.reduceAdd, Nat.reduceMul]
        refine W_loop (fun s : Nat × List UInt8 × Nat => ⟨[], [(3, LS ps false), (8, .ptr p 2 0), (9, .int .i64 (k : Nat)), (10, .ptr q 9 0), (11, .int .u32 (s.2.2 : Nat)), (12, .int .i64 (dn s.1))], M.upd q (some (.row 114 1 (Bt s.2.1)))⟩)
          (fun s => TxI pk s.1 s.2.1 s.2.2) (fun s => s.1) (9, List.replicate 9 0, pk) (Settle.now rfl) ⟨Nat.le_refl _, by simp [wide, pad, digs_zero, Nat.mod_one], by simp⟩ ?_
        rintro ⟨j, cells, x⟩ hx
        dsimp only at hx ⊢
        have hcl := hx.len
        have hx32 : x < 4294967296 := by
          have := hx.2.2
          have := Nat.div_le_self pk (10 ^ (9 - j))
          omega
        cases j with
        | zero =>
          have ecells : cells = wide 9 pk := by
            rw [hx.2.1]; simp [Nat.mod_eq_of_lt hlt2]
          have htk : (Bt cells).take 9 = Bt cells := List.take_of_length_le (by rw [Bt_len]; omega)
          have hbl : (Bt cells).length = 9 := by rw [Bt_len]; exact hcl
          simp (disch := first | assumption | (apply Ap.symm; assumption) | omega | decide | (simp only [U_len, List.length_append, List.length_replicate, List.length_cons, List.length_nil, List.length_set] <;> omega) | fail) only [dn_zero, ↓Xa, Xb, Xc, ↓reduceIte, Nat.reduceLT, Nat.reduceEqDiff, Nat.reduceBEq, Nat.reduceLeDiff, Nat.reduceAdd, Nat.reduceMul]
          refine Settle.now ?_
          simp (disch := first | assumption | (apply Ap.symm; assumption) | omega | decide | (simp only [U_len, List.length_append, List.length_replicate, List.length_cons, List.length_nil, List.length_set] <;> omega) | fail) only [htk, str_Sx, hL, dn_succ, ↓Xa, Xb, Xc, ↓reduceIte, Nat.reduceLT, Nat.reduceEqDiff, Nat.reduceBEq, Nat.reduceLeDiff, Nat.reduceAdd, Nat.reduceMul]
          refine ⟨by decide, ?_⟩
          obtain ⟨a1, a2, w0⟩ := bld_upd (x := .row 114 1 (Bt cells)) hb hq'
          have fin : ∀ (m : List UInt8) (M' : AHeap), bld p (dec (val 1000000000 (ps.drop (k + 1))) ++ m) (H.upd q (some (.row 114 1 (Bt cells)))) M' → dec (val 1000000000 (ps.drop k)) = dec (val 1000000000 (ps.drop (k + 1))) ++ m →
              Settle (fun s' => ∃ x' : Nat × AHeap, x'.1 < k + 1 ∧ (x'.1 ≤ L + 1 ∧ bld p (dec (val 1000000000 (ps.drop x'.1))) H x'.2) ∧ s' = ⟨[], [(3, LS ps false), (8, .ptr p 2 0), (9, .int .i64 (dn x'.1))], x'.2⟩) ⟨[], [(3, LS ps false), (8, .ptr p 2 0), (9, .int .i64 (dn k))], M'⟩ := fun m M' hb' e => by
            obtain ⟨M'', h1, h2⟩ := bld_drop hb' a1 a2
            exact Settle.dropTo h2 (Settle.now ⟨(k, M''), Nat.lt_succ_self k, ⟨by dsimp only; omega, by dsimp only; rw [e]; exact h1⟩, rfl⟩)
          have hbd : (dec (val 1000000000 (ps.drop (k + 1)))).length ≤ 9 * ps.length := by
            refine dec_len (Nat.lt_of_lt_of_le (val_lt (hlim.drop (k + 1))) ?_)
            rw [show (1000000000 : Nat) = 10 ^ 9 from rfl, ← Nat.pow_mul]
            exact Nat.pow_le_pow_right (by omega) (Nat.mul_le_mul_left _ (by simp))
          by_cases hkL : k = L
          · rw [if_pos (by omega)] at hstep
            have hpk0 : pk ≠ 0 := by
              have := hlast hN0
              rwa [hL, Nat.add_sub_cancel, ← hkL, hpk] at this
            have hm0 : 0 < (dec pk).length := List.length_pos_iff.2 (dec_pos (by omega))
            have hm9 : (dec pk).length ≤ 9 := dec_len (k := 9) hlt2
            have hd1 : decide (k = L + 1 - 1) = true := by simp [hkL]
            simp (disch := first | assumption | (apply Ap.symm; assumption) | omega | decide | (simp only [U_len, List.length_append, List.length_replicate, List.length_cons, List.length_nil, List.length_set] <;> omega) | fail) only [hd1, ↓Xa, Xb, Xc, ↓reduceIte, Nat.reduceLT, Nat.reduceEqDiff, Nat.reduceBEq, Nat.reduceLeDiff, Nat.reduceAdd, Nat.reduceMul]
            refine (trimL_fn (c := 48) (l := cells) (by omega) (by decide)).call ?_
            rw [ecells, wide_trim, ← ecells]
            simp (disch := first | assumption | (apply Ap.symm; assumption) | omega | decide | (simp only [U_len, List.length_append, List.length_replicate, List.length_cons, List.length_nil, List.length_set] <;> omega) | fail) only [↓Xa, Xb, Xc, ↓reduceIte, Nat.reduceLT, Nat.reduceEqDiff, Nat.reduceBEq, Nat.reduceLeDiff, Nat.reduceAdd, Nat.reduceMul]
            refine run_call (wstr_run w0 (by omega) hm0 fun M' hM' => ?_)
            simp (disch := first | assumption | (apply Ap.symm; assumption) | omega | decide | (simp only [U_len, List.length_append, List.length_replicate, List.length_cons, List.length_nil, List.length_set] <;> omega) | fail) only [↓Xa, Xb, Xc, ↓reduceIte, Nat.reduceLT, Nat.reduceEqDiff, Nat.reduceBEq, Nat.reduceLeDiff, Nat.reduceAdd, Nat.reduceMul]
            exact fin _ _ hM' hstep
          · rw [if_neg (by omega)] at hstep
            rw [← ecells] at hstep
            have hd1 : decide (k = L + 1 - 1) = false := by simp [hkL]
            simp (disch := first | assumption | (apply Ap.symm; assumption) | omega | decide | (simp only [U_len, List.length_append, List.length_replicate, List.length_cons, List.length_nil, List.length_set] <;> omega) | fail) only [hd1, ↓Xa, Xb, Xc, ↓reduceIte, Nat.reduceLT, Nat.reduceEqDiff, Nat.reduceBEq, Nat.reduceLeDiff, Nat.reduceAdd, Nat.reduceMul]
            refine run_call (wstr_run w0 (by omega) (by omega) fun M' hM' => ?_)
            simp (disch := first | assumption | (apply Ap.symm; assumption) | omega | decide | (simp only [U_len, List.length_append, List.length_replicate, List.length_cons, List.length_nil, List.length_set] <;> omega) | fail) only [↓Xa, Xb, Xc, ↓reduceIte, Nat.reduceLT, Nat.reduceEqDiff, Nat.reduceBEq, Nat.reduceLeDiff, Nat.reduceAdd, Nat.reduceMul]
            exact fin _ _ hM' hstep
        | succ j =>
          have hj : j < 9 := by have := hx.1; omega
          have hbl : (Bt cells).length = 9 := by rw [Bt_len]; exact hcl
          have hd : x % 10 < 10 := Nat.mod_lt _ (by omega)
          simp (disch := first | assumption | (apply Ap.symm; assumption) | omega | decide | (simp only [U_len, List.length_append, List.length_replicate, List.length_cons, List.length_nil, List.length_set] <;> omega) | fail) only [dn_succ, stP_Bt, ↓Xa, Xb, Xc, ↓reduceIte, Nat.reduceLT, Nat.reduceEqDiff, Nat.reduceBEq, Nat.reduceLeDiff, Nat.reduceAdd, Nat.reduceMul]
          exact ⟨by omega, by omega, Settle.now ⟨(j, _, x / 10), Nat.lt_succ_self j, hx.step, rfl⟩⟩
  · have h1 : 0 < (digs 4294967296 n).length := by
      have : ¬ (digs 4294967296 n).length = 0 := by rw [hz]; exact hn0
      omega
    simp (disch := first | assumption | (apply Ap.symm; assumption) | omega | decide | (simp only [U_len, List.length_append, List.length_replicate, List.length_cons, List.length_nil, List.length_set] <;> omega) | fail) only [h1, ↓Xa, Xb, Xc, ↓reduceIte, Nat.reduceLT, Nat.reduceEqDiff, Nat.reduceBEq, Nat.reduceLeDiff, Nat.reduceAdd, Nat.reduceMul]
    refine (divsmall_fn (d := 1000000000) true (lim_digs (by omega) n) (by omega) (by omega) (by omega)).call ?_
    rw [val_digs (by omega)]
    simp (disch := first | assumption | (apply Ap.symm; assumption) | omega | decide | (simp only [U_len, List.length_append, List.length_replicate, List.length_cons, List.length_nil, List.length_set] <;> omega) | fail) only [↓Xa, Xb, Xc, ↓reduceIte, Nat.reduceLT, Nat.reduceEqDiff, Nat.reduceBEq, Nat.reduceLeDiff, Nat.reduceAdd, Nat.reduceMul]
    have hlen := congrArg List.length he
    rw [List.length_append] at hlen
    refine app_grow (m := [n % 1000000000]) hg rfl (by simp) (by simp; omega) fun x' H2 hg2 => ?_
    simp (disch := first | assumption | (apply Ap.symm; assumption) | omega | decide | (simp only [U_len, List.length_append, List.length_replicate, List.length_cons, List.length_nil, List.length_set] <;> omega) | fail) only [↓Xa, Xb, Xc, ↓reduceIte, Nat.reduceLT, Nat.reduceEqDiff, Nat.reduceBEq, Nat.reduceLeDiff, Nat.reduceAdd, Nat.reduceMul]
    refine Settle.now ⟨(done ++ [n % 1000000000], x', H2, n / 1000000000), Nat.div_lt_self (by omega) (by omega), ⟨hg2, ?_, Nat.le_trans (Nat.div_le_self _ _) hle⟩, rfl⟩
    dsimp only
    rw [he, digs_pos hP (show 0 < n by omega), List.append_assoc]; rfl
end Go.Proofs.YtipbcjnniamcgaaDoor.Fw

/- Binary digits of limbs. -/
namespace Go.Proofs.YtipbcjnniamcgaaDoor.Fw
set_option linter.unusedSimpArgs false
set_option linter.unusedVariables false
open Go Go.Proofs.YtipbcjnniamcgaaDoor.Ma
set_option maxRecDepth 20000

theorem lss_f {n : Nat} {K : AV → Prop} : binW .lss (.int .i64 (n : Int)) (.int .i64 ((0 : Nat) : Int)) K ↔ K (.bool false) := by rw [bin_lss]; simp
theorem idxS_nat {s : ByteArray} {k : IntKind} {j : Nat} {K : AV → Prop} (h : j < s.size) : idxSW (.str s) (.int k (j : Int)) K = K (.int .u8 ((byteAt s j : Nat) : Int)) := by
  simp [idxSW, h]
theorem len8 : ∀ j, j < 256 → byteAt ⟨#[0, 1, 2, 2, 3, 3, 3, 3, 4, 4, 4, 4, 4, 4, 4, 4, 5, 5, 5, 5, 5, 5, 5, 5, 5, 5, 5, 5, 5, 5, 5, 5, 6, 6, 6, 6, 6, 6, 6, 6, 6, 6, 6, 6, 6, 6, 6, 6, 6, 6, 6, 6, 6, 6, 6, 6, 6, 6, 6, 6, 6, 6, 6, 6, 7, 7, 7, 7, 7, 7, 7, 7, 7, 7, 7, 7, 7, 7, 7, 7, 7, 7, 7, 7, 7, 7, 7, 7, 7, 7, 7, 7, 7, 7, 7, 7, 7, 7, 7, 7, 7, 7, 7, 7, 7, 7, 7, 7, 7, 7, 7, 7, 7, 7, 7, 7, 7, 7, 7, 7, 7, 7, 7, 7, 7, 7, 7, 7, 8, 8, 8, 8, 8, 8, 8, 8, 8, 8, 8, 8, 8, 8, 8, 8, 8, 8, 8, 8, 8, 8, 8, 8, 8, 8, 8, 8, 8, 8, 8, 8, 8, 8, 8, 8, 8, 8, 8, 8, 8, 8, 8, 8, 8, 8, 8, 8, 8, 8, 8, 8, 8, 8, 8, 8, 8, 8, 8, 8, 8, 8, 8, 8, 8, 8, 8, 8, 8, 8, 8, 8, 8, 8, 8, 8, 8, 8, 8, 8, 8, 8, 8, 8, 8, 8, 8, 8, 8, 8, 8, 8, 8, 8, 8, 8, 8, 8, 8, 8, 8, 8, 8, 8, 8, 8, 8, 8, 8, 8, 8, 8, 8, 8, 8, 8, 8, 8, 8, 8, 8, 8, 8, 8, 8, 8, 8, 8]⟩ j = blen j := by decide +kernel
theorem idx8 {k : IntKind} {j : Nat} {K : AV → Prop} (h : j < 256) : idxSW (.str ⟨#[0, 1, 2, 2, 3, 3, 3, 3, 4, 4, 4, 4, 4, 4, 4, 4, 5, 5, 5, 5, 5, 5, 5, 5, 5, 5, 5, 5, 5, 5, 5, 5, 6, 6, 6, 6, 6, 6, 6, 6, 6, 6, 6, 6, 6, 6, 6, 6, 6, 6, 6, 6, 6, 6, 6, 6, 6, 6, 6, 6, 6, 6, 6, 6, 7, 7, 7, 7, 7, 7, 7, 7, 7, 7, 7, 7, 7, 7, 7, 7, 7, 7, 7, 7, 7, 7, 7, 7, 7, 7, 7, 7, 7, 7, 7, 7, 7, 7, 7, 7, 7, 7, 7, 7, 7, 7, 7, 7, 7, 7, 7, 7, 7, 7, 7, 7, 7, 7, 7, 7, 7, 7, 7, 7, 7, 7, 7, 7, 8, 8, 8, 8, 8, 8, 8, 8, 8, 8, 8, 8, 8, 8, 8, 8, 8, 8, 8, 8, 8, 8, 8, 8, 8, 8, 8, 8, 8, 8, 8, 8, 8, 8, 8, 8, 8, 8, 8, 8, 8, 8, 8, 8, 8, 8, 8, 8, 8, 8, 8, 8, 8, 8, 8, 8, 8, 8, 8, 8, 8, 8, 8, 8, 8, 8, 8, 8, 8, 8, 8, 8, 8, 8, 8, 8, 8, 8, 8, 8, 8, 8, 8, 8, 8, 8, 8, 8, 8, 8, 8, 8, 8, 8, 8, 8, 8, 8, 8, 8, 8, 8, 8, 8, 8, 8, 8, 8, 8, 8, 8, 8, 8, 8, 8, 8, 8, 8, 8, 8, 8, 8, 8, 8, 8, 8, 8, 8]⟩) (.int k (j : Int)) K = K (.int .u8 ((blen j : Nat) : Int)) := by
  have sz : (⟨#[0, 1, 2, 2, 3, 3, 3, 3, 4, 4, 4, 4, 4, 4, 4, 4, 5, 5, 5, 5, 5, 5, 5, 5, 5, 5, 5, 5, 5, 5, 5, 5, 6, 6, 6, 6, 6, 6, 6, 6, 6, 6, 6, 6, 6, 6, 6, 6, 6, 6, 6, 6, 6, 6, 6, 6, 6, 6, 6, 6, 6, 6, 6, 6, 7, 7, 7, 7, 7, 7, 7, 7, 7, 7, 7, 7, 7, 7, 7, 7, 7, 7, 7, 7, 7, 7, 7, 7, 7, 7, 7, 7, 7, 7, 7, 7, 7, 7, 7, 7, 7, 7, 7, 7, 7, 7, 7, 7, 7, 7, 7, 7, 7, 7, 7, 7, 7, 7, 7, 7, 7, 7, 7, 7, 7, 7, 7, 7, 8, 8, 8, 8, 8, 8, 8, 8, 8, 8, 8, 8, 8, 8, 8, 8, 8, 8, 8, 8, 8, 8, 8, 8, 8, 8, 8, 8, 8, 8, 8, 8, 8, 8, 8, 8, 8, 8, 8, 8, 8, 8, 8, 8, 8, 8, 8, 8, 8, 8, 8, 8, 8, 8, 8, 8, 8, 8, 8, 8, 8, 8, 8, 8, 8, 8, 8, 8, 8, 8, 8, 8, 8, 8, 8, 8, 8, 8, 8, 8, 8, 8, 8, 8, 8, 8, 8, 8, 8, 8, 8, 8, 8, 8, 8, 8, 8, 8, 8, 8, 8, 8, 8, 8, 8, 8, 8, 8, 8, 8, 8, 8, 8, 8, 8, 8, 8, 8, 8, 8, 8, 8, 8, 8, 8, 8, 8, 8]⟩ : ByteArray).size = 256 := by decide +kernel
  rw [idxS_nat (by rw [sz]; exact h), len8 j h]
theorem len32_fn {x : Nat} (hx : x < 4294967296) : PFn Tryd.prog 101 [.int .u32 (x : Int)] (.int .i64 ((blen x : Nat) : Int)) := by
  intro H Q hq
  have hb : blen x ≤ 32 := blen_le.2 (by omega)
  refine enter101 (by simp) ?_
  by_cases h1 : 65536 ≤ x
  · have e1 := blen_shift (n := x) (s := 16) h1
    by_cases h2 : 256 ≤ x / 2 ^ 16
    · have e2 := blen_shift (n := x / 2 ^ 16) (s := 8) h2
      have h3 : x / 2 ^ 16 / 2 ^ 8 < 256 := by omega
      have hl : blen (x / 2 ^ 16 / 2 ^ 8) ≤ 8 := blen_le.2 h3
      simp (disch := first | assumption | (apply Ap.symm; assumption) | omega | decide | (simp only [U_len, List.length_append, List.length_replicate, List.length_cons, List.length_nil, List.length_set] <;> omega) | fail) only [ac101, h1, h2, idx8, rs101, ↓Xa, Xb, Xc, ↓reduceIte, Nat.reduceLT, Nat.reduceEqDiff, Nat.reduceBEq, Nat.reduceLeDiff, Nat.reduceAdd, Nat.reduceMul]
      refine SetR.now ?_
      rwa [show 16 + 8 + blen (x / 2 ^ 16 / 2 ^ 8) = blen x by omega]
    · have h3 : x / 2 ^ 16 < 256 := by omega
      have hl : blen (x / 2 ^ 16) ≤ 8 := blen_le.2 h3
      simp (disch := first | assumption | (apply Ap.symm; assumption) | omega | decide | (simp only [U_len, List.length_append, List.length_replicate, List.length_cons, List.length_nil, List.length_set] <;> omega) | fail) only [ac101, h1, h2, idx8, rs101, ↓Xa, Xb, Xc, ↓reduceIte, Nat.reduceLT, Nat.reduceEqDiff, Nat.reduceBEq, Nat.reduceLeDiff, Nat.reduceAdd, Nat.reduceMul]
      refine SetR.now ?_
      rwa [show 16 + blen (x / 2 ^ 16) = blen x by omega]
  · by_cases h2 : 256 ≤ x
    · have e2 := blen_shift (n := x) (s := 8) h2
      have h3 : x / 2 ^ 8 < 256 := by omega
      have hl : blen (x / 2 ^ 8) ≤ 8 := blen_le.2 h3
      simp (disch := first | assumption | (apply Ap.symm; assumption) | omega | decide | (simp only [U_len, List.length_append, List.length_replicate, List.length_cons, List.length_nil, List.length_set] <;> omega) | fail) only [ac101, h1, h2, idx8, rs101, ↓Xa, Xb, Xc, ↓reduceIte, Nat.reduceLT, Nat.reduceEqDiff, Nat.reduceBEq, Nat.reduceLeDiff, Nat.reduceAdd, Nat.reduceMul]
      refine SetR.now ?_
      rwa [show 0 + 8 + blen (x / 2 ^ 8) = blen x by omega]
    · have hl : blen x ≤ 8 := blen_le.2 (by omega)
      simp (disch := first | assumption | (apply Ap.symm; assumption) | omega | decide | (simp only [U_len, List.length_append, List.length_replicate, List.length_cons, List.length_nil, List.length_set] <;> omega) | fail) only [ac101, h1, h2, idx8, rs101, ↓Xa, Xb, Xc, ↓reduceIte, Nat.reduceLT, Nat.reduceEqDiff, Nat.reduceBEq, Nat.reduceLeDiff, Nat.reduceAdd, Nat.reduceMul]
      refine SetR.now ?_
      exact hq

theorem bits_fn {l : List Nat} (t : Bool) (hl : Lim 4294967296 l) (hn : l.length ≤ 1099511627776) : PFn Tryd.prog 61 [LS l t] (.int .i64 ((blen (val 4294967296 l) : Nat) : Int)) := by
  intro H Q hq
  have ht := tr_len l
  refine enter61 (by simp) ?_
  simp (disch := first | assumption | (apply Ap.symm; assumption) | omega | decide | (simp only [U_len, List.length_append, List.length_replicate, List.length_cons, List.length_nil, List.length_set] <;> omega) | fail) only [ac61, ↓Xa, Xb, Xc, ↓reduceIte, Nat.reduceLT, Nat.reduceEqDiff, Nat.reduceBEq, Nat.reduceLeDiff, Nat.reduceAdd, Nat.reduceMul]
  refine (trim_fn l t).call ?_
  rw [tr_digs (by omega) hl] at ht ⊢
  generalize val 4294967296 l = n at *
  rcases Nat.eq_zero_or_pos n with e | e
  · subst e
    rw [digs_zero]
    simp (disch := first | assumption | (apply Ap.symm; assumption) | omega | decide | (simp only [U_len, List.length_append, List.length_replicate, List.length_cons, List.length_nil, List.length_set] <;> omega) | fail) only [rs61, ↓Xa, Xb, Xc, ↓reduceIte, Nat.reduceLT, Nat.reduceEqDiff, Nat.reduceBEq, Nat.reduceLeDiff, Nat.reduceAdd, Nat.reduceMul]
    exact SetR.now hq
  · have hp : 0 < (digs 4294967296 n).length := by rw [digs_pos (by omega) e]; simp
    have hne : ((digs 4294967296 n).length = 0) = False := eq_false (by omega)
    have hb := blen_digs (w := 32) (by omega) e
    have hlim := (lim_digs (B := 4294967296) (by omega) n).getD (by omega) ((digs 4294967296 n).length - 1)
    have hb32 : blen ((digs 4294967296 n).getD ((digs 4294967296 n).length - 1) 0) ≤ 32 := blen_le.2 (by omega)
    simp (disch := first | assumption | (apply Ap.symm; assumption) | omega | decide | (simp only [U_len, List.length_append, List.length_replicate, List.length_cons, List.length_nil, List.length_set] <;> omega) | fail) only [hne, ↓Xa, Xb, Xc, ↓reduceIte, Nat.reduceLT, Nat.reduceEqDiff, Nat.reduceBEq, Nat.reduceLeDiff, Nat.reduceAdd, Nat.reduceMul]
    refine (len32_fn hlim).call ?_
    simp (disch := first | assumption | (apply Ap.symm; assumption) | omega | decide | (simp only [U_len, List.length_append, List.length_replicate, List.length_cons, List.length_nil, List.length_set] <;> omega) | fail) only [rs61, ↓Xa, Xb, Xc, ↓reduceIte, Nat.reduceLT, Nat.reduceEqDiff, Nat.reduceBEq, Nat.reduceLeDiff, Nat.reduceAdd, Nat.reduceMul]
    refine SetR.now ?_
    rw [hb] at hq
    exact hq

end Go.Proofs.YtipbcjnniamcgaaDoor.Fw
