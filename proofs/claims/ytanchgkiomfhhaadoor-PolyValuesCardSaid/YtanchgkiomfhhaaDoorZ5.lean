/- The texts Ac Li Lj Lb Lk Ll Lm In Re Rf Rg Ri Rj Rk, joined. -/
import Derived.Test.YtanchgkiomfhhaaDoorZ4
import Derived.Test.YtanchgkiomfhhaaDoorProg
/- The looked-up code of each function, and that it is: by a program (wip/tools/ac.py); Lean checks it. -/
namespace Go.Proofs.YtanchgkiomfhhaaDoor.Fw
open Go
set_option maxRecDepth 100000
theorem mixed : Go.Proofs.Tryd.prog.follows .mixedOrders = true := by kernel_rfl
def ac23 : ACode := (.seq (.reg [⟨(some 0), none, (.mov (.k (.bool false)))⟩] []) (.seq (.reg [⟨(some 4), none, (.bsl [(.int .i64 ((0 : Nat) : Int))] 2 1 [(0, (1, (.k (.int .i64 ((1 : Nat) : Int))))), (1, (1, (.k (.int .i64 ((2 : Nat) : Int)))))])⟩, ⟨(some 5), none, (.call (.k (.fn (.func 25) [] [])) [(.t 4)])⟩, ⟨(some 6), none, (.bsl [(.int .i64 ((0 : Nat) : Int))] 3 1 [(0, (1, (.k (.int .i64 ((3 : Nat) : Int))))), (1, (1, (.k (.int .i64 ((4 : Nat) : Int))))), (2, (1, (.k (.int .i64 ((5 : Nat) : Int)))))])⟩, ⟨(some 7), none, (.call (.k (.fn (.func 25) [] [])) [(.t 6)])⟩, ⟨(some 8), none, (.call (.k (.fn (.func 71) [] [])) [(.t 5), (.t 7)])⟩, ⟨(some 3), none, (.mov (.t 8))⟩, ⟨(some 9), none, (.ext (.t 3) 0)⟩, ⟨(some 10), none, (.ext (.t 3) 1)⟩, ⟨(some 1), none, (.mov (.t 9))⟩, ⟨(some 2), none, (.mov (.t 10))⟩] [1, 2]) (.seq (.reg [⟨(some 11), none, (.mov (.t 2))⟩, ⟨(some 12), none, (.bin .eql (.t 11) (.k (.int .i64 ((6 : Nat) : Int))))⟩, ⟨(some 13), none, (.mov (.t 12))⟩, ⟨(some 14), (some (13, true)), (.mov (.t 1))⟩, ⟨(some 15), (some (13, true)), (.bsl [(.int .i64 ((0 : Nat) : Int))] 4 1 [(0, (1, (.k (.int .i64 ((3 : Nat) : Int))))), (1, (1, (.k (.int .i64 ((10 : Nat) : Int))))), (2, (1, (.k (.int .i64 ((13 : Nat) : Int))))), (3, (1, (.k (.int .i64 ((10 : Nat) : Int)))))])⟩, ⟨(some 16), (some (13, true)), (.call (.k (.fn (.func 31) [] [])) [(.t 15)])⟩, ⟨(some 17), (some (13, true)), (.call (.k (.fn (.func 73) [] [])) [(.t 14), (.t 16)])⟩, ⟨(some 18), none, (.pick (.t 13) (.t 17) (.k (.bool false)))⟩, ⟨(some 19), none, (.mov (.t 18))⟩, ⟨(some 20), (some (19, true)), (.mov (.t 1))⟩, ⟨(some 21), (some (19, true)), (.call (.k (.fn (.func 93) [] [])) [(.t 20)])⟩, ⟨(some 22), (some (19, true)), (.bin .eql (.t 21) (.k (.str ⟨#[91, 51, 32, 49, 48, 32, 49, 51, 32, 49, 48, 93]⟩)))⟩, ⟨(some 23), none, (.pick (.t 19) (.t 22) (.k (.bool false)))⟩, ⟨(some 24), none, (.mov (.t 23))⟩, ⟨(some 25), (some (24, true)), (.mov (.t 1))⟩, ⟨(some 26), (some (24, true)), (.call (.k (.fn (.func 70) [] [])) [(.t 25)])⟩, ⟨(some 27), (some (24, true)), (.bin .eql (.t 26) (.k (.int .i64 ((3 : Nat) : Int))))⟩, ⟨(some 28), none, (.pick (.t 24) (.t 27) (.k (.bool false)))⟩, ⟨(some 0), none, (.mov (.t 28))⟩] [0]) .ret)))
def rs23 : List RV := [(.t 0)]
theorem co23 : compFn Go.Proofs.Tryd.prog Go.Proofs.Tryd.f23 pl23 = some (ac23, rs23) := by kernel_rfl
theorem enter23 {args : List AV} {H : AHeap} {Q : AV → AHeap → Prop} (hn : args.length ≤ 29) (h : W Go.Proofs.Tryd.prog ac23 (retN rs23 Q) ⟨[], initE args 0, H⟩) : Run Go.Proofs.Tryd.prog 23 args H Q := Run_fn2 mixed Go.Proofs.Tryd.func23 (by kernel_rfl) co23 (n := 29) (by kernel_rfl) hn h
def ac24 : ACode := (.seq (.reg [⟨(some 3), none, (.box 24 0 (.t 1))⟩, ⟨(some 4), none, (.alloc 28 0 [(.bool false), (.seq 0 [] true)])⟩, ⟨(some 5), none, (.mov (.k (.int .i64 ((0 : Nat) : Int))))⟩] [0, 3, 4]) (.seq (.seq (.reg [⟨(some 9), none, (.mov (.t 0))⟩, ⟨(some 10), none, (.len false (.t 9))⟩, ⟨(some 11), none, (.bin .eql (.t 10) (.k (.int .i64 ((0 : Nat) : Int))))⟩, ⟨(some 12), none, (.mov (.t 11))⟩, ⟨(some 13), (some (12, false)), (.load (some 2) (.t 3))⟩, ⟨(some 14), (some (12, false)), (.call (.k (.fn (.func 87) [] [])) [(.t 13)])⟩, ⟨(some 15), (some (12, false)), (.un .not (.t 14))⟩, ⟨(some 16), none, (.pick (.t 12) (.k (.bool true)) (.t 15))⟩] [0, 3, 4, 16]) (.cond (.t 16) (.seq (.reg [⟨(some 17), none, (.build [(.bool false), (.seq 0 [] true)] [])⟩, ⟨none, none, (.store 2 (.t 4) (.t 17))⟩, ⟨(some 5), none, (.mov (.k (.int .i64 ((2 : Nat) : Int))))⟩] [4, 5]) .ret) .skip)) (.seq (.draw [⟨(some 18), none, (.mov (.t 0))⟩, ⟨(some 19), none, (.mov (.t 0))⟩, ⟨(some 20), none, (.len false (.t 19))⟩, ⟨(some 21), none, (.bin .sub (.t 20) (.k (.int .i64 ((1 : Nat) : Int))))⟩, ⟨(some 22), none, (.idxA 2 (.t 18) (.t 21))⟩, ⟨(some 23), none, (.load (some 2) (.t 22))⟩, ⟨(some 24), none, (.call (.k (.fn (.func 58) [] [])) [(.k (.int .i64 ((1 : Nat) : Int)))])⟩, ⟨(some 6), none, (.alloc 28 0 [(.bool false), (.seq 0 [] true)])⟩, ⟨(some 7), none, (.alloc 28 0 [(.bool false), (.seq 0 [] true)])⟩] [⟨none, none, (.store 2 (.t 6) (.t 23))⟩, ⟨none, none, (.store 2 (.t 7) (.t 24))⟩] [0, 1, 1, 1, 0, 0, 63, 127, 255] [0, 3, 4, 6, 7]) (.seq (.seq (.reg [⟨(some 25), none, (.mov (.t 0))⟩, ⟨(some 26), none, (.len false (.t 25))⟩, ⟨(some 27), none, (.bin .sub (.t 26) (.k (.int .i64 ((2 : Nat) : Int))))⟩, ⟨(some 8), none, (.mov (.t 27))⟩] [0, 3, 4, 6, 7, 8]) (.block 0 (.loop (.seq (.seq (.reg [⟨(some 28), none, (.mov (.t 8))⟩, ⟨(some 29), none, (.bin .geq (.t 28) (.k (.int .i64 ((0 : Nat) : Int))))⟩] [0, 3, 4, 6, 7, 8, 29]) (.cond (.t 29) .skip (.exit 0))) (.seq (.block 1 (.seq (.reg [⟨(some 32), none, (.load (some 2) (.t 7))⟩, ⟨(some 33), none, (.fldA 1 (.t 3))⟩, ⟨(some 34), none, (.load none (.t 33))⟩, ⟨(some 35), none, (.call (.k (.fn (.func 131) [] [])) [(.t 32), (.t 34)])⟩, ⟨none, none, (.store 2 (.t 7) (.t 35))⟩] [0, 3, 4, 6, 7, 8]) (.draw [⟨(some 36), none, (.load (some 2) (.t 6))⟩, ⟨(some 37), none, (.fldA 0 (.t 3))⟩, ⟨(some 38), none, (.load none (.t 37))⟩, ⟨(some 39), none, (.call (.k (.fn (.func 131) [] [])) [(.t 36), (.t 38)])⟩, ⟨(some 40), none, (.mov (.t 0))⟩, ⟨(some 41), none, (.mov (.t 8))⟩, ⟨(some 42), none, (.idxA 2 (.t 40) (.t 41))⟩, ⟨(some 43), none, (.load (some 2) (.t 42))⟩, ⟨(some 44), none, (.load (some 2) (.t 7))⟩] [⟨(some 45), none, (.call (.k (.fn (.func 89) [] [])) [(.t 43), (.t 44)])⟩, ⟨(some 46), none, (.call (.k (.fn (.func 121) [] [])) [(.t 39), (.t 45)])⟩, ⟨none, none, (.store 2 (.t 6) (.t 46))⟩] [0, 1, 1, 0, 15, 31, 15, 15, 255] [0, 3, 4, 6, 7, 8]))) (.reg [⟨(some 30), none, (.mov (.t 8))⟩, ⟨(some 31), none, (.bin .sub (.t 30) (.k (.int .i64 ((1 : Nat) : Int))))⟩, ⟨(some 8), none, (.mov (.t 31))⟩] [0, 3, 4, 6, 7, 8])))))) (.seq (.reg [⟨(some 47), none, (.load (some 2) (.t 6))⟩, ⟨none, none, (.store 2 (.t 4) (.t 47))⟩, ⟨(some 5), none, (.mov (.k (.int .i64 ((0 : Nat) : Int))))⟩] [4, 5]) .ret)))))
def rs24 : List RV := [(.cell 4 (some 2)), (.t 5)]
theorem co24 : compFn Go.Proofs.Tryd.prog Go.Proofs.Tryd.f24 pl24 = some (ac24, rs24) := by kernel_rfl
theorem enter24 {args : List AV} {H : AHeap} {Q : AV → AHeap → Prop} (hn : args.length ≤ 48) (h : W Go.Proofs.Tryd.prog ac24 (retN rs24 Q) ⟨[], initE args 0, H⟩) : Run Go.Proofs.Tryd.prog 24 args H Q := Run_fn2 mixed Go.Proofs.Tryd.func24 (by kernel_rfl) co24 (n := 48) (by kernel_rfl) hn h
def ac25 : ACode := (.seq (.reg [⟨(some 2), none, (.mov (.k (.seq 0 [] true)))⟩] [0]) (.seq (.reg [⟨(some 6), none, (.mov (.t 0))⟩, ⟨(some 7), none, (.len false (.t 6))⟩, ⟨(some 8), none, (.bin .add (.t 7) (.k (.int .i64 ((2 : Nat) : Int))))⟩, ⟨(some 9), none, (.mks 28 2 32 [(.bool false), (.seq 0 [] true)] (.k (.int .i64 ((0 : Nat) : Int))) (.t 8))⟩, ⟨(some 3), none, (.mov (.t 9))⟩] [0, 3]) (.seq (.seq (.reg [⟨(some 10), none, (.mov (.t 0))⟩, ⟨(some 11), none, (.len false (.t 10))⟩, ⟨(some 12), none, (.mov (.k (.int .i64 ((0 : Nat) : Int))))⟩] [3, 10, 11, 12]) (.block 0 (.loop (.seq (.reg [⟨(some 13), none, (.bin .lss (.t 12) (.t 11))⟩] [3, 10, 11, 12, 13]) (.seq (.cond (.t 13) .skip (.exit 0)) (.seq (.block 1 (.seq (.reg [⟨(some 14), none, (.idxA 1 (.t 10) (.t 12))⟩, ⟨(some 15), none, (.load none (.t 14))⟩, ⟨(some 5), none, (.mov (.t 15))⟩] [3, 5, 10, 11, 12]) (.reg [⟨(some 16), none, (.mov (.t 3))⟩, ⟨(some 17), none, (.mov (.t 5))⟩, ⟨(some 18), none, (.call (.k (.fn (.func 58) [] [])) [(.t 17)])⟩, ⟨(some 19), none, (.bsl [(.bool false), (.seq 0 [] true)] 1 2 [(0, (2, (.t 18)))])⟩, ⟨(some 20), none, (.app 28 2 32 (.t 16) (.t 19))⟩, ⟨(some 3), none, (.mov (.t 20))⟩] [3, 10, 11, 12]))) (.reg [⟨(some 21), none, (.bin .add (.t 12) (.k (.int .i64 ((1 : Nat) : Int))))⟩, ⟨(some 12), none, (.mov (.t 21))⟩] [3, 10, 11, 12]))))))) (.seq (.reg [⟨(some 22), none, (.mov (.t 3))⟩, ⟨(some 2), none, (.mov (.t 22))⟩] [2]) .ret))))
def rs25 : List RV := [(.t 2)]
theorem co25 : compFn Go.Proofs.Tryd.prog Go.Proofs.Tryd.f25 pl25 = some (ac25, rs25) := by kernel_rfl
theorem enter25 {args : List AV} {H : AHeap} {Q : AV → AHeap → Prop} (hn : args.length ≤ 23) (h : W Go.Proofs.Tryd.prog ac25 (retN rs25 Q) ⟨[], initE args 0, H⟩) : Run Go.Proofs.Tryd.prog 25 args H Q := Run_fn2 mixed Go.Proofs.Tryd.func25 (by kernel_rfl) co25 (n := 23) (by kernel_rfl) hn h
def ac27 : ACode := (.seq (.reg [⟨(some 1), none, (.box 28 0 (.t 0))⟩, ⟨(some 2), none, (.mov (.k (.int .i64 ((0 : Nat) : Int))))⟩] [1]) (.seq (.block 0 (.seq (.reg [⟨(some 4), none, (.fldA 1 (.t 1))⟩, ⟨(some 5), none, (.load none (.t 4))⟩, ⟨(some 6), none, (.len false (.t 5))⟩, ⟨(some 7), none, (.bin .eql (.t 6) (.k (.int .i64 ((0 : Nat) : Int))))⟩, ⟨(some 3), none, (.mov (.t 7))⟩] [1, 3]) (.cond (.t 3) (.seq (.reg [⟨(some 2), none, (.mov (.k (.int .i64 ((0 : Nat) : Int))))⟩] [2]) .ret) (.seq (.reg [⟨(some 9), none, (.fldA 0 (.t 1))⟩, ⟨(some 10), none, (.load none (.t 9))⟩, ⟨(some 8), none, (.mov (.t 10))⟩] [8]) (.cond (.t 8) (.seq (.reg [⟨(some 2), none, (.mov (.k (.int .i64 (-1))))⟩] [2]) .ret) .skip))))) (.seq (.reg [⟨(some 2), none, (.mov (.k (.int .i64 ((1 : Nat) : Int))))⟩] [2]) .ret)))
def rs27 : List RV := [(.t 2)]
theorem co27 : compFn Go.Proofs.Tryd.prog Go.Proofs.Tryd.f27 pl27 = some (ac27, rs27) := by kernel_rfl
theorem enter27 {args : List AV} {H : AHeap} {Q : AV → AHeap → Prop} (hn : args.length ≤ 11) (h : W Go.Proofs.Tryd.prog ac27 (retN rs27 Q) ⟨[], initE args 0, H⟩) : Run Go.Proofs.Tryd.prog 27 args H Q := Run_fn2 mixed Go.Proofs.Tryd.func27 (by kernel_rfl) co27 (n := 11) (by kernel_rfl) hn h
def ac28 : ACode := (.seq (.reg [⟨(some 1), none, (.box 28 0 (.t 0))⟩, ⟨(some 2), none, (.mov (.k (.str ⟨#[]⟩)))⟩] [1, 2]) (.seq (.reg [⟨(some 3), none, (.alloc 103 0 [(.seq 0 [] true)])⟩] [1, 2, 3]) (.seq (.seq (.reg [⟨(some 5), none, (.fldA 0 (.t 1))⟩, ⟨(some 6), none, (.load none (.t 5))⟩] [1, 2, 3, 6]) (.cond (.t 6) (.reg [⟨(some 7), none, (.load none (.t 3))⟩, ⟨(some 8), none, (.bsl [(.int .u8 ((0 : Nat) : Int))] 1 1 [(0, (1, (.k (.int .u8 ((45 : Nat) : Int)))))])⟩, ⟨(some 9), none, (.app 5 1 1 (.t 7) (.t 8))⟩, ⟨none, none, (.store 1 (.t 3) (.t 9))⟩] [1, 2, 3]) .skip)) (.seq (.seq (.reg [⟨(some 10), none, (.fldA 1 (.t 1))⟩, ⟨(some 11), none, (.load none (.t 10))⟩, ⟨(some 12), none, (.call (.k (.fn (.func 132) [] [])) [(.t 11)])⟩] [2, 3, 12]) (.block 0 (.rfn (.t 12) [13] (.reg [⟨(some 4), none, (.mov (.t 13))⟩] [3, 4]) (.block 1 (.reg [⟨(some 14), none, (.load none (.t 3))⟩, ⟨(some 15), none, (.mov (.t 4))⟩, ⟨(some 16), none, (.bin .add (.k (.int .i64 ((48 : Nat) : Int))) (.t 15))⟩, ⟨(some 17), none, (.conv .u8 (.t 16))⟩, ⟨(some 18), none, (.bsl [(.int .u8 ((0 : Nat) : Int))] 1 1 [(0, (1, (.t 17)))])⟩, ⟨(some 19), none, (.app 5 1 1 (.t 14) (.t 18))⟩, ⟨none, none, (.store 1 (.t 3) (.t 19))⟩] []))))) (.seq (.reg [⟨(some 20), none, (.load none (.t 3))⟩, ⟨(some 21), none, (.prim .b2s [(.t 20)])⟩, ⟨(some 2), none, (.mov (.t 21))⟩] [2]) .ret)))))
def rs28 : List RV := [(.t 2)]
theorem co28 : compFn Go.Proofs.Tryd.prog Go.Proofs.Tryd.f28 pl28 = some (ac28, rs28) := by kernel_rfl
theorem enter28 {args : List AV} {H : AHeap} {Q : AV → AHeap → Prop} (hn : args.length ≤ 22) (h : W Go.Proofs.Tryd.prog ac28 (retN rs28 Q) ⟨[], initE args 0, H⟩) : Run Go.Proofs.Tryd.prog 28 args H Q := Run_fn2 mixed Go.Proofs.Tryd.func28 (by kernel_rfl) co28 (n := 22) (by kernel_rfl) hn h
def ac29 : ACode := (.seq (.reg [⟨(some 1), none, (.box 39 0 (.t 0))⟩, ⟨(some 2), none, (.mov (.k (.str ⟨#[]⟩)))⟩] [1]) (.seq (.reg [⟨(some 3), none, (.mov (.k (.seq 0 [] true)))⟩] [1, 3]) (.seq (.reg [⟨(some 9), none, (.fldA 1 (.t 1))⟩, ⟨(some 10), none, (.load none (.t 9))⟩, ⟨(some 4), none, (.mov (.t 10))⟩] [1, 3, 4]) (.seq (.block 0 (.loop (.seq (.seq (.reg [⟨(some 11), none, (.mov (.t 4))⟩, ⟨(some 12), none, (.len false (.t 11))⟩, ⟨(some 13), none, (.bin .gtr (.t 12) (.k (.int .i64 ((0 : Nat) : Int))))⟩] [1, 3, 4, 13]) (.cond (.t 13) .skip (.exit 0))) (.block 1 (.seq (.reg [⟨(some 15), none, (.mov (.t 4))⟩, ⟨(some 16), none, (.bsl [(.int .u32 ((0 : Nat) : Int))] 1 1 [(0, (1, (.k (.int .u32 ((10 : Nat) : Int)))))])⟩, ⟨(some 17), none, (.call (.k (.fn (.func 133) [] [])) [(.t 15), (.t 16)])⟩, ⟨(some 14), none, (.mov (.t 17))⟩, ⟨(some 18), none, (.ext (.t 14) 0)⟩, ⟨(some 19), none, (.ext (.t 14) 1)⟩, ⟨(some 5), none, (.mov (.t 18))⟩, ⟨(some 6), none, (.mov (.t 19))⟩] [1, 3, 5, 6]) (.seq (.reg [⟨(some 7), none, (.mov (.k (.int .u32 ((0 : Nat) : Int))))⟩] [1, 3, 5, 6, 7]) (.seq (.seq (.reg [⟨(some 20), none, (.mov (.t 6))⟩, ⟨(some 21), none, (.len false (.t 20))⟩, ⟨(some 22), none, (.bin .gtr (.t 21) (.k (.int .i64 ((0 : Nat) : Int))))⟩] [1, 3, 5, 6, 7, 22]) (.cond (.t 22) (.reg [⟨(some 23), none, (.mov (.t 6))⟩, ⟨(some 24), none, (.idxA 1 (.t 23) (.k (.int .i64 ((0 : Nat) : Int))))⟩, ⟨(some 25), none, (.load none (.t 24))⟩, ⟨(some 7), none, (.mov (.t 25))⟩] [1, 3, 5, 7]) .skip)) (.seq (.reg [⟨(some 26), none, (.mov (.t 3))⟩, ⟨(some 27), none, (.mov (.t 7))⟩, ⟨(some 28), none, (.bin .add (.k (.int .u32 ((48 : Nat) : Int))) (.t 27))⟩, ⟨(some 29), none, (.conv .u8 (.t 28))⟩, ⟨(some 30), none, (.bsl [(.int .u8 ((0 : Nat) : Int))] 1 1 [(0, (1, (.t 29)))])⟩, ⟨(some 31), none, (.app 5 1 1 (.t 26) (.t 30))⟩, ⟨(some 3), none, (.mov (.t 31))⟩] [1, 3, 5]) (.reg [⟨(some 32), none, (.mov (.t 5))⟩, ⟨(some 4), none, (.mov (.t 32))⟩] [1, 3, 4]))))))))) (.seq (.seq (.reg [⟨(some 33), none, (.mov (.t 3))⟩, ⟨(some 34), none, (.len false (.t 33))⟩, ⟨(some 35), none, (.bin .eql (.t 34) (.k (.int .i64 ((0 : Nat) : Int))))⟩] [1, 3, 35]) (.cond (.t 35) (.seq (.reg [⟨(some 2), none, (.mov (.k (.str ⟨#[48]⟩)))⟩] [2]) .ret) .skip)) (.seq (.seq (.reg [⟨(some 36), none, (.fldA 0 (.t 1))⟩, ⟨(some 37), none, (.load none (.t 36))⟩] [3, 37]) (.cond (.t 37) (.reg [⟨(some 38), none, (.mov (.t 3))⟩, ⟨(some 39), none, (.bsl [(.int .u8 ((0 : Nat) : Int))] 1 1 [(0, (1, (.k (.int .u8 ((45 : Nat) : Int)))))])⟩, ⟨(some 40), none, (.app 5 1 1 (.t 38) (.t 39))⟩, ⟨(some 3), none, (.mov (.t 40))⟩] [3]) .skip)) (.seq (.seq (.reg [⟨(some 8), none, (.mov (.k (.int .i64 ((0 : Nat) : Int))))⟩] [3, 8]) (.block 2 (.loop (.seq (.seq (.reg [⟨(some 41), none, (.mov (.t 8))⟩, ⟨(some 42), none, (.mov (.t 3))⟩, ⟨(some 43), none, (.len false (.t 42))⟩, ⟨(some 44), none, (.bin .quo (.t 43) (.k (.int .i64 ((2 : Nat) : Int))))⟩, ⟨(some 45), none, (.bin .lss (.t 41) (.t 44))⟩] [3, 8, 45]) (.cond (.t 45) .skip (.exit 2))) (.seq (.block 3 (.draw [⟨(some 48), none, (.mov (.t 3))⟩, ⟨(some 49), none, (.mov (.t 8))⟩, ⟨(some 50), none, (.mov (.t 3))⟩, ⟨(some 51), none, (.mov (.t 3))⟩, ⟨(some 52), none, (.len false (.t 51))⟩, ⟨(some 53), none, (.bin .sub (.t 52) (.k (.int .i64 ((1 : Nat) : Int))))⟩, ⟨(some 54), none, (.mov (.t 8))⟩, ⟨(some 55), none, (.bin .sub (.t 53) (.t 54))⟩, ⟨(some 56), none, (.mov (.t 3))⟩, ⟨(some 57), none, (.mov (.t 3))⟩, ⟨(some 58), none, (.len false (.t 57))⟩, ⟨(some 59), none, (.bin .sub (.t 58) (.k (.int .i64 ((1 : Nat) : Int))))⟩, ⟨(some 60), none, (.mov (.t 8))⟩, ⟨(some 61), none, (.bin .sub (.t 59) (.t 60))⟩, ⟨(some 62), none, (.idxA 1 (.t 56) (.t 61))⟩, ⟨(some 63), none, (.load none (.t 62))⟩, ⟨(some 64), none, (.mov (.t 3))⟩, ⟨(some 65), none, (.mov (.t 8))⟩, ⟨(some 66), none, (.idxA 1 (.t 64) (.t 65))⟩, ⟨(some 67), none, (.load none (.t 66))⟩, ⟨(some 68), none, (.idxA 1 (.t 48) (.t 49))⟩, ⟨none, none, (.store 1 (.t 68) (.t 63))⟩] [⟨(some 69), none, (.idxA 1 (.t 50) (.t 55))⟩, ⟨none, none, (.store 1 (.t 69) (.t 67))⟩] [0, 1, 3, 7, 7, 7, 63, 7, 255, 511, 511, 511, 4095, 511, 255, 255, 65535, 131071, 65535, 65535, 252, 252] [3, 8])) (.reg [⟨(some 46), none, (.mov (.t 8))⟩, ⟨(some 47), none, (.bin .add (.t 46) (.k (.int .i64 ((1 : Nat) : Int))))⟩, ⟨(some 8), none, (.mov (.t 47))⟩] [3, 8])))))) (.seq (.reg [⟨(some 70), none, (.mov (.t 3))⟩, ⟨(some 71), none, (.prim .b2s [(.t 70)])⟩, ⟨(some 2), none, (.mov (.t 71))⟩] [2]) .ret))))))))
def rs29 : List RV := [(.t 2)]
theorem co29 : compFn Go.Proofs.Tryd.prog Go.Proofs.Tryd.f29 pl29 = some (ac29, rs29) := by kernel_rfl
theorem enter29 {args : List AV} {H : AHeap} {Q : AV → AHeap → Prop} (hn : args.length ≤ 72) (h : W Go.Proofs.Tryd.prog ac29 (retN rs29 Q) ⟨[], initE args 0, H⟩) : Run Go.Proofs.Tryd.prog 29 args H Q := Run_fn2 mixed Go.Proofs.Tryd.func29 (by kernel_rfl) co29 (n := 72) (by kernel_rfl) hn h
def ac31 : ACode := (.seq (.reg [⟨(some 2), none, (.mov (.k (.seq 0 [] true)))⟩] [0]) (.seq (.reg [⟨(some 3), none, (.mov (.k (.seq 0 [] true)))⟩] [0, 3]) (.seq (.seq (.reg [⟨(some 6), none, (.mov (.t 0))⟩, ⟨(some 7), none, (.len false (.t 6))⟩, ⟨(some 8), none, (.mov (.k (.int .i64 ((0 : Nat) : Int))))⟩] [3, 6, 7, 8]) (.block 0 (.loop (.seq (.reg [⟨(some 9), none, (.bin .lss (.t 8) (.t 7))⟩] [3, 6, 7, 8, 9]) (.seq (.cond (.t 9) .skip (.exit 0)) (.seq (.block 1 (.seq (.reg [⟨(some 10), none, (.idxA 1 (.t 6) (.t 8))⟩, ⟨(some 11), none, (.load none (.t 10))⟩, ⟨(some 5), none, (.mov (.t 11))⟩] [3, 5, 6, 7, 8]) (.reg [⟨(some 12), none, (.mov (.t 3))⟩, ⟨(some 13), none, (.mov (.t 5))⟩, ⟨(some 14), none, (.call (.k (.fn (.func 45) [] [])) [(.t 13)])⟩, ⟨(some 15), none, (.bsl [(.bool false), (.seq 0 [] true)] 1 2 [(0, (2, (.t 14)))])⟩, ⟨(some 16), none, (.app 39 2 32 (.t 12) (.t 15))⟩, ⟨(some 3), none, (.mov (.t 16))⟩] [3, 6, 7, 8]))) (.reg [⟨(some 17), none, (.bin .add (.t 8) (.k (.int .i64 ((1 : Nat) : Int))))⟩, ⟨(some 8), none, (.mov (.t 17))⟩] [3, 6, 7, 8]))))))) (.seq (.reg [⟨(some 18), none, (.mov (.t 3))⟩, ⟨(some 2), none, (.mov (.t 18))⟩] [2]) .ret))))
def rs31 : List RV := [(.t 2)]
theorem co31 : compFn Go.Proofs.Tryd.prog Go.Proofs.Tryd.f31 pl31 = some (ac31, rs31) := by kernel_rfl
theorem enter31 {args : List AV} {H : AHeap} {Q : AV → AHeap → Prop} (hn : args.length ≤ 19) (h : W Go.Proofs.Tryd.prog ac31 (retN rs31 Q) ⟨[], initE args 0, H⟩) : Run Go.Proofs.Tryd.prog 31 args H Q := Run_fn2 mixed Go.Proofs.Tryd.func31 (by kernel_rfl) co31 (n := 19) (by kernel_rfl) hn h
def ac35 : ACode := (.seq (.reg [⟨(some 4), none, (.alloc 28 0 [(.bool false), (.seq 0 [] true)])⟩] [0, 1, 4]) (.seq (.reg [⟨(some 5), none, (.mov (.t 0))⟩, ⟨(some 6), none, (.mov (.t 1))⟩, ⟨(some 7), none, (.call (.k (.fn (.func 138) [] [])) [(.t 6)])⟩, ⟨(some 8), none, (.call (.k (.fn (.func 137) [] [])) [(.t 5), (.t 7)])⟩, ⟨none, none, (.store 2 (.t 4) (.t 8))⟩] [4]) .ret))
def rs35 : List RV := [(.cell 4 (some 2))]
theorem co35 : compFn Go.Proofs.Tryd.prog Go.Proofs.Tryd.f35 pl35 = some (ac35, rs35) := by kernel_rfl
theorem enter35 {args : List AV} {H : AHeap} {Q : AV → AHeap → Prop} (hn : args.length ≤ 9) (h : W Go.Proofs.Tryd.prog ac35 (retN rs35 Q) ⟨[], initE args 0, H⟩) : Run Go.Proofs.Tryd.prog 35 args H Q := Run_fn2 mixed Go.Proofs.Tryd.func35 (by kernel_rfl) co35 (n := 9) (by kernel_rfl) hn h
def ac45 : ACode := (.seq (.reg [⟨(some 2), none, (.alloc 39 0 [(.bool false), (.seq 0 [] true)])⟩] [0, 2]) (.seq (.reg [⟨(some 5), none, (.mov (.t 0))⟩, ⟨(some 6), none, (.conv .u64 (.t 5))⟩, ⟨(some 3), none, (.mov (.t 6))⟩] [0, 2, 3]) (.seq (.seq (.reg [⟨(some 7), none, (.mov (.t 0))⟩, ⟨(some 8), none, (.bin .lss (.t 7) (.k (.int .i64 ((0 : Nat) : Int))))⟩] [0, 2, 3, 8]) (.cond (.t 8) (.reg [⟨(some 9), none, (.mov (.t 3))⟩, ⟨(some 10), none, (.un .neg (.t 9))⟩, ⟨(some 3), none, (.mov (.t 10))⟩] [0, 2, 3]) .skip)) (.seq (.reg [⟨(some 4), none, (.mov (.k (.seq 0 [] true)))⟩] [0, 2, 3, 4]) (.seq (.block 0 (.loop (.seq (.seq (.reg [⟨(some 11), none, (.mov (.t 3))⟩, ⟨(some 12), none, (.bin .gtr (.t 11) (.k (.int .u64 ((0 : Nat) : Int))))⟩] [0, 2, 3, 4, 12]) (.cond (.t 12) .skip (.exit 0))) (.block 1 (.seq (.reg [⟨(some 13), none, (.mov (.t 4))⟩, ⟨(some 14), none, (.mov (.t 3))⟩, ⟨(some 15), none, (.bin .rem (.t 14) (.k (.int .u64 ((65536 : Nat) : Int))))⟩, ⟨(some 16), none, (.conv .u32 (.t 15))⟩, ⟨(some 17), none, (.bsl [(.int .u32 ((0 : Nat) : Int))] 1 1 [(0, (1, (.t 16)))])⟩, ⟨(some 18), none, (.app 172 1 4 (.t 13) (.t 17))⟩, ⟨(some 4), none, (.mov (.t 18))⟩] [0, 2, 3, 4]) (.reg [⟨(some 19), none, (.mov (.t 3))⟩, ⟨(some 20), none, (.bin .quo (.t 19) (.k (.int .u64 ((65536 : Nat) : Int))))⟩, ⟨(some 3), none, (.mov (.t 20))⟩] [0, 2, 3, 4])))))) (.seq (.reg [⟨(some 21), none, (.mov (.t 0))⟩, ⟨(some 22), none, (.bin .lss (.t 21) (.k (.int .i64 ((0 : Nat) : Int))))⟩, ⟨(some 23), none, (.mov (.t 4))⟩, ⟨(some 24), none, (.call (.k (.fn (.func 139) [] [])) [(.t 22), (.t 23)])⟩, ⟨none, none, (.store 2 (.t 2) (.t 24))⟩] [2]) .ret))))))
def rs45 : List RV := [(.cell 2 (some 2))]
theorem co45 : compFn Go.Proofs.Tryd.prog Go.Proofs.Tryd.f45 pl45 = some (ac45, rs45) := by kernel_rfl
theorem enter45 {args : List AV} {H : AHeap} {Q : AV → AHeap → Prop} (hn : args.length ≤ 25) (h : W Go.Proofs.Tryd.prog ac45 (retN rs45 Q) ⟨[], initE args 0, H⟩) : Run Go.Proofs.Tryd.prog 45 args H Q := Run_fn2 mixed Go.Proofs.Tryd.func45 (by kernel_rfl) co45 (n := 25) (by kernel_rfl) hn h
def ac57 : ACode := (.seq (.reg [⟨(some 2), none, (.box 28 0 (.t 0))⟩, ⟨(some 3), none, (.box 28 0 (.t 1))⟩, ⟨(some 4), none, (.mov (.k (.int .i64 ((0 : Nat) : Int))))⟩] [2, 3]) (.seq (.block 0 (.seq (.reg [⟨(some 6), none, (.fldA 0 (.t 2))⟩, ⟨(some 7), none, (.load none (.t 6))⟩, ⟨(some 8), none, (.mov (.t 7))⟩, ⟨(some 9), (some (8, true)), (.fldA 0 (.t 3))⟩, ⟨(some 10), (some (8, true)), (.load none (.t 9))⟩, ⟨(some 11), none, (.pick (.t 8) (.t 10) (.k (.bool false)))⟩, ⟨(some 5), none, (.mov (.t 11))⟩] [2, 3, 5]) (.cond (.t 5) (.seq (.reg [⟨(some 12), none, (.fldA 1 (.t 3))⟩, ⟨(some 13), none, (.load none (.t 12))⟩, ⟨(some 14), none, (.fldA 1 (.t 2))⟩, ⟨(some 15), none, (.load none (.t 14))⟩, ⟨(some 16), none, (.call (.k (.fn (.func 148) [] [])) [(.t 13), (.t 15)])⟩, ⟨(some 4), none, (.mov (.t 16))⟩] [4]) .ret) (.seq (.reg [⟨(some 18), none, (.fldA 0 (.t 2))⟩, ⟨(some 19), none, (.load none (.t 18))⟩, ⟨(some 17), none, (.mov (.t 19))⟩] [2, 3, 17]) (.cond (.t 17) (.seq (.reg [⟨(some 4), none, (.mov (.k (.int .i64 (-1))))⟩] [4]) .ret) (.seq (.reg [⟨(some 21), none, (.fldA 0 (.t 3))⟩, ⟨(some 22), none, (.load none (.t 21))⟩, ⟨(some 20), none, (.mov (.t 22))⟩] [2, 3, 20]) (.cond (.t 20) (.seq (.reg [⟨(some 4), none, (.mov (.k (.int .i64 ((1 : Nat) : Int))))⟩] [4]) .ret) .skip))))))) (.seq (.reg [⟨(some 23), none, (.fldA 1 (.t 2))⟩, ⟨(some 24), none, (.load none (.t 23))⟩, ⟨(some 25), none, (.fldA 1 (.t 3))⟩, ⟨(some 26), none, (.load none (.t 25))⟩, ⟨(some 27), none, (.call (.k (.fn (.func 148) [] [])) [(.t 24), (.t 26)])⟩, ⟨(some 4), none, (.mov (.t 27))⟩] [4]) .ret)))
def rs57 : List RV := [(.t 4)]
theorem co57 : compFn Go.Proofs.Tryd.prog Go.Proofs.Tryd.f57 pl57 = some (ac57, rs57) := by kernel_rfl
theorem enter57 {args : List AV} {H : AHeap} {Q : AV → AHeap → Prop} (hn : args.length ≤ 28) (h : W Go.Proofs.Tryd.prog ac57 (retN rs57 Q) ⟨[], initE args 0, H⟩) : Run Go.Proofs.Tryd.prog 57 args H Q := Run_fn2 mixed Go.Proofs.Tryd.func57 (by kernel_rfl) co57 (n := 28) (by kernel_rfl) hn h
def ac58 : ACode := (.seq (.reg [⟨(some 2), none, (.alloc 28 0 [(.bool false), (.seq 0 [] true)])⟩] [0, 2]) (.seq (.reg [⟨(some 4), none, (.mov (.t 0))⟩, ⟨(some 5), none, (.conv .u64 (.t 4))⟩, ⟨(some 3), none, (.mov (.t 5))⟩] [0, 2, 3]) (.seq (.seq (.reg [⟨(some 6), none, (.mov (.t 0))⟩, ⟨(some 7), none, (.bin .lss (.t 6) (.k (.int .i64 ((0 : Nat) : Int))))⟩] [0, 2, 3, 7]) (.cond (.t 7) (.reg [⟨(some 8), none, (.mov (.t 3))⟩, ⟨(some 9), none, (.un .neg (.t 8))⟩, ⟨(some 3), none, (.mov (.t 9))⟩] [0, 2, 3]) .skip)) (.seq (.reg [⟨(some 10), none, (.mov (.t 0))⟩, ⟨(some 11), none, (.bin .lss (.t 10) (.k (.int .i64 ((0 : Nat) : Int))))⟩, ⟨(some 12), none, (.mov (.t 3))⟩, ⟨(some 13), none, (.conv .u32 (.t 12))⟩, ⟨(some 14), none, (.mov (.t 3))⟩, ⟨(some 15), none, (.bin .shr (.t 14) (.k (.int .u64 ((32 : Nat) : Int))))⟩, ⟨(some 16), none, (.conv .u32 (.t 15))⟩, ⟨(some 17), none, (.bsl [(.int .u32 ((0 : Nat) : Int))] 2 1 [(0, (1, (.t 13))), (1, (1, (.t 16)))])⟩, ⟨(some 18), none, (.call (.k (.fn (.func 35) [] [])) [(.t 11), (.t 17)])⟩, ⟨none, none, (.store 2 (.t 2) (.t 18))⟩] [2]) .ret))))
def rs58 : List RV := [(.cell 2 (some 2))]
theorem co58 : compFn Go.Proofs.Tryd.prog Go.Proofs.Tryd.f58 pl58 = some (ac58, rs58) := by kernel_rfl
theorem enter58 {args : List AV} {H : AHeap} {Q : AV → AHeap → Prop} (hn : args.length ≤ 19) (h : W Go.Proofs.Tryd.prog ac58 (retN rs58 Q) ⟨[], initE args 0, H⟩) : Run Go.Proofs.Tryd.prog 58 args H Q := Run_fn2 mixed Go.Proofs.Tryd.func58 (by kernel_rfl) co58 (n := 19) (by kernel_rfl) hn h
def ac68 : ACode := (.seq (.reg [⟨(some 4), none, (.mov (.k (.seq 0 [] true)))⟩] [0, 1]) (.seq (.reg [⟨(some 8), none, (.mov (.t 0))⟩, ⟨(some 9), none, (.mov (.t 1))⟩, ⟨(some 10), none, (.call (.k (.fn (.func 71) [] [])) [(.t 8), (.t 9)])⟩, ⟨(some 7), none, (.mov (.t 10))⟩, ⟨(some 11), none, (.ext (.t 7) 0)⟩, ⟨(some 12), none, (.ext (.t 7) 1)⟩, ⟨(some 5), none, (.mov (.t 11))⟩, ⟨(some 6), none, (.mov (.t 12))⟩] [5]) (.seq (.reg [⟨(some 13), none, (.mov (.t 5))⟩, ⟨(some 4), none, (.mov (.t 13))⟩] [4]) .ret)))
def rs68 : List RV := [(.t 4)]
theorem co68 : compFn Go.Proofs.Tryd.prog Go.Proofs.Tryd.f68 pl68 = some (ac68, rs68) := by kernel_rfl
theorem enter68 {args : List AV} {H : AHeap} {Q : AV → AHeap → Prop} (hn : args.length ≤ 14) (h : W Go.Proofs.Tryd.prog ac68 (retN rs68 Q) ⟨[], initE args 0, H⟩) : Run Go.Proofs.Tryd.prog 68 args H Q := Run_fn2 mixed Go.Proofs.Tryd.func68 (by kernel_rfl) co68 (n := 14) (by kernel_rfl) hn h
def ac70 : ACode := (.seq (.reg [⟨(some 2), none, (.mov (.k (.int .i64 ((0 : Nat) : Int))))⟩] [0]) (.scope0 (.seq (.reg [⟨(some 4), none, (.mov (.t 0))⟩, ⟨(some 5), none, (.len false (.t 4))⟩, ⟨(some 6), none, (.bin .sub (.t 5) (.k (.int .i64 ((1 : Nat) : Int))))⟩, ⟨(some 3), none, (.mov (.t 6))⟩] [0, 3]) (.seq .skip (.seq (.block 0 (.loop (.seq (.seq (.reg [⟨(some 7), none, (.mov (.t 3))⟩, ⟨(some 8), none, (.bin .geq (.t 7) (.k (.int .i64 ((0 : Nat) : Int))))⟩] [0, 3, 8]) (.cond (.t 8) .skip (.exit 0))) (.seq (.block 1 (.seq (.reg [⟨(some 11), none, (.mov (.t 0))⟩, ⟨(some 12), none, (.mov (.t 3))⟩, ⟨(some 13), none, (.idxA 2 (.t 11) (.t 12))⟩, ⟨(some 14), none, (.load (some 2) (.t 13))⟩, ⟨(some 15), none, (.call (.k (.fn (.func 27) [] [])) [(.t 14)])⟩, ⟨(some 16), none, (.bin .neq (.t 15) (.k (.int .i64 ((0 : Nat) : Int))))⟩] [0, 3, 16]) (.cond (.t 16) (.exit 0) .skip))) (.reg [⟨(some 9), none, (.mov (.t 3))⟩, ⟨(some 10), none, (.bin .sub (.t 9) (.k (.int .i64 ((1 : Nat) : Int))))⟩, ⟨(some 3), none, (.mov (.t 10))⟩] [0, 3]))))) (.seq (.reg [⟨(some 17), none, (.mov (.t 3))⟩, ⟨(some 2), none, (.mov (.t 17))⟩] [2]) .ret))))))
def rs70 : List RV := [(.t 2)]
theorem co70 : compFn Go.Proofs.Tryd.prog Go.Proofs.Tryd.f70 pl70 = some (ac70, rs70) := by kernel_rfl
theorem enter70 {args : List AV} {H : AHeap} {Q : AV → AHeap → Prop} (hn : args.length ≤ 18) (h : W Go.Proofs.Tryd.prog ac70 (retN rs70 Q) ⟨[], initE args 0, H⟩) : Run Go.Proofs.Tryd.prog 70 args H Q := Run_fn2 mixed Go.Proofs.Tryd.func70 (by kernel_rfl) co70 (n := 18) (by kernel_rfl) hn h
def ac71 : ACode := (.seq (.reg [⟨(some 4), none, (.mov (.k (.seq 0 [] true)))⟩, ⟨(some 5), none, (.mov (.k (.int .i64 ((0 : Nat) : Int))))⟩] [0, 1]) (.seq (.seq (.reg [⟨(some 12), none, (.mov (.t 0))⟩, ⟨(some 13), none, (.len false (.t 12))⟩, ⟨(some 14), none, (.bin .eql (.t 13) (.k (.int .i64 ((0 : Nat) : Int))))⟩, ⟨(some 15), none, (.mov (.t 14))⟩, ⟨(some 16), (some (15, false)), (.mov (.t 1))⟩, ⟨(some 17), (some (15, false)), (.len false (.t 16))⟩, ⟨(some 18), (some (15, false)), (.bin .eql (.t 17) (.k (.int .i64 ((0 : Nat) : Int))))⟩, ⟨(some 19), none, (.pick (.t 15) (.k (.bool true)) (.t 18))⟩] [0, 1, 19]) (.cond (.t 19) (.seq (.reg [⟨(some 4), none, (.mov (.k (.seq 0 [] true)))⟩, ⟨(some 5), none, (.mov (.k (.int .i64 ((0 : Nat) : Int))))⟩] [4, 5]) .ret) .skip)) (.seq (.reg [⟨(some 20), none, (.mov (.t 0))⟩, ⟨(some 21), none, (.len false (.t 20))⟩, ⟨(some 22), none, (.mov (.t 1))⟩, ⟨(some 23), none, (.len false (.t 22))⟩, ⟨(some 24), none, (.bin .add (.t 21) (.t 23))⟩, ⟨(some 25), none, (.bin .sub (.t 24) (.k (.int .i64 ((1 : Nat) : Int))))⟩, ⟨(some 26), none, (.mks 28 2 32 [(.bool false), (.seq 0 [] true)] (.t 25) (.t 25))⟩, ⟨(some 6), none, (.mov (.t 26))⟩] [0, 1, 6]) (.seq (.reg [⟨(some 7), none, (.mov (.k (.int .i64 ((0 : Nat) : Int))))⟩] [0, 1, 6, 7]) (.seq (.seq (.reg [⟨(some 27), none, (.mov (.t 0))⟩, ⟨(some 28), none, (.len false (.t 27))⟩, ⟨(some 29), none, (.mov (.k (.int .i64 ((0 : Nat) : Int))))⟩] [1, 6, 7, 27, 28, 29]) (.block 0 (.loop (.seq (.reg [⟨(some 30), none, (.bin .lss (.t 29) (.t 28))⟩] [1, 6, 7, 27, 28, 29, 30]) (.seq (.cond (.t 30) .skip (.exit 0)) (.seq (.block 1 (.seq (.reg [⟨(some 31), none, (.mov (.t 29))⟩, ⟨(some 32), none, (.idxA 2 (.t 27) (.t 29))⟩, ⟨(some 33), none, (.load (some 2) (.t 32))⟩, ⟨(some 9), none, (.alloc 28 0 [(.bool false), (.seq 0 [] true)])⟩, ⟨(some 8), none, (.mov (.t 31))⟩, ⟨none, none, (.store 2 (.t 9) (.t 33))⟩] [1, 6, 7, 8, 9, 27, 28, 29]) (.seq (.reg [⟨(some 34), none, (.mov (.t 1))⟩, ⟨(some 35), none, (.len false (.t 34))⟩, ⟨(some 36), none, (.mov (.k (.int .i64 ((0 : Nat) : Int))))⟩] [1, 6, 7, 8, 9, 27, 28, 29, 34, 35, 36]) (.block 2 (.loop (.seq (.reg [⟨(some 37), none, (.bin .lss (.t 36) (.t 35))⟩] [1, 6, 7, 8, 9, 27, 28, 29, 34, 35, 36, 37]) (.seq (.cond (.t 37) .skip (.exit 2)) (.seq (.block 3 (.seq (.reg [⟨(some 38), none, (.mov (.t 36))⟩, ⟨(some 39), none, (.idxA 2 (.t 34) (.t 36))⟩, ⟨(some 40), none, (.load (some 2) (.t 39))⟩, ⟨(some 11), none, (.alloc 28 0 [(.bool false), (.seq 0 [] true)])⟩, ⟨(some 10), none, (.mov (.t 38))⟩, ⟨none, none, (.store 2 (.t 11) (.t 40))⟩] [1, 6, 7, 8, 9, 10, 11, 27, 28, 29, 34, 35, 36]) (.seq (.draw [⟨(some 41), none, (.mov (.t 6))⟩, ⟨(some 42), none, (.mov (.t 8))⟩, ⟨(some 43), none, (.mov (.t 10))⟩, ⟨(some 44), none, (.bin .add (.t 42) (.t 43))⟩, ⟨(some 45), none, (.mov (.t 6))⟩, ⟨(some 46), none, (.mov (.t 8))⟩, ⟨(some 47), none, (.mov (.t 10))⟩, ⟨(some 48), none, (.bin .add (.t 46) (.t 47))⟩, ⟨(some 49), none, (.idxA 2 (.t 45) (.t 48))⟩, ⟨(some 50), none, (.load (some 2) (.t 49))⟩, ⟨(some 51), none, (.load (some 2) (.t 9))⟩, ⟨(some 52), none, (.load (some 2) (.t 11))⟩, ⟨(some 53), none, (.call (.k (.fn (.func 89) [] [])) [(.t 51), (.t 52)])⟩, ⟨(some 54), none, (.call (.k (.fn (.func 121) [] [])) [(.t 50), (.t 53)])⟩] [⟨(some 55), none, (.idxA 2 (.t 41) (.t 44))⟩, ⟨none, none, (.store 2 (.t 55) (.t 54))⟩] [0, 1, 3, 1, 15, 31, 63, 31, 15, 15, 1023, 2047, 1023, 15] [1, 6, 7, 8, 9, 27, 28, 29, 34, 35, 36]) (.reg [⟨(some 56), none, (.mov (.t 7))⟩, ⟨(some 57), none, (.bin .add (.t 56) (.k (.int .i64 ((1 : Nat) : Int))))⟩, ⟨(some 7), none, (.mov (.t 57))⟩] [1, 6, 7, 8, 9, 27, 28, 29, 34, 35, 36])))) (.reg [⟨(some 58), none, (.bin .add (.t 36) (.k (.int .i64 ((1 : Nat) : Int))))⟩, ⟨(some 36), none, (.mov (.t 58))⟩] [1, 6, 7, 8, 9, 27, 28, 29, 34, 35, 36]))))))))) (.reg [⟨(some 59), none, (.bin .add (.t 29) (.k (.int .i64 ((1 : Nat) : Int))))⟩, ⟨(some 29), none, (.mov (.t 59))⟩] [1, 6, 7, 27, 28, 29]))))))) (.seq (.reg [⟨(some 60), none, (.mov (.t 6))⟩, ⟨(some 61), none, (.mov (.t 7))⟩, ⟨(some 4), none, (.mov (.t 60))⟩, ⟨(some 5), none, (.mov (.t 61))⟩] [4, 5]) .ret))))))
def rs71 : List RV := [(.t 4), (.t 5)]
theorem co71 : compFn Go.Proofs.Tryd.prog Go.Proofs.Tryd.f71 pl71 = some (ac71, rs71) := by kernel_rfl
theorem enter71 {args : List AV} {H : AHeap} {Q : AV → AHeap → Prop} (hn : args.length ≤ 62) (h : W Go.Proofs.Tryd.prog ac71 (retN rs71 Q) ⟨[], initE args 0, H⟩) : Run Go.Proofs.Tryd.prog 71 args H Q := Run_fn2 mixed Go.Proofs.Tryd.func71 (by kernel_rfl) co71 (n := 62) (by kernel_rfl) hn h
def ac72 : ACode := (.seq (.reg [⟨(some 4), none, (.mov (.k (.seq 0 [] true)))⟩, ⟨(some 5), none, (.mov (.k (.int .i64 ((0 : Nat) : Int))))⟩] [0, 1]) (.seq (.seq (.reg [⟨(some 6), none, (.mov (.t 1))⟩, ⟨(some 7), none, (.bin .lss (.t 6) (.k (.int .i64 ((0 : Nat) : Int))))⟩] [0, 1, 7]) (.cond (.t 7) (.seq (.reg [⟨(some 4), none, (.mov (.k (.seq 0 [] true)))⟩, ⟨(some 5), none, (.mov (.k (.int .i64 ((2 : Nat) : Int))))⟩] [4, 5]) .ret) .skip)) (.seq (.seq (.reg [⟨(some 8), none, (.mov (.t 1))⟩, ⟨(some 9), none, (.bin .gtr (.t 8) (.k (.int .i64 ((4096 : Nat) : Int))))⟩] [0, 1, 9]) (.cond (.t 9) (.seq (.reg [⟨(some 4), none, (.mov (.k (.seq 0 [] true)))⟩, ⟨(some 5), none, (.mov (.k (.int .i64 ((3 : Nat) : Int))))⟩] [4, 5]) .ret) .skip)) (.seq (.seq (.reg [⟨(some 10), none, (.mov (.t 1))⟩, ⟨(some 11), none, (.mov (.t 0))⟩, ⟨(some 12), none, (.len false (.t 11))⟩, ⟨(some 13), none, (.bin .add (.t 10) (.t 12))⟩, ⟨(some 14), none, (.bin .eql (.t 13) (.k (.int .i64 ((0 : Nat) : Int))))⟩] [0, 1, 14]) (.cond (.t 14) (.seq (.reg [⟨(some 4), none, (.mov (.k (.seq 0 [] true)))⟩, ⟨(some 5), none, (.mov (.k (.int .i64 ((0 : Nat) : Int))))⟩] [4, 5]) .ret) .skip)) (.seq (.reg [⟨(some 15), none, (.mov (.t 1))⟩, ⟨(some 16), none, (.mov (.t 1))⟩, ⟨(some 17), none, (.mov (.t 0))⟩, ⟨(some 18), none, (.len false (.t 17))⟩, ⟨(some 19), none, (.bin .add (.t 16) (.t 18))⟩, ⟨(some 20), none, (.mks 28 2 32 [(.bool false), (.seq 0 [] true)] (.t 15) (.t 19))⟩, ⟨(some 21), none, (.mov (.t 0))⟩, ⟨(some 22), none, (.app 28 2 32 (.t 20) (.t 21))⟩, ⟨(some 4), none, (.mov (.t 22))⟩, ⟨(some 5), none, (.mov (.k (.int .i64 ((0 : Nat) : Int))))⟩] [4, 5]) .ret)))))
def rs72 : List RV := [(.t 4), (.t 5)]
theorem co72 : compFn Go.Proofs.Tryd.prog Go.Proofs.Tryd.f72 pl72 = some (ac72, rs72) := by kernel_rfl
theorem enter72 {args : List AV} {H : AHeap} {Q : AV → AHeap → Prop} (hn : args.length ≤ 23) (h : W Go.Proofs.Tryd.prog ac72 (retN rs72 Q) ⟨[], initE args 0, H⟩) : Run Go.Proofs.Tryd.prog 72 args H Q := Run_fn2 mixed Go.Proofs.Tryd.func72 (by kernel_rfl) co72 (n := 23) (by kernel_rfl) hn h
def ac73 : ACode := (.seq (.reg [⟨(some 4), none, (.mov (.k (.bool false)))⟩] [0, 1]) (.seq (.reg [⟨(some 5), none, (.mov (.t 0))⟩, ⟨(some 6), none, (.mov (.t 1))⟩, ⟨(some 7), none, (.call (.k (.fn (.func 154) [] [])) [(.t 5), (.t 6), (.k (.fn (.func 155) [] []))])⟩, ⟨(some 4), none, (.mov (.t 7))⟩] [4]) .ret))
def rs73 : List RV := [(.t 4)]
theorem co73 : compFn Go.Proofs.Tryd.prog Go.Proofs.Tryd.f73 pl73 = some (ac73, rs73) := by kernel_rfl
theorem enter73 {args : List AV} {H : AHeap} {Q : AV → AHeap → Prop} (hn : args.length ≤ 8) (h : W Go.Proofs.Tryd.prog ac73 (retN rs73 Q) ⟨[], initE args 0, H⟩) : Run Go.Proofs.Tryd.prog 73 args H Q := Run_fn2 mixed Go.Proofs.Tryd.func73 (by kernel_rfl) co73 (n := 8) (by kernel_rfl) hn h
def ac86 : ACode := (.seq (.reg [⟨(some 2), none, (.mov (.k (.str ⟨#[]⟩)))⟩] [0]) (.seq (.reg [⟨(some 3), none, (.mov (.k (.seq 0 [] true)))⟩] [0, 3]) (.seq (.seq (.reg [⟨(some 6), none, (.mov (.t 0))⟩, ⟨(some 7), none, (.len false (.t 6))⟩, ⟨(some 8), none, (.mov (.k (.int .i64 ((0 : Nat) : Int))))⟩] [3, 6, 7, 8]) (.block 0 (.loop (.seq (.reg [⟨(some 9), none, (.bin .lss (.t 8) (.t 7))⟩] [3, 6, 7, 8, 9]) (.seq (.cond (.t 9) .skip (.exit 0)) (.seq (.block 1 (.seq (.reg [⟨(some 10), none, (.idxA 2 (.t 6) (.t 8))⟩, ⟨(some 11), none, (.load (some 2) (.t 10))⟩, ⟨(some 5), none, (.alloc 28 0 [(.bool false), (.seq 0 [] true)])⟩, ⟨none, none, (.store 2 (.t 5) (.t 11))⟩] [3, 5, 6, 7, 8]) (.reg [⟨(some 12), none, (.mov (.t 3))⟩, ⟨(some 13), none, (.load (some 2) (.t 5))⟩, ⟨(some 14), none, (.call (.k (.fn (.func 28) [] [])) [(.t 13)])⟩, ⟨(some 15), none, (.bsl [(.str ⟨#[]⟩)] 1 1 [(0, (1, (.t 14)))])⟩, ⟨(some 16), none, (.app 9 1 16 (.t 12) (.t 15))⟩, ⟨(some 3), none, (.mov (.t 16))⟩] [3, 6, 7, 8]))) (.reg [⟨(some 17), none, (.bin .add (.t 8) (.k (.int .i64 ((1 : Nat) : Int))))⟩, ⟨(some 8), none, (.mov (.t 17))⟩] [3, 6, 7, 8]))))))) (.seq (.reg [⟨(some 18), none, (.mov (.t 3))⟩, ⟨(some 19), none, (.call (.k (.fn (.func 168) [] [])) [(.t 18), (.k (.str ⟨#[32]⟩))])⟩, ⟨(some 20), none, (.bin .add (.k (.str ⟨#[91]⟩)) (.t 19))⟩, ⟨(some 21), none, (.bin .add (.t 20) (.k (.str ⟨#[93]⟩)))⟩, ⟨(some 2), none, (.mov (.t 21))⟩] [2]) .ret))))
def rs86 : List RV := [(.t 2)]
theorem co86 : compFn Go.Proofs.Tryd.prog Go.Proofs.Tryd.f86 pl86 = some (ac86, rs86) := by kernel_rfl
theorem enter86 {args : List AV} {H : AHeap} {Q : AV → AHeap → Prop} (hn : args.length ≤ 22) (h : W Go.Proofs.Tryd.prog ac86 (retN rs86 Q) ⟨[], initE args 0, H⟩) : Run Go.Proofs.Tryd.prog 86 args H Q := Run_fn2 mixed Go.Proofs.Tryd.func86 (by kernel_rfl) co86 (n := 22) (by kernel_rfl) hn h
def ac87 : ACode := (.seq (.reg [⟨(some 1), none, (.box 24 0 (.t 0))⟩, ⟨(some 2), none, (.mov (.k (.bool false)))⟩] [1]) (.seq (.reg [⟨(some 3), none, (.fldA 0 (.t 1))⟩, ⟨(some 4), none, (.load none (.t 3))⟩, ⟨(some 5), none, (.call (.k (.fn (.func 169) [] [])) [(.t 4)])⟩, ⟨(some 6), none, (.mov (.t 5))⟩, ⟨(some 7), (some (6, true)), (.fldA 1 (.t 1))⟩, ⟨(some 8), (some (6, true)), (.load none (.t 7))⟩, ⟨(some 9), (some (6, true)), (.call (.k (.fn (.func 169) [] [])) [(.t 8)])⟩, ⟨(some 10), none, (.pick (.t 6) (.t 9) (.k (.bool false)))⟩, ⟨(some 2), none, (.mov (.t 10))⟩] [2]) .ret))
def rs87 : List RV := [(.t 2)]
theorem co87 : compFn Go.Proofs.Tryd.prog Go.Proofs.Tryd.f87 pl87 = some (ac87, rs87) := by kernel_rfl
theorem enter87 {args : List AV} {H : AHeap} {Q : AV → AHeap → Prop} (hn : args.length ≤ 11) (h : W Go.Proofs.Tryd.prog ac87 (retN rs87 Q) ⟨[], initE args 0, H⟩) : Run Go.Proofs.Tryd.prog 87 args H Q := Run_fn2 mixed Go.Proofs.Tryd.func87 (by kernel_rfl) co87 (n := 11) (by kernel_rfl) hn h
def ac88 : ACode := (.seq (.reg [⟨(some 2), none, (.box 28 0 (.t 0))⟩, ⟨(some 4), none, (.alloc 28 0 [(.bool false), (.seq 0 [] true)])⟩, ⟨(some 5), none, (.mov (.k (.int .i64 ((0 : Nat) : Int))))⟩] [1, 2, 4]) (.seq (.block 0 (.seq (.reg [⟨(some 8), none, (.mov (.t 1))⟩, ⟨(some 9), none, (.bin .lss (.t 8) (.k (.int .i64 ((0 : Nat) : Int))))⟩, ⟨(some 7), none, (.mov (.t 9))⟩] [1, 2, 4, 7]) (.cond (.t 7) (.seq (.reg [⟨(some 10), none, (.build [(.bool false), (.seq 0 [] true)] [])⟩, ⟨none, none, (.store 2 (.t 4) (.t 10))⟩, ⟨(some 5), none, (.mov (.k (.int .i64 ((2 : Nat) : Int))))⟩] [4, 5]) .ret) (.seq (.reg [⟨(some 12), none, (.load (some 2) (.t 2))⟩, ⟨(some 13), none, (.call (.k (.fn (.func 170) [] [])) [(.t 12)])⟩, ⟨(some 14), none, (.bin .gtr (.t 13) (.k (.int .i64 ((0 : Nat) : Int))))⟩, ⟨(some 15), none, (.mov (.t 14))⟩, ⟨(some 16), (some (15, true)), (.mov (.t 1))⟩, ⟨(some 17), (some (15, true)), (.load (some 2) (.t 2))⟩, ⟨(some 18), (some (15, true)), (.call (.k (.fn (.func 170) [] [])) [(.t 17)])⟩, ⟨(some 19), (some (15, true)), (.bin .quo (.k (.int .i64 ((65536 : Nat) : Int))) (.t 18))⟩, ⟨(some 20), (some (15, true)), (.bin .gtr (.t 16) (.t 19))⟩, ⟨(some 21), none, (.pick (.t 15) (.t 20) (.k (.bool false)))⟩, ⟨(some 11), none, (.mov (.t 21))⟩] [1, 2, 4, 11]) (.cond (.t 11) (.seq (.reg [⟨(some 22), none, (.build [(.bool false), (.seq 0 [] true)] [])⟩, ⟨none, none, (.store 2 (.t 4) (.t 22))⟩, ⟨(some 5), none, (.mov (.k (.int .i64 ((3 : Nat) : Int))))⟩] [4, 5]) .ret) .skip))))) (.seq (.reg [⟨(some 23), none, (.call (.k (.fn (.func 58) [] [])) [(.k (.int .i64 ((1 : Nat) : Int)))])⟩, ⟨(some 6), none, (.alloc 28 0 [(.bool false), (.seq 0 [] true)])⟩, ⟨none, none, (.store 2 (.t 6) (.t 23))⟩] [1, 2, 4, 6]) (.seq (.seq (.reg [⟨(some 24), none, (.load (some 2) (.t 2))⟩, ⟨(some 25), none, (.call (.k (.fn (.func 27) [] [])) [(.t 24)])⟩, ⟨(some 26), none, (.bin .eql (.t 25) (.k (.int .i64 ((0 : Nat) : Int))))⟩, ⟨(some 27), none, (.mov (.t 26))⟩, ⟨(some 28), (some (27, false)), (.load (some 2) (.t 2))⟩, ⟨(some 29), (some (27, false)), (.call (.k (.fn (.func 170) [] [])) [(.t 28)])⟩, ⟨(some 30), (some (27, false)), (.bin .eql (.t 29) (.k (.int .i64 ((1 : Nat) : Int))))⟩, ⟨(some 31), none, (.pick (.t 27) (.k (.bool true)) (.t 30))⟩] [1, 2, 4, 6, 31]) (.cond (.t 31) (.seq (.block 1 (.seq (.reg [⟨(some 34), none, (.mov (.t 1))⟩, ⟨(some 35), none, (.bin .eql (.t 34) (.k (.int .i64 ((0 : Nat) : Int))))⟩, ⟨(some 33), none, (.mov (.t 35))⟩] [1, 2, 4, 6, 33]) (.cond (.t 33) .skip (.seq (.reg [⟨(some 37), none, (.fldA 0 (.t 2))⟩, ⟨(some 38), none, (.load none (.t 37))⟩, ⟨(some 39), none, (.mov (.t 38))⟩, ⟨(some 40), (some (39, true)), (.mov (.t 1))⟩, ⟨(some 41), (some (39, true)), (.bin .rem (.t 40) (.k (.int .i64 ((2 : Nat) : Int))))⟩, ⟨(some 42), (some (39, true)), (.bin .eql (.t 41) (.k (.int .i64 ((0 : Nat) : Int))))⟩, ⟨(some 43), none, (.pick (.t 39) (.t 42) (.k (.bool false)))⟩, ⟨(some 36), none, (.mov (.t 43))⟩] [2, 4, 6, 36]) (.cond (.t 36) .skip (.reg [⟨(some 32), none, (.load (some 2) (.t 2))⟩, ⟨none, none, (.store 2 (.t 6) (.t 32))⟩] [4, 6])))))) (.seq (.reg [⟨(some 44), none, (.load (some 2) (.t 6))⟩, ⟨none, none, (.store 2 (.t 4) (.t 44))⟩, ⟨(some 5), none, (.mov (.k (.int .i64 ((0 : Nat) : Int))))⟩] [4, 5]) .ret)) .skip)) (.seq (.block 2 (.loop (.seq (.seq (.reg [⟨(some 45), none, (.mov (.t 1))⟩, ⟨(some 46), none, (.bin .gtr (.t 45) (.k (.int .i64 ((0 : Nat) : Int))))⟩] [1, 2, 4, 6, 46]) (.cond (.t 46) .skip (.exit 2))) (.seq (.block 3 (.reg [⟨(some 49), none, (.load (some 2) (.t 6))⟩, ⟨(some 50), none, (.load (some 2) (.t 2))⟩, ⟨(some 51), none, (.call (.k (.fn (.func 89) [] [])) [(.t 49), (.t 50)])⟩, ⟨none, none, (.store 2 (.t 6) (.t 51))⟩] [1, 2, 4, 6])) (.reg [⟨(some 47), none, (.mov (.t 1))⟩, ⟨(some 48), none, (.bin .sub (.t 47) (.k (.int .i64 ((1 : Nat) : Int))))⟩, ⟨(some 1), none, (.mov (.t 48))⟩] [1, 2, 4, 6]))))) (.seq (.reg [⟨(some 52), none, (.load (some 2) (.t 6))⟩, ⟨none, none, (.store 2 (.t 4) (.t 52))⟩, ⟨(some 5), none, (.mov (.k (.int .i64 ((0 : Nat) : Int))))⟩] [4, 5]) .ret))))))
def rs88 : List RV := [(.cell 4 (some 2)), (.t 5)]
theorem co88 : compFn Go.Proofs.Tryd.prog Go.Proofs.Tryd.f88 pl88 = some (ac88, rs88) := by kernel_rfl
theorem enter88 {args : List AV} {H : AHeap} {Q : AV → AHeap → Prop} (hn : args.length ≤ 53) (h : W Go.Proofs.Tryd.prog ac88 (retN rs88 Q) ⟨[], initE args 0, H⟩) : Run Go.Proofs.Tryd.prog 88 args H Q := Run_fn2 mixed Go.Proofs.Tryd.func88 (by kernel_rfl) co88 (n := 53) (by kernel_rfl) hn h
def ac89 : ACode := (.seq (.reg [⟨(some 2), none, (.box 28 0 (.t 0))⟩, ⟨(some 3), none, (.box 28 0 (.t 1))⟩, ⟨(some 4), none, (.alloc 28 0 [(.bool false), (.seq 0 [] true)])⟩] [2, 3, 4]) (.seq (.draw [⟨(some 5), none, (.fldA 0 (.t 2))⟩, ⟨(some 6), none, (.load none (.t 5))⟩, ⟨(some 7), none, (.fldA 0 (.t 3))⟩, ⟨(some 8), none, (.load none (.t 7))⟩, ⟨(some 9), none, (.binB .neq (.t 6) (.t 8))⟩, ⟨(some 10), none, (.fldA 1 (.t 2))⟩, ⟨(some 11), none, (.load none (.t 10))⟩, ⟨(some 12), none, (.fldA 1 (.t 3))⟩, ⟨(some 13), none, (.load none (.t 12))⟩, ⟨(some 14), none, (.call (.k (.fn (.func 171) [] [])) [(.t 11), (.t 13)])⟩] [⟨(some 15), none, (.call (.k (.fn (.func 137) [] [])) [(.t 9), (.t 14)])⟩, ⟨none, none, (.store 2 (.t 4) (.t 15))⟩] [0, 0, 3, 3, 0, 31, 31, 127, 127, 31] [4]) .ret))
def rs89 : List RV := [(.cell 4 (some 2))]
theorem co89 : compFn Go.Proofs.Tryd.prog Go.Proofs.Tryd.f89 pl89 = some (ac89, rs89) := by kernel_rfl
theorem enter89 {args : List AV} {H : AHeap} {Q : AV → AHeap → Prop} (hn : args.length ≤ 16) (h : W Go.Proofs.Tryd.prog ac89 (retN rs89 Q) ⟨[], initE args 0, H⟩) : Run Go.Proofs.Tryd.prog 89 args H Q := Run_fn2 mixed Go.Proofs.Tryd.func89 (by kernel_rfl) co89 (n := 16) (by kernel_rfl) hn h
def ac93 : ACode := (.seq (.reg [⟨(some 2), none, (.mov (.k (.str ⟨#[]⟩)))⟩] [0]) (.seq (.reg [⟨(some 3), none, (.mov (.t 0))⟩, ⟨(some 4), none, (.call (.k (.fn (.func 86) [] [])) [(.t 3)])⟩, ⟨(some 2), none, (.mov (.t 4))⟩] [2]) .ret))
def rs93 : List RV := [(.t 2)]
theorem co93 : compFn Go.Proofs.Tryd.prog Go.Proofs.Tryd.f93 pl93 = some (ac93, rs93) := by kernel_rfl
theorem enter93 {args : List AV} {H : AHeap} {Q : AV → AHeap → Prop} (hn : args.length ≤ 5) (h : W Go.Proofs.Tryd.prog ac93 (retN rs93 Q) ⟨[], initE args 0, H⟩) : Run Go.Proofs.Tryd.prog 93 args H Q := Run_fn2 mixed Go.Proofs.Tryd.func93 (by kernel_rfl) co93 (n := 5) (by kernel_rfl) hn h
def ac121 : ACode := (.seq (.reg [⟨(some 2), none, (.box 28 0 (.t 0))⟩, ⟨(some 3), none, (.box 28 0 (.t 1))⟩, ⟨(some 4), none, (.alloc 28 0 [(.bool false), (.seq 0 [] true)])⟩] [2, 3, 4]) (.seq (.seq (.reg [⟨(some 7), none, (.fldA 0 (.t 2))⟩, ⟨(some 8), none, (.load none (.t 7))⟩, ⟨(some 9), none, (.fldA 0 (.t 3))⟩, ⟨(some 10), none, (.load none (.t 9))⟩, ⟨(some 11), none, (.binB .eql (.t 8) (.t 10))⟩] [2, 3, 4, 11]) (.cond (.t 11) (.seq (.draw [⟨(some 12), none, (.fldA 0 (.t 2))⟩, ⟨(some 13), none, (.load none (.t 12))⟩, ⟨(some 14), none, (.fldA 1 (.t 2))⟩, ⟨(some 15), none, (.load none (.t 14))⟩, ⟨(some 16), none, (.fldA 1 (.t 3))⟩, ⟨(some 17), none, (.load none (.t 16))⟩, ⟨(some 18), none, (.call (.k (.fn (.func 186) [] [])) [(.t 15), (.t 17)])⟩] [⟨(some 19), none, (.call (.k (.fn (.func 137) [] [])) [(.t 13), (.t 18)])⟩, ⟨none, none, (.store 2 (.t 4) (.t 19))⟩] [0, 0, 3, 3, 15, 15, 3] [4]) .ret) .skip)) (.seq (.seq (.reg [⟨(some 20), none, (.fldA 1 (.t 2))⟩, ⟨(some 21), none, (.load none (.t 20))⟩, ⟨(some 22), none, (.fldA 1 (.t 3))⟩, ⟨(some 23), none, (.load none (.t 22))⟩, ⟨(some 24), none, (.call (.k (.fn (.func 148) [] [])) [(.t 21), (.t 23)])⟩, ⟨(some 25), none, (.bin .lss (.t 24) (.k (.int .i64 ((0 : Nat) : Int))))⟩] [2, 3, 4, 25]) (.cond (.t 25) (.reg [⟨(some 26), none, (.load (some 2) (.t 3))⟩, ⟨(some 27), none, (.load (some 2) (.t 2))⟩, ⟨none, none, (.store 2 (.t 2) (.t 26))⟩, ⟨none, none, (.store 2 (.t 3) (.t 27))⟩] [2, 3, 4]) .skip)) (.seq (.reg [⟨(some 29), none, (.fldA 1 (.t 2))⟩, ⟨(some 30), none, (.load none (.t 29))⟩, ⟨(some 31), none, (.fldA 1 (.t 3))⟩, ⟨(some 32), none, (.load none (.t 31))⟩, ⟨(some 33), none, (.call (.k (.fn (.func 187) [] [])) [(.t 30), (.t 32)])⟩, ⟨(some 28), none, (.mov (.t 33))⟩, ⟨(some 34), none, (.ext (.t 28) 0)⟩, ⟨(some 35), none, (.ext (.t 28) 1)⟩, ⟨(some 5), none, (.mov (.t 34))⟩, ⟨(some 6), none, (.mov (.t 35))⟩] [2, 4, 5]) (.seq (.reg [⟨(some 36), none, (.fldA 0 (.t 2))⟩, ⟨(some 37), none, (.load none (.t 36))⟩, ⟨(some 38), none, (.mov (.t 5))⟩, ⟨(some 39), none, (.call (.k (.fn (.func 137) [] [])) [(.t 37), (.t 38)])⟩, ⟨none, none, (.store 2 (.t 4) (.t 39))⟩] [4]) .ret)))))
def rs121 : List RV := [(.cell 4 (some 2))]
theorem co121 : compFn Go.Proofs.Tryd.prog Go.Proofs.Tryd.f121 pl121 = some (ac121, rs121) := by kernel_rfl
theorem enter121 {args : List AV} {H : AHeap} {Q : AV → AHeap → Prop} (hn : args.length ≤ 40) (h : W Go.Proofs.Tryd.prog ac121 (retN rs121 Q) ⟨[], initE args 0, H⟩) : Run Go.Proofs.Tryd.prog 121 args H Q := Run_fn2 mixed Go.Proofs.Tryd.func121 (by kernel_rfl) co121 (n := 40) (by kernel_rfl) hn h
def ac131 : ACode := (.seq (.reg [⟨(some 2), none, (.box 28 0 (.t 0))⟩, ⟨(some 4), none, (.alloc 28 0 [(.bool false), (.seq 0 [] true)])⟩] [1, 2, 4]) (.seq (.draw [⟨(some 5), none, (.load (some 2) (.t 2))⟩, ⟨(some 6), none, (.mov (.t 1))⟩, ⟨(some 7), none, (.call (.k (.fn (.func 58) [] [])) [(.t 6)])⟩] [⟨(some 8), none, (.call (.k (.fn (.func 89) [] [])) [(.t 5), (.t 7)])⟩, ⟨none, none, (.store 2 (.t 4) (.t 8))⟩] [0, 1, 1] [4]) .ret))
def rs131 : List RV := [(.cell 4 (some 2))]
theorem co131 : compFn Go.Proofs.Tryd.prog Go.Proofs.Tryd.f131 pl131 = some (ac131, rs131) := by kernel_rfl
theorem enter131 {args : List AV} {H : AHeap} {Q : AV → AHeap → Prop} (hn : args.length ≤ 9) (h : W Go.Proofs.Tryd.prog ac131 (retN rs131 Q) ⟨[], initE args 0, H⟩) : Run Go.Proofs.Tryd.prog 131 args H Q := Run_fn2 mixed Go.Proofs.Tryd.func131 (by kernel_rfl) co131 (n := 9) (by kernel_rfl) hn h
def ac132 : ACode := (.seq (.reg [⟨(some 2), none, (.mov (.k .nilF))⟩] [0]) (.seq (.reg [⟨(some 4), none, (.mov (.t 0))⟩, ⟨(some 5), none, (.call (.k (.fn (.func 190) [] [])) [(.t 4)])⟩, ⟨(some 3), none, (.alloc 9 0 [(.str ⟨#[]⟩)])⟩, ⟨none, none, (.store 1 (.t 3) (.t 5))⟩] [3]) (.seq (.reg [⟨(some 6), none, (.mkF (.func 191) [] [(.t 3)])⟩, ⟨(some 2), none, (.mov (.t 6))⟩] [2]) .ret)))
def rs132 : List RV := [(.t 2)]
theorem co132 : compFn Go.Proofs.Tryd.prog Go.Proofs.Tryd.f132 pl132 = some (ac132, rs132) := by kernel_rfl
theorem enter132 {args : List AV} {H : AHeap} {Q : AV → AHeap → Prop} (hn : args.length ≤ 7) (h : W Go.Proofs.Tryd.prog ac132 (retN rs132 Q) ⟨[], initE args 0, H⟩) : Run Go.Proofs.Tryd.prog 132 args H Q := Run_fn2 mixed Go.Proofs.Tryd.func132 (by kernel_rfl) co132 (n := 7) (by kernel_rfl) hn h
def ac133 : ACode := (.seq (.reg [⟨(some 4), none, (.mov (.k (.seq 0 [] true)))⟩, ⟨(some 5), none, (.mov (.k (.seq 0 [] true)))⟩] [0, 1]) (.seq (.seq (.reg [⟨(some 14), none, (.mov (.t 1))⟩, ⟨(some 15), none, (.len false (.t 14))⟩, ⟨(some 16), none, (.bin .eql (.t 15) (.k (.int .i64 ((1 : Nat) : Int))))⟩] [0, 1, 16]) (.cond (.t 16) (.seq (.reg [⟨(some 17), none, (.mov (.t 0))⟩, ⟨(some 18), none, (.len false (.t 17))⟩, ⟨(some 19), none, (.mks 172 1 4 [(.int .u32 ((0 : Nat) : Int))] (.t 18) (.t 18))⟩, ⟨(some 6), none, (.mov (.t 19))⟩] [0, 1, 6]) (.seq (.reg [⟨(some 7), none, (.mov (.k (.int .u64 ((0 : Nat) : Int))))⟩] [0, 1, 6, 7]) (.seq (.seq (.reg [⟨(some 20), none, (.mov (.t 0))⟩, ⟨(some 21), none, (.len false (.t 20))⟩, ⟨(some 22), none, (.bin .sub (.t 21) (.k (.int .i64 ((1 : Nat) : Int))))⟩, ⟨(some 8), none, (.mov (.t 22))⟩] [0, 1, 6, 7, 8]) (.block 0 (.loop (.seq (.seq (.reg [⟨(some 23), none, (.mov (.t 8))⟩, ⟨(some 24), none, (.bin .geq (.t 23) (.k (.int .i64 ((0 : Nat) : Int))))⟩] [0, 1, 6, 7, 8, 24]) (.cond (.t 24) .skip (.exit 0))) (.seq (.block 1 (.seq (.reg [⟨(some 27), none, (.mov (.t 7))⟩, ⟨(some 28), none, (.bin .mul (.t 27) (.k (.int .u64 ((65536 : Nat) : Int))))⟩, ⟨(some 29), none, (.mov (.t 0))⟩, ⟨(some 30), none, (.mov (.t 8))⟩, ⟨(some 31), none, (.idxA 1 (.t 29) (.t 30))⟩, ⟨(some 32), none, (.load none (.t 31))⟩, ⟨(some 33), none, (.conv .u64 (.t 32))⟩, ⟨(some 34), none, (.bin .add (.t 28) (.t 33))⟩, ⟨(some 7), none, (.mov (.t 34))⟩] [0, 1, 6, 7, 8]) (.seq (.reg [⟨(some 35), none, (.mov (.t 6))⟩, ⟨(some 36), none, (.mov (.t 8))⟩, ⟨(some 37), none, (.mov (.t 7))⟩, ⟨(some 38), none, (.mov (.t 1))⟩, ⟨(some 39), none, (.idxA 1 (.t 38) (.k (.int .i64 ((0 : Nat) : Int))))⟩, ⟨(some 40), none, (.load none (.t 39))⟩, ⟨(some 41), none, (.conv .u64 (.t 40))⟩, ⟨(some 42), none, (.bin .quo (.t 37) (.t 41))⟩, ⟨(some 43), none, (.conv .u32 (.t 42))⟩, ⟨(some 44), none, (.idxA 1 (.t 35) (.t 36))⟩, ⟨none, none, (.store 1 (.t 44) (.t 43))⟩] [0, 1, 6, 7, 8]) (.reg [⟨(some 45), none, (.mov (.t 7))⟩, ⟨(some 46), none, (.mov (.t 1))⟩, ⟨(some 47), none, (.idxA 1 (.t 46) (.k (.int .i64 ((0 : Nat) : Int))))⟩, ⟨(some 48), none, (.load none (.t 47))⟩, ⟨(some 49), none, (.conv .u64 (.t 48))⟩, ⟨(some 50), none, (.bin .rem (.t 45) (.t 49))⟩, ⟨(some 7), none, (.mov (.t 50))⟩] [0, 1, 6, 7, 8])))) (.reg [⟨(some 25), none, (.mov (.t 8))⟩, ⟨(some 26), none, (.bin .sub (.t 25) (.k (.int .i64 ((1 : Nat) : Int))))⟩, ⟨(some 8), none, (.mov (.t 26))⟩] [0, 1, 6, 7, 8])))))) (.seq (.reg [⟨(some 51), none, (.mov (.t 6))⟩, ⟨(some 52), none, (.call (.k (.fn (.func 139) [] [])) [(.k (.bool false)), (.t 51)])⟩, ⟨(some 53), none, (.fld 1 none (.t 52))⟩, ⟨(some 54), none, (.mov (.t 7))⟩, ⟨(some 55), none, (.conv .u32 (.t 54))⟩, ⟨(some 56), none, (.bsl [(.int .u32 ((0 : Nat) : Int))] 1 1 [(0, (1, (.t 55)))])⟩, ⟨(some 57), none, (.call (.k (.fn (.func 139) [] [])) [(.k (.bool false)), (.t 56)])⟩, ⟨(some 58), none, (.fld 1 none (.t 57))⟩, ⟨(some 4), none, (.mov (.t 53))⟩, ⟨(some 5), none, (.mov (.t 58))⟩] [4, 5]) .ret)))) .skip)) (.seq (.reg [⟨(some 59), none, (.mov (.t 0))⟩, ⟨(some 60), none, (.len false (.t 59))⟩, ⟨(some 61), none, (.mks 172 1 4 [(.int .u32 ((0 : Nat) : Int))] (.t 60) (.t 60))⟩, ⟨(some 9), none, (.mov (.t 61))⟩] [0, 1, 9]) (.seq (.reg [⟨(some 10), none, (.mov (.k (.seq 0 [] true)))⟩] [0, 1, 9, 10]) (.seq (.seq (.reg [⟨(some 62), none, (.mov (.t 0))⟩, ⟨(some 63), none, (.call (.k (.fn (.func 192) [] [])) [(.t 62)])⟩, ⟨(some 64), none, (.bin .sub (.t 63) (.k (.int .i64 ((1 : Nat) : Int))))⟩, ⟨(some 11), none, (.mov (.t 64))⟩] [0, 1, 9, 10, 11]) (.block 2 (.loop (.seq (.seq (.reg [⟨(some 65), none, (.mov (.t 11))⟩, ⟨(some 66), none, (.bin .geq (.t 65) (.k (.int .i64 ((0 : Nat) : Int))))⟩] [0, 1, 9, 10, 11, 66]) (.cond (.t 66) .skip (.exit 2))) (.seq (.block 3 (.seq (.reg [⟨(some 69), none, (.mov (.t 0))⟩, ⟨(some 70), none, (.mov (.t 11))⟩, ⟨(some 71), none, (.call (.k (.fn (.func 193) [] [])) [(.t 69), (.t 70)])⟩, ⟨(some 12), none, (.mov (.t 71))⟩] [0, 1, 9, 10, 11, 12]) (.seq (.seq (.reg [⟨(some 13), none, (.mov (.k (.int .i64 ((0 : Nat) : Int))))⟩] [0, 1, 9, 10, 11, 12, 13]) (.block 4 (.loop (.seq (.seq (.reg [⟨(some 72), none, (.mov (.t 13))⟩, ⟨(some 73), none, (.mov (.t 10))⟩, ⟨(some 74), none, (.len false (.t 73))⟩, ⟨(some 75), none, (.bin .lss (.t 72) (.t 74))⟩] [0, 1, 9, 10, 11, 12, 13, 75]) (.cond (.t 75) .skip (.exit 4))) (.seq (.block 5 (.seq (.reg [⟨(some 78), none, (.mov (.t 12))⟩, ⟨(some 79), none, (.mov (.t 10))⟩, ⟨(some 80), none, (.mov (.t 13))⟩, ⟨(some 81), none, (.idxA 1 (.t 79) (.t 80))⟩, ⟨(some 82), none, (.load none (.t 81))⟩, ⟨(some 83), none, (.bin .mul (.k (.int .u32 ((2 : Nat) : Int))) (.t 82))⟩, ⟨(some 84), none, (.bin .add (.t 78) (.t 83))⟩, ⟨(some 12), none, (.mov (.t 84))⟩] [0, 1, 9, 10, 11, 12, 13]) (.seq (.reg [⟨(some 85), none, (.mov (.t 10))⟩, ⟨(some 86), none, (.mov (.t 13))⟩, ⟨(some 87), none, (.mov (.t 12))⟩, ⟨(some 88), none, (.bin .rem (.t 87) (.k (.int .u32 ((65536 : Nat) : Int))))⟩, ⟨(some 89), none, (.idxA 1 (.t 85) (.t 86))⟩, ⟨none, none, (.store 1 (.t 89) (.t 88))⟩] [0, 1, 9, 10, 11, 12, 13]) (.reg [⟨(some 90), none, (.mov (.t 12))⟩, ⟨(some 91), none, (.bin .quo (.t 90) (.k (.int .u32 ((65536 : Nat) : Int))))⟩, ⟨(some 12), none, (.mov (.t 91))⟩] [0, 1, 9, 10, 11, 12, 13])))) (.reg [⟨(some 76), none, (.mov (.t 13))⟩, ⟨(some 77), none, (.bin .add (.t 76) (.k (.int .i64 ((1 : Nat) : Int))))⟩, ⟨(some 13), none, (.mov (.t 77))⟩] [0, 1, 9, 10, 11, 12, 13])))))) (.seq (.seq (.reg [⟨(some 92), none, (.mov (.t 12))⟩, ⟨(some 93), none, (.bin .gtr (.t 92) (.k (.int .u32 ((0 : Nat) : Int))))⟩] [0, 1, 9, 10, 11, 12, 93]) (.cond (.t 93) (.reg [⟨(some 94), none, (.mov (.t 10))⟩, ⟨(some 95), none, (.mov (.t 12))⟩, ⟨(some 96), none, (.bsl [(.int .u32 ((0 : Nat) : Int))] 1 1 [(0, (1, (.t 95)))])⟩, ⟨(some 97), none, (.app 172 1 4 (.t 94) (.t 96))⟩, ⟨(some 10), none, (.mov (.t 97))⟩] [0, 1, 9, 10, 11]) .skip)) (.seq (.reg [⟨(some 98), none, (.mov (.t 10))⟩, ⟨(some 99), none, (.mov (.t 1))⟩, ⟨(some 100), none, (.call (.k (.fn (.func 194) [] [])) [(.t 98), (.t 99)])⟩, ⟨(some 101), none, (.bin .geq (.t 100) (.k (.int .i64 ((0 : Nat) : Int))))⟩] [0, 1, 9, 10, 11, 101]) (.cond (.t 101) (.seq (.reg [⟨(some 102), none, (.mov (.t 10))⟩, ⟨(some 103), none, (.mov (.t 1))⟩, ⟨(some 104), none, (.call (.k (.fn (.func 195) [] [])) [(.t 102), (.t 103)])⟩, ⟨(some 105), none, (.call (.k (.fn (.func 139) [] [])) [(.k (.bool false)), (.t 104)])⟩, ⟨(some 106), none, (.fld 1 none (.t 105))⟩, ⟨(some 10), none, (.mov (.t 106))⟩] [0, 1, 9, 10, 11]) (.draw [⟨(some 107), none, (.mov (.t 9))⟩, ⟨(some 108), none, (.mov (.t 11))⟩, ⟨(some 109), none, (.bin .quo (.t 108) (.k (.int .i64 ((16 : Nat) : Int))))⟩, ⟨(some 110), none, (.mov (.t 9))⟩, ⟨(some 111), none, (.mov (.t 11))⟩, ⟨(some 112), none, (.bin .quo (.t 111) (.k (.int .i64 ((16 : Nat) : Int))))⟩, ⟨(some 113), none, (.idxA 1 (.t 110) (.t 112))⟩, ⟨(some 114), none, (.load none (.t 113))⟩, ⟨(some 115), none, (.mov (.t 11))⟩, ⟨(some 116), none, (.bin .rem (.t 115) (.k (.int .i64 ((16 : Nat) : Int))))⟩, ⟨(some 117), none, (.bin .shl (.k (.int .u32 ((1 : Nat) : Int))) (.t 116))⟩, ⟨(some 118), none, (.bin .or (.t 114) (.t 117))⟩] [⟨(some 119), none, (.idxA 1 (.t 107) (.t 109))⟩, ⟨none, none, (.store 1 (.t 119) (.t 118))⟩] [0, 1, 1, 7, 15, 15, 7, 7, 255, 255, 255, 7] [0, 1, 9, 10, 11])) .skip)))))) (.reg [⟨(some 67), none, (.mov (.t 11))⟩, ⟨(some 68), none, (.bin .sub (.t 67) (.k (.int .i64 ((1 : Nat) : Int))))⟩, ⟨(some 11), none, (.mov (.t 68))⟩] [0, 1, 9, 10, 11])))))) (.seq (.reg [⟨(some 120), none, (.mov (.t 9))⟩, ⟨(some 121), none, (.call (.k (.fn (.func 139) [] [])) [(.k (.bool false)), (.t 120)])⟩, ⟨(some 122), none, (.fld 1 none (.t 121))⟩, ⟨(some 123), none, (.mov (.t 10))⟩, ⟨(some 4), none, (.mov (.t 122))⟩, ⟨(some 5), none, (.mov (.t 123))⟩] [4, 5]) .ret))))))
def rs133 : List RV := [(.t 4), (.t 5)]
theorem co133 : compFn Go.Proofs.Tryd.prog Go.Proofs.Tryd.f133 pl133 = some (ac133, rs133) := by kernel_rfl
theorem enter133 {args : List AV} {H : AHeap} {Q : AV → AHeap → Prop} (hn : args.length ≤ 124) (h : W Go.Proofs.Tryd.prog ac133 (retN rs133 Q) ⟨[], initE args 0, H⟩) : Run Go.Proofs.Tryd.prog 133 args H Q := Run_fn2 mixed Go.Proofs.Tryd.func133 (by kernel_rfl) co133 (n := 124) (by kernel_rfl) hn h
def ac137 : ACode := (.seq (.reg [⟨(some 4), none, (.alloc 28 0 [(.bool false), (.seq 0 [] true)])⟩] [0, 1, 4]) (.seq (.reg [⟨(some 5), none, (.mov (.t 0))⟩, ⟨(some 6), none, (.mov (.t 5))⟩, ⟨(some 7), (some (6, true)), (.mov (.t 1))⟩, ⟨(some 8), (some (6, true)), (.len false (.t 7))⟩, ⟨(some 9), (some (6, true)), (.bin .gtr (.t 8) (.k (.int .i64 ((0 : Nat) : Int))))⟩, ⟨(some 10), none, (.pick (.t 6) (.t 9) (.k (.bool false)))⟩, ⟨(some 11), none, (.mov (.t 1))⟩, ⟨(some 12), none, (.build [(.bool false), (.seq 0 [] true)] [(0, (1, (.t 10))), (1, (1, (.t 11)))])⟩, ⟨none, none, (.store 2 (.t 4) (.t 12))⟩] [4]) .ret))
def rs137 : List RV := [(.cell 4 (some 2))]
theorem co137 : compFn Go.Proofs.Tryd.prog Go.Proofs.Tryd.f137 pl137 = some (ac137, rs137) := by kernel_rfl
theorem enter137 {args : List AV} {H : AHeap} {Q : AV → AHeap → Prop} (hn : args.length ≤ 13) (h : W Go.Proofs.Tryd.prog ac137 (retN rs137 Q) ⟨[], initE args 0, H⟩) : Run Go.Proofs.Tryd.prog 137 args H Q := Run_fn2 mixed Go.Proofs.Tryd.func137 (by kernel_rfl) co137 (n := 13) (by kernel_rfl) hn h
def ac138 : ACode := (.seq (.reg [⟨(some 2), none, (.mov (.k (.seq 0 [] true)))⟩] [0]) (.seq (.reg [⟨(some 4), none, (.mov (.t 0))⟩, ⟨(some 5), none, (.call (.k (.fn (.func 197) [] [])) [(.t 4)])⟩, ⟨(some 0), none, (.mov (.t 5))⟩] [0]) (.seq (.reg [⟨(some 6), none, (.mov (.t 0))⟩, ⟨(some 7), none, (.len false (.t 6))⟩, ⟨(some 8), none, (.mks 172 1 4 [(.int .u32 ((0 : Nat) : Int))] (.t 7) (.t 7))⟩, ⟨(some 3), none, (.mov (.t 8))⟩] [0, 3]) (.seq (.reg [⟨(some 9), none, (.mov (.t 3))⟩, ⟨(some 10), none, (.mov (.t 0))⟩, ⟨(some 11), none, (.cpy 1 (.t 9) (.t 10))⟩] [3]) (.seq (.reg [⟨(some 12), none, (.mov (.t 3))⟩, ⟨(some 2), none, (.mov (.t 12))⟩] [2]) .ret)))))
def rs138 : List RV := [(.t 2)]
theorem co138 : compFn Go.Proofs.Tryd.prog Go.Proofs.Tryd.f138 pl138 = some (ac138, rs138) := by kernel_rfl
theorem enter138 {args : List AV} {H : AHeap} {Q : AV → AHeap → Prop} (hn : args.length ≤ 13) (h : W Go.Proofs.Tryd.prog ac138 (retN rs138 Q) ⟨[], initE args 0, H⟩) : Run Go.Proofs.Tryd.prog 138 args H Q := Run_fn2 mixed Go.Proofs.Tryd.func138 (by kernel_rfl) co138 (n := 13) (by kernel_rfl) hn h
def ac139 : ACode := (.seq (.reg [⟨(some 4), none, (.alloc 39 0 [(.bool false), (.seq 0 [] true)])⟩] [0, 1, 4]) (.seq (.reg [⟨(some 6), none, (.mov (.t 1))⟩, ⟨(some 7), none, (.len false (.t 6))⟩, ⟨(some 5), none, (.mov (.t 7))⟩] [0, 1, 4, 5]) (.seq (.block 0 (.loop (.seq (.seq (.reg [⟨(some 8), none, (.mov (.t 5))⟩, ⟨(some 9), none, (.bin .gtr (.t 8) (.k (.int .i64 ((0 : Nat) : Int))))⟩, ⟨(some 10), none, (.mov (.t 9))⟩, ⟨(some 11), (some (10, true)), (.mov (.t 1))⟩, ⟨(some 12), (some (10, true)), (.mov (.t 5))⟩, ⟨(some 13), (some (10, true)), (.bin .sub (.t 12) (.k (.int .i64 ((1 : Nat) : Int))))⟩, ⟨(some 14), (some (10, true)), (.idxA 1 (.t 11) (.t 13))⟩, ⟨(some 15), (some (10, true)), (.load none (.t 14))⟩, ⟨(some 16), (some (10, true)), (.bin .eql (.t 15) (.k (.int .u32 ((0 : Nat) : Int))))⟩, ⟨(some 17), none, (.pick (.t 10) (.t 16) (.k (.bool false)))⟩] [0, 1, 4, 5, 17]) (.cond (.t 17) .skip (.exit 0))) (.block 1 (.reg [⟨(some 18), none, (.mov (.t 5))⟩, ⟨(some 19), none, (.bin .sub (.t 18) (.k (.int .i64 ((1 : Nat) : Int))))⟩, ⟨(some 5), none, (.mov (.t 19))⟩] [0, 1, 4, 5]))))) (.seq (.reg [⟨(some 20), none, (.mov (.t 0))⟩, ⟨(some 21), none, (.mov (.t 20))⟩, ⟨(some 22), (some (21, true)), (.mov (.t 5))⟩, ⟨(some 23), (some (21, true)), (.bin .gtr (.t 22) (.k (.int .i64 ((0 : Nat) : Int))))⟩, ⟨(some 24), none, (.pick (.t 21) (.t 23) (.k (.bool false)))⟩, ⟨(some 25), none, (.mov (.t 1))⟩, ⟨(some 26), none, (.mov (.t 5))⟩, ⟨(some 27), none, (.slc 1 (.t 25) none (some (.t 26)) none)⟩, ⟨(some 28), none, (.build [(.bool false), (.seq 0 [] true)] [(0, (1, (.t 24))), (1, (1, (.t 27)))])⟩, ⟨none, none, (.store 2 (.t 4) (.t 28))⟩] [4]) .ret))))
def rs139 : List RV := [(.cell 4 (some 2))]
theorem co139 : compFn Go.Proofs.Tryd.prog Go.Proofs.Tryd.f139 pl139 = some (ac139, rs139) := by kernel_rfl
theorem enter139 {args : List AV} {H : AHeap} {Q : AV → AHeap → Prop} (hn : args.length ≤ 29) (h : W Go.Proofs.Tryd.prog ac139 (retN rs139 Q) ⟨[], initE args 0, H⟩) : Run Go.Proofs.Tryd.prog 139 args H Q := Run_fn2 mixed Go.Proofs.Tryd.func139 (by kernel_rfl) co139 (n := 29) (by kernel_rfl) hn h
def ac148 : ACode := (.seq (.reg [⟨(some 4), none, (.mov (.k (.int .i64 ((0 : Nat) : Int))))⟩] [0, 1]) (.seq (.reg [⟨(some 6), none, (.mov (.t 0))⟩, ⟨(some 7), none, (.call (.k (.fn (.func 197) [] [])) [(.t 6)])⟩, ⟨(some 8), none, (.mov (.t 1))⟩, ⟨(some 9), none, (.call (.k (.fn (.func 197) [] [])) [(.t 8)])⟩, ⟨(some 0), none, (.mov (.t 7))⟩, ⟨(some 1), none, (.mov (.t 9))⟩] [0, 1]) (.seq (.block 0 (.seq (.reg [⟨(some 11), none, (.mov (.t 0))⟩, ⟨(some 12), none, (.len false (.t 11))⟩, ⟨(some 13), none, (.mov (.t 1))⟩, ⟨(some 14), none, (.len false (.t 13))⟩, ⟨(some 15), none, (.bin .lss (.t 12) (.t 14))⟩, ⟨(some 10), none, (.mov (.t 15))⟩] [0, 1, 10]) (.cond (.t 10) (.seq (.reg [⟨(some 4), none, (.mov (.k (.int .i64 (-1))))⟩] [4]) .ret) (.seq (.reg [⟨(some 17), none, (.mov (.t 0))⟩, ⟨(some 18), none, (.len false (.t 17))⟩, ⟨(some 19), none, (.mov (.t 1))⟩, ⟨(some 20), none, (.len false (.t 19))⟩, ⟨(some 21), none, (.bin .gtr (.t 18) (.t 20))⟩, ⟨(some 16), none, (.mov (.t 21))⟩] [0, 1, 16]) (.cond (.t 16) (.seq (.reg [⟨(some 4), none, (.mov (.k (.int .i64 ((1 : Nat) : Int))))⟩] [4]) .ret) .skip))))) (.seq (.seq (.reg [⟨(some 22), none, (.mov (.t 0))⟩, ⟨(some 23), none, (.len false (.t 22))⟩, ⟨(some 24), none, (.bin .sub (.t 23) (.k (.int .i64 ((1 : Nat) : Int))))⟩, ⟨(some 5), none, (.mov (.t 24))⟩] [0, 1, 5]) (.block 1 (.loop (.seq (.seq (.reg [⟨(some 25), none, (.mov (.t 5))⟩, ⟨(some 26), none, (.bin .geq (.t 25) (.k (.int .i64 ((0 : Nat) : Int))))⟩] [0, 1, 5, 26]) (.cond (.t 26) .skip (.exit 1))) (.seq (.block 2 (.block 3 (.seq (.draw [⟨(some 30), none, (.mov (.t 0))⟩, ⟨(some 31), none, (.mov (.t 5))⟩, ⟨(some 32), none, (.idxA 1 (.t 30) (.t 31))⟩, ⟨(some 33), none, (.load none (.t 32))⟩, ⟨(some 34), none, (.mov (.t 1))⟩, ⟨(some 35), none, (.mov (.t 5))⟩, ⟨(some 36), none, (.idxA 1 (.t 34) (.t 35))⟩, ⟨(some 37), none, (.load none (.t 36))⟩] [⟨(some 38), none, (.bin .lss (.t 33) (.t 37))⟩, ⟨(some 29), none, (.mov (.t 38))⟩] [0, 1, 0, 0, 15, 31, 15, 15] [0, 1, 5, 29]) (.cond (.t 29) (.seq (.reg [⟨(some 4), none, (.mov (.k (.int .i64 (-1))))⟩] [4]) .ret) (.seq (.draw [⟨(some 40), none, (.mov (.t 0))⟩, ⟨(some 41), none, (.mov (.t 5))⟩, ⟨(some 42), none, (.idxA 1 (.t 40) (.t 41))⟩, ⟨(some 43), none, (.load none (.t 42))⟩, ⟨(some 44), none, (.mov (.t 1))⟩, ⟨(some 45), none, (.mov (.t 5))⟩, ⟨(some 46), none, (.idxA 1 (.t 44) (.t 45))⟩, ⟨(some 47), none, (.load none (.t 46))⟩] [⟨(some 48), none, (.bin .gtr (.t 43) (.t 47))⟩, ⟨(some 39), none, (.mov (.t 48))⟩] [0, 1, 0, 0, 15, 31, 15, 15] [0, 1, 5, 39]) (.cond (.t 39) (.seq (.reg [⟨(some 4), none, (.mov (.k (.int .i64 ((1 : Nat) : Int))))⟩] [4]) .ret) .skip)))))) (.reg [⟨(some 27), none, (.mov (.t 5))⟩, ⟨(some 28), none, (.bin .sub (.t 27) (.k (.int .i64 ((1 : Nat) : Int))))⟩, ⟨(some 5), none, (.mov (.t 28))⟩] [0, 1, 5])))))) (.seq (.reg [⟨(some 4), none, (.mov (.k (.int .i64 ((0 : Nat) : Int))))⟩] [4]) .ret)))))
def rs148 : List RV := [(.t 4)]
theorem co148 : compFn Go.Proofs.Tryd.prog Go.Proofs.Tryd.f148 pl148 = some (ac148, rs148) := by kernel_rfl
theorem enter148 {args : List AV} {H : AHeap} {Q : AV → AHeap → Prop} (hn : args.length ≤ 49) (h : W Go.Proofs.Tryd.prog ac148 (retN rs148 Q) ⟨[], initE args 0, H⟩) : Run Go.Proofs.Tryd.prog 148 args H Q := Run_fn2 mixed Go.Proofs.Tryd.func148 (by kernel_rfl) co148 (n := 49) (by kernel_rfl) hn h
def ac154 : ACode := (.seq (.reg [⟨(some 6), none, (.mov (.k (.bool false)))⟩] [0, 1, 2]) (.seq (.seq (.reg [⟨(some 10), none, (.mov (.t 0))⟩, ⟨(some 11), none, (.len false (.t 10))⟩, ⟨(some 12), none, (.mov (.t 1))⟩, ⟨(some 13), none, (.len false (.t 12))⟩, ⟨(some 14), none, (.bin .neq (.t 11) (.t 13))⟩] [0, 1, 2, 14]) (.cond (.t 14) (.seq (.reg [⟨(some 6), none, (.mov (.k (.bool false)))⟩] [6]) .ret) .skip)) (.seq (.seq (.reg [⟨(some 15), none, (.mov (.t 0))⟩, ⟨(some 16), none, (.len false (.t 15))⟩, ⟨(some 17), none, (.mov (.k (.int .i64 ((0 : Nat) : Int))))⟩] [1, 2, 15, 16, 17]) (.block 0 (.loop (.seq (.reg [⟨(some 18), none, (.bin .lss (.t 17) (.t 16))⟩] [1, 2, 15, 16, 17, 18]) (.seq (.cond (.t 18) .skip (.exit 0)) (.seq (.block 1 (.seq (.reg [⟨(some 19), none, (.mov (.t 17))⟩, ⟨(some 20), none, (.idxA 2 (.t 15) (.t 17))⟩, ⟨(some 21), none, (.load (some 2) (.t 20))⟩, ⟨(some 8), none, (.alloc 28 0 [(.bool false), (.seq 0 [] true)])⟩, ⟨(some 7), none, (.mov (.t 19))⟩, ⟨none, none, (.store 2 (.t 8) (.t 21))⟩] [1, 2, 7, 8, 15, 16, 17]) (.seq (.reg [⟨(some 22), none, (.mov (.t 1))⟩, ⟨(some 23), none, (.mov (.t 7))⟩, ⟨(some 24), none, (.idxA 2 (.t 22) (.t 23))⟩, ⟨(some 25), none, (.load (some 2) (.t 24))⟩, ⟨(some 9), none, (.alloc 39 0 [(.bool false), (.seq 0 [] true)])⟩, ⟨none, none, (.store 2 (.t 9) (.t 25))⟩] [1, 2, 8, 9, 15, 16, 17]) (.seq (.reg [⟨(some 26), none, (.mov (.t 2))⟩, ⟨(some 27), none, (.load (some 2) (.t 8))⟩, ⟨(some 28), none, (.load (some 2) (.t 9))⟩, ⟨(some 29), none, (.call (.t 26) [(.t 27), (.t 28)])⟩, ⟨(some 30), none, (.un .not (.t 29))⟩] [1, 2, 15, 16, 17, 30]) (.cond (.t 30) (.seq (.reg [⟨(some 6), none, (.mov (.k (.bool false)))⟩] [6]) .ret) .skip))))) (.reg [⟨(some 31), none, (.bin .add (.t 17) (.k (.int .i64 ((1 : Nat) : Int))))⟩, ⟨(some 17), none, (.mov (.t 31))⟩] [1, 2, 15, 16, 17]))))))) (.seq (.reg [⟨(some 6), none, (.mov (.k (.bool true)))⟩] [6]) .ret))))
def rs154 : List RV := [(.t 6)]
theorem co154 : compFn Go.Proofs.Tryd.prog Go.Proofs.Tryd.f154 pl154 = some (ac154, rs154) := by kernel_rfl
theorem enter154 {args : List AV} {H : AHeap} {Q : AV → AHeap → Prop} (hn : args.length ≤ 32) (h : W Go.Proofs.Tryd.prog ac154 (retN rs154 Q) ⟨[], initE args 0, H⟩) : Run Go.Proofs.Tryd.prog 154 args H Q := Run_fn2 mixed Go.Proofs.Tryd.func154 (by kernel_rfl) co154 (n := 32) (by kernel_rfl) hn h
def ac155 : ACode := (.seq (.reg [⟨(some 2), none, (.box 28 0 (.t 0))⟩, ⟨(some 3), none, (.box 39 0 (.t 1))⟩, ⟨(some 4), none, (.mov (.k (.bool false)))⟩] [2, 3]) (.seq (.draw [⟨(some 5), none, (.load (some 2) (.t 2))⟩, ⟨(some 6), none, (.call (.k (.fn (.func 28) [] [])) [(.t 5)])⟩, ⟨(some 7), none, (.load (some 2) (.t 3))⟩] [⟨(some 8), none, (.call (.k (.fn (.func 29) [] [])) [(.t 7)])⟩, ⟨(some 9), none, (.bin .eql (.t 6) (.t 8))⟩, ⟨(some 4), none, (.mov (.t 9))⟩] [0, 0, 3] [4]) .ret))
def rs155 : List RV := [(.t 4)]
theorem co155 : compFn Go.Proofs.Tryd.prog Go.Proofs.Tryd.f155 pl155 = some (ac155, rs155) := by kernel_rfl
theorem enter155 {args : List AV} {H : AHeap} {Q : AV → AHeap → Prop} (hn : args.length ≤ 10) (h : W Go.Proofs.Tryd.prog ac155 (retN rs155 Q) ⟨[], initE args 0, H⟩) : Run Go.Proofs.Tryd.prog 155 args H Q := Run_fn2 mixed Go.Proofs.Tryd.func155 (by kernel_rfl) co155 (n := 10) (by kernel_rfl) hn h
def ac168 : ACode := (.seq (.reg [⟨(some 4), none, (.mov (.k (.str ⟨#[]⟩)))⟩] [0, 1]) (.seq (.seq (.reg [⟨(some 11), none, (.mov (.t 0))⟩, ⟨(some 12), none, (.len false (.t 11))⟩] [0, 1, 12]) (.block 0 (.seq (.reg [⟨(some 14), none, (.bin .eql (.t 12) (.k (.int .i64 ((0 : Nat) : Int))))⟩, ⟨(some 13), none, (.mov (.t 14))⟩] [0, 1, 12, 13]) (.cond (.t 13) (.seq (.reg [⟨(some 4), none, (.mov (.k (.str ⟨#[]⟩)))⟩] [4]) .ret) (.seq (.reg [⟨(some 16), none, (.bin .eql (.t 12) (.k (.int .i64 ((1 : Nat) : Int))))⟩, ⟨(some 15), none, (.mov (.t 16))⟩] [0, 1, 15]) (.cond (.t 15) (.seq (.reg [⟨(some 17), none, (.mov (.t 0))⟩, ⟨(some 18), none, (.idxA 1 (.t 17) (.k (.int .i64 ((0 : Nat) : Int))))⟩, ⟨(some 19), none, (.load none (.t 18))⟩, ⟨(some 4), none, (.mov (.t 19))⟩] [4]) .ret) .skip)))))) (.seq (.reg [⟨(some 5), none, (.mov (.k (.int .i64 ((0 : Nat) : Int))))⟩] [0, 1, 5]) (.seq (.seq (.reg [⟨(some 20), none, (.mov (.t 1))⟩, ⟨(some 21), none, (.len true (.t 20))⟩, ⟨(some 22), none, (.bin .gtr (.t 21) (.k (.int .i64 ((0 : Nat) : Int))))⟩] [0, 1, 5, 22]) (.cond (.t 22) (.seq (.seq (.reg [⟨(some 23), none, (.mov (.t 1))⟩, ⟨(some 24), none, (.len true (.t 23))⟩, ⟨(some 25), none, (.mov (.t 0))⟩, ⟨(some 26), none, (.len false (.t 25))⟩, ⟨(some 27), none, (.bin .sub (.t 26) (.k (.int .i64 ((1 : Nat) : Int))))⟩, ⟨(some 28), none, (.bin .quo (.k (.int .i64 ((9223372036854775807 : Nat) : Int))) (.t 27))⟩, ⟨(some 29), none, (.bin .geq (.t 24) (.t 28))⟩] [0, 1, 5, 29]) (.cond (.t 29) .refuse .skip)) (.reg [⟨(some 31), none, (.mov (.t 5))⟩, ⟨(some 32), none, (.mov (.t 1))⟩, ⟨(some 33), none, (.len true (.t 32))⟩, ⟨(some 34), none, (.mov (.t 0))⟩, ⟨(some 35), none, (.len false (.t 34))⟩, ⟨(some 36), none, (.bin .sub (.t 35) (.k (.int .i64 ((1 : Nat) : Int))))⟩, ⟨(some 37), none, (.bin .mul (.t 33) (.t 36))⟩, ⟨(some 38), none, (.bin .add (.t 31) (.t 37))⟩, ⟨(some 5), none, (.mov (.t 38))⟩] [0, 1, 5])) .skip)) (.seq (.seq (.reg [⟨(some 39), none, (.mov (.t 0))⟩, ⟨(some 40), none, (.len false (.t 39))⟩, ⟨(some 41), none, (.mov (.k (.int .i64 ((0 : Nat) : Int))))⟩] [0, 1, 5, 39, 40, 41]) (.block 1 (.loop (.seq (.reg [⟨(some 42), none, (.bin .lss (.t 41) (.t 40))⟩] [0, 1, 5, 39, 40, 41, 42]) (.seq (.cond (.t 42) .skip (.exit 1)) (.seq (.block 2 (.seq (.reg [⟨(some 43), none, (.idxA 1 (.t 39) (.t 41))⟩, ⟨(some 44), none, (.load none (.t 43))⟩, ⟨(some 7), none, (.mov (.t 44))⟩] [0, 1, 5, 7, 39, 40, 41]) (.seq (.seq (.reg [⟨(some 45), none, (.mov (.t 7))⟩, ⟨(some 46), none, (.len true (.t 45))⟩, ⟨(some 47), none, (.mov (.t 5))⟩, ⟨(some 48), none, (.bin .sub (.k (.int .i64 ((9223372036854775807 : Nat) : Int))) (.t 47))⟩, ⟨(some 49), none, (.bin .gtr (.t 46) (.t 48))⟩] [0, 1, 5, 7, 39, 40, 41, 49]) (.cond (.t 49) .refuse .skip)) (.reg [⟨(some 51), none, (.mov (.t 5))⟩, ⟨(some 52), none, (.mov (.t 7))⟩, ⟨(some 53), none, (.len true (.t 52))⟩, ⟨(some 54), none, (.bin .add (.t 51) (.t 53))⟩, ⟨(some 5), none, (.mov (.t 54))⟩] [0, 1, 5, 39, 40, 41])))) (.reg [⟨(some 55), none, (.bin .add (.t 41) (.k (.int .i64 ((1 : Nat) : Int))))⟩, ⟨(some 41), none, (.mov (.t 55))⟩] [0, 1, 5, 39, 40, 41]))))))) (.seq (.reg [⟨(some 8), none, (.alloc 234 0 [.nilP, (.seq 0 [] true)])⟩] [0, 1, 5, 8]) (.seq (.reg [⟨(some 56), none, (.mov (.t 5))⟩, ⟨(some 57), none, (.call (.k (.fn (.func 203) [] [])) [(.t 8), (.t 56)])⟩] [0, 1, 8]) (.seq (.reg [⟨(some 58), none, (.mov (.t 0))⟩, ⟨(some 59), none, (.idxA 1 (.t 58) (.k (.int .i64 ((0 : Nat) : Int))))⟩, ⟨(some 60), none, (.load none (.t 59))⟩, ⟨(some 61), none, (.call (.k (.fn (.func 204) [] [])) [(.t 8), (.t 60)])⟩] [0, 1, 8]) (.seq (.seq (.reg [⟨(some 62), none, (.mov (.t 0))⟩, ⟨(some 63), none, (.slc 1 (.t 62) (some (.k (.int .i64 ((1 : Nat) : Int)))) none none)⟩, ⟨(some 64), none, (.len false (.t 63))⟩, ⟨(some 65), none, (.mov (.k (.int .i64 ((0 : Nat) : Int))))⟩] [1, 8, 63, 64, 65]) (.block 3 (.loop (.seq (.reg [⟨(some 66), none, (.bin .lss (.t 65) (.t 64))⟩] [1, 8, 63, 64, 65, 66]) (.seq (.cond (.t 66) .skip (.exit 3)) (.seq (.block 4 (.seq (.reg [⟨(some 67), none, (.idxA 1 (.t 63) (.t 65))⟩, ⟨(some 68), none, (.load none (.t 67))⟩, ⟨(some 10), none, (.mov (.t 68))⟩] [1, 8, 10, 63, 64, 65]) (.seq (.reg [⟨(some 69), none, (.mov (.t 1))⟩, ⟨(some 70), none, (.call (.k (.fn (.func 204) [] [])) [(.t 8), (.t 69)])⟩] [1, 8, 10, 63, 64, 65]) (.reg [⟨(some 71), none, (.mov (.t 10))⟩, ⟨(some 72), none, (.call (.k (.fn (.func 204) [] [])) [(.t 8), (.t 71)])⟩] [1, 8, 63, 64, 65])))) (.reg [⟨(some 73), none, (.bin .add (.t 65) (.k (.int .i64 ((1 : Nat) : Int))))⟩, ⟨(some 65), none, (.mov (.t 73))⟩] [1, 8, 63, 64, 65]))))))) (.seq (.reg [⟨(some 74), none, (.call (.k (.fn (.func 205) [] [])) [(.t 8)])⟩, ⟨(some 4), none, (.mov (.t 74))⟩] [4]) .ret))))))))))
def rs168 : List RV := [(.t 4)]
theorem co168 : compFn Go.Proofs.Tryd.prog Go.Proofs.Tryd.f168 pl168 = some (ac168, rs168) := by kernel_rfl
theorem enter168 {args : List AV} {H : AHeap} {Q : AV → AHeap → Prop} (hn : args.length ≤ 75) (h : W Go.Proofs.Tryd.prog ac168 (retN rs168 Q) ⟨[], initE args 0, H⟩) : Run Go.Proofs.Tryd.prog 168 args H Q := Run_fn2 mixed Go.Proofs.Tryd.func168 (by kernel_rfl) co168 (n := 75) (by kernel_rfl) hn h
def ac169 : ACode := (.seq (.reg [⟨(some 2), none, (.mov (.k (.bool false)))⟩] [0]) (.seq (.reg [⟨(some 3), none, (.mov (.t 0))⟩, ⟨(some 4), none, (.bin .geq (.t 3) (.k (.int .i64 (-16))))⟩, ⟨(some 5), none, (.mov (.t 4))⟩, ⟨(some 6), (some (5, true)), (.mov (.t 0))⟩, ⟨(some 7), (some (5, true)), (.bin .leq (.t 6) (.k (.int .i64 ((16 : Nat) : Int))))⟩, ⟨(some 8), none, (.pick (.t 5) (.t 7) (.k (.bool false)))⟩, ⟨(some 2), none, (.mov (.t 8))⟩] [2]) .ret))
def rs169 : List RV := [(.t 2)]
theorem co169 : compFn Go.Proofs.Tryd.prog Go.Proofs.Tryd.f169 pl169 = some (ac169, rs169) := by kernel_rfl
theorem enter169 {args : List AV} {H : AHeap} {Q : AV → AHeap → Prop} (hn : args.length ≤ 9) (h : W Go.Proofs.Tryd.prog ac169 (retN rs169 Q) ⟨[], initE args 0, H⟩) : Run Go.Proofs.Tryd.prog 169 args H Q := Run_fn2 mixed Go.Proofs.Tryd.func169 (by kernel_rfl) co169 (n := 9) (by kernel_rfl) hn h
def ac170 : ACode := (.seq (.reg [⟨(some 1), none, (.box 28 0 (.t 0))⟩, ⟨(some 2), none, (.mov (.k (.int .i64 ((0 : Nat) : Int))))⟩] [1]) (.seq (.reg [⟨(some 3), none, (.fldA 1 (.t 1))⟩, ⟨(some 4), none, (.load none (.t 3))⟩, ⟨(some 5), none, (.call (.k (.fn (.func 206) [] [])) [(.t 4)])⟩, ⟨(some 2), none, (.mov (.t 5))⟩] [2]) .ret))
def rs170 : List RV := [(.t 2)]
theorem co170 : compFn Go.Proofs.Tryd.prog Go.Proofs.Tryd.f170 pl170 = some (ac170, rs170) := by kernel_rfl
theorem enter170 {args : List AV} {H : AHeap} {Q : AV → AHeap → Prop} (hn : args.length ≤ 6) (h : W Go.Proofs.Tryd.prog ac170 (retN rs170 Q) ⟨[], initE args 0, H⟩) : Run Go.Proofs.Tryd.prog 170 args H Q := Run_fn2 mixed Go.Proofs.Tryd.func170 (by kernel_rfl) co170 (n := 6) (by kernel_rfl) hn h
def ac171 : ACode := (.seq (.reg [⟨(some 4), none, (.mov (.k (.seq 0 [] true)))⟩] [0, 1]) (.seq (.reg [⟨(some 11), none, (.mov (.t 0))⟩, ⟨(some 12), none, (.len false (.t 11))⟩, ⟨(some 13), none, (.mov (.t 1))⟩, ⟨(some 14), none, (.len false (.t 13))⟩, ⟨(some 15), none, (.bin .add (.t 12) (.t 14))⟩, ⟨(some 16), none, (.mks 172 1 4 [(.int .u32 ((0 : Nat) : Int))] (.t 15) (.t 15))⟩, ⟨(some 5), none, (.mov (.t 16))⟩] [0, 1, 5]) (.seq (.seq (.reg [⟨(some 17), none, (.mov (.t 0))⟩, ⟨(some 18), none, (.len false (.t 17))⟩, ⟨(some 19), none, (.mov (.k (.int .i64 ((0 : Nat) : Int))))⟩] [1, 5, 17, 18, 19]) (.block 0 (.loop (.seq (.reg [⟨(some 20), none, (.bin .lss (.t 19) (.t 18))⟩] [1, 5, 17, 18, 19, 20]) (.seq (.cond (.t 20) .skip (.exit 0)) (.seq (.block 1 (.seq (.reg [⟨(some 21), none, (.mov (.t 19))⟩, ⟨(some 22), none, (.idxA 1 (.t 17) (.t 19))⟩, ⟨(some 23), none, (.load none (.t 22))⟩, ⟨(some 6), none, (.mov (.t 21))⟩, ⟨(some 7), none, (.mov (.t 23))⟩] [1, 5, 6, 7, 17, 18, 19]) (.seq (.reg [⟨(some 8), none, (.mov (.k (.int .u64 ((0 : Nat) : Int))))⟩] [1, 5, 6, 7, 8, 17, 18, 19]) (.seq (.seq (.reg [⟨(some 24), none, (.mov (.t 1))⟩, ⟨(some 25), none, (.len false (.t 24))⟩, ⟨(some 26), none, (.mov (.k (.int .i64 ((0 : Nat) : Int))))⟩] [1, 5, 6, 7, 8, 17, 18, 19, 24, 25, 26]) (.block 2 (.loop (.seq (.reg [⟨(some 27), none, (.bin .lss (.t 26) (.t 25))⟩] [1, 5, 6, 7, 8, 17, 18, 19, 24, 25, 26, 27]) (.seq (.cond (.t 27) .skip (.exit 2)) (.seq (.block 3 (.seq (.reg [⟨(some 28), none, (.mov (.t 26))⟩, ⟨(some 29), none, (.idxA 1 (.t 24) (.t 26))⟩, ⟨(some 30), none, (.load none (.t 29))⟩, ⟨(some 9), none, (.mov (.t 28))⟩, ⟨(some 10), none, (.mov (.t 30))⟩] [1, 5, 6, 7, 8, 9, 10, 17, 18, 19, 24, 25, 26]) (.seq (.reg [⟨(some 31), none, (.mov (.t 8))⟩, ⟨(some 32), none, (.mov (.t 7))⟩, ⟨(some 33), none, (.conv .u64 (.t 32))⟩, ⟨(some 34), none, (.mov (.t 10))⟩, ⟨(some 35), none, (.conv .u64 (.t 34))⟩, ⟨(some 36), none, (.bin .mul (.t 33) (.t 35))⟩, ⟨(some 37), none, (.mov (.t 5))⟩, ⟨(some 38), none, (.mov (.t 6))⟩, ⟨(some 39), none, (.mov (.t 9))⟩, ⟨(some 40), none, (.bin .add (.t 38) (.t 39))⟩, ⟨(some 41), none, (.idxA 1 (.t 37) (.t 40))⟩, ⟨(some 42), none, (.load none (.t 41))⟩, ⟨(some 43), none, (.conv .u64 (.t 42))⟩, ⟨(some 44), none, (.bin .add (.t 36) (.t 43))⟩, ⟨(some 45), none, (.bin .add (.t 31) (.t 44))⟩, ⟨(some 8), none, (.mov (.t 45))⟩] [1, 5, 6, 7, 8, 9, 17, 18, 19, 24, 25, 26]) (.seq (.reg [⟨(some 46), none, (.mov (.t 5))⟩, ⟨(some 47), none, (.mov (.t 6))⟩, ⟨(some 48), none, (.mov (.t 9))⟩, ⟨(some 49), none, (.bin .add (.t 47) (.t 48))⟩, ⟨(some 50), none, (.mov (.t 8))⟩, ⟨(some 51), none, (.conv .u32 (.t 50))⟩, ⟨(some 52), none, (.idxA 1 (.t 46) (.t 49))⟩, ⟨none, none, (.store 1 (.t 52) (.t 51))⟩] [1, 5, 6, 7, 8, 17, 18, 19, 24, 25, 26]) (.reg [⟨(some 53), none, (.mov (.t 8))⟩, ⟨(some 54), none, (.bin .shr (.t 53) (.k (.int .u64 ((32 : Nat) : Int))))⟩, ⟨(some 8), none, (.mov (.t 54))⟩] [1, 5, 6, 7, 8, 17, 18, 19, 24, 25, 26]))))) (.reg [⟨(some 55), none, (.bin .add (.t 26) (.k (.int .i64 ((1 : Nat) : Int))))⟩, ⟨(some 26), none, (.mov (.t 55))⟩] [1, 5, 6, 7, 8, 17, 18, 19, 24, 25, 26]))))))) (.reg [⟨(some 56), none, (.mov (.t 5))⟩, ⟨(some 57), none, (.mov (.t 6))⟩, ⟨(some 58), none, (.mov (.t 1))⟩, ⟨(some 59), none, (.len false (.t 58))⟩, ⟨(some 60), none, (.bin .add (.t 57) (.t 59))⟩, ⟨(some 61), none, (.mov (.t 8))⟩, ⟨(some 62), none, (.conv .u32 (.t 61))⟩, ⟨(some 63), none, (.idxA 1 (.t 56) (.t 60))⟩, ⟨none, none, (.store 1 (.t 63) (.t 62))⟩] [1, 5, 17, 18, 19]))))) (.reg [⟨(some 64), none, (.bin .add (.t 19) (.k (.int .i64 ((1 : Nat) : Int))))⟩, ⟨(some 19), none, (.mov (.t 64))⟩] [1, 5, 17, 18, 19]))))))) (.seq (.reg [⟨(some 65), none, (.mov (.t 5))⟩, ⟨(some 66), none, (.call (.k (.fn (.func 197) [] [])) [(.t 65)])⟩, ⟨(some 4), none, (.mov (.t 66))⟩] [4]) .ret))))
def rs171 : List RV := [(.t 4)]
theorem co171 : compFn Go.Proofs.Tryd.prog Go.Proofs.Tryd.f171 pl171 = some (ac171, rs171) := by kernel_rfl
theorem enter171 {args : List AV} {H : AHeap} {Q : AV → AHeap → Prop} (hn : args.length ≤ 67) (h : W Go.Proofs.Tryd.prog ac171 (retN rs171 Q) ⟨[], initE args 0, H⟩) : Run Go.Proofs.Tryd.prog 171 args H Q := Run_fn2 mixed Go.Proofs.Tryd.func171 (by kernel_rfl) co171 (n := 67) (by kernel_rfl) hn h
def ac186 : ACode := (.seq (.reg [⟨(some 4), none, (.mov (.k (.seq 0 [] true)))⟩] [0, 1]) (.seq (.seq (.reg [⟨(some 9), none, (.mov (.t 0))⟩, ⟨(some 10), none, (.len false (.t 9))⟩, ⟨(some 11), none, (.mov (.t 1))⟩, ⟨(some 12), none, (.len false (.t 11))⟩, ⟨(some 13), none, (.bin .lss (.t 10) (.t 12))⟩] [0, 1, 13]) (.cond (.t 13) (.reg [⟨(some 14), none, (.mov (.t 1))⟩, ⟨(some 15), none, (.mov (.t 0))⟩, ⟨(some 0), none, (.mov (.t 14))⟩, ⟨(some 1), none, (.mov (.t 15))⟩] [0, 1]) .skip)) (.seq (.reg [⟨(some 16), none, (.mov (.t 0))⟩, ⟨(some 17), none, (.len false (.t 16))⟩, ⟨(some 18), none, (.bin .add (.t 17) (.k (.int .i64 ((1 : Nat) : Int))))⟩, ⟨(some 19), none, (.mks 172 1 4 [(.int .u32 ((0 : Nat) : Int))] (.t 18) (.t 18))⟩, ⟨(some 5), none, (.mov (.t 19))⟩] [0, 1, 5]) (.seq (.reg [⟨(some 6), none, (.mov (.k (.int .u64 ((0 : Nat) : Int))))⟩] [0, 1, 5, 6]) (.seq (.seq (.reg [⟨(some 20), none, (.mov (.t 0))⟩, ⟨(some 21), none, (.len false (.t 20))⟩, ⟨(some 22), none, (.mov (.k (.int .i64 ((0 : Nat) : Int))))⟩] [0, 1, 5, 6, 20, 21, 22]) (.block 0 (.loop (.seq (.reg [⟨(some 23), none, (.bin .lss (.t 22) (.t 21))⟩] [0, 1, 5, 6, 20, 21, 22, 23]) (.seq (.cond (.t 23) .skip (.exit 0)) (.seq (.block 1 (.seq (.reg [⟨(some 24), none, (.mov (.t 22))⟩, ⟨(some 25), none, (.idxA 1 (.t 20) (.t 22))⟩, ⟨(some 26), none, (.load none (.t 25))⟩, ⟨(some 7), none, (.mov (.t 24))⟩, ⟨(some 8), none, (.mov (.t 26))⟩] [0, 1, 5, 6, 7, 8, 20, 21, 22]) (.seq (.reg [⟨(some 27), none, (.mov (.t 6))⟩, ⟨(some 28), none, (.mov (.t 8))⟩, ⟨(some 29), none, (.conv .u64 (.t 28))⟩, ⟨(some 30), none, (.bin .add (.t 27) (.t 29))⟩, ⟨(some 6), none, (.mov (.t 30))⟩] [0, 1, 5, 6, 7, 20, 21, 22]) (.seq (.seq (.reg [⟨(some 31), none, (.mov (.t 7))⟩, ⟨(some 32), none, (.mov (.t 1))⟩, ⟨(some 33), none, (.len false (.t 32))⟩, ⟨(some 34), none, (.bin .lss (.t 31) (.t 33))⟩] [0, 1, 5, 6, 7, 20, 21, 22, 34]) (.cond (.t 34) (.reg [⟨(some 35), none, (.mov (.t 6))⟩, ⟨(some 36), none, (.mov (.t 1))⟩, ⟨(some 37), none, (.mov (.t 7))⟩, ⟨(some 38), none, (.idxA 1 (.t 36) (.t 37))⟩, ⟨(some 39), none, (.load none (.t 38))⟩, ⟨(some 40), none, (.conv .u64 (.t 39))⟩, ⟨(some 41), none, (.bin .add (.t 35) (.t 40))⟩, ⟨(some 6), none, (.mov (.t 41))⟩] [0, 1, 5, 6, 7, 20, 21, 22]) .skip)) (.seq (.reg [⟨(some 42), none, (.mov (.t 5))⟩, ⟨(some 43), none, (.mov (.t 7))⟩, ⟨(some 44), none, (.mov (.t 6))⟩, ⟨(some 45), none, (.conv .u32 (.t 44))⟩, ⟨(some 46), none, (.idxA 1 (.t 42) (.t 43))⟩, ⟨none, none, (.store 1 (.t 46) (.t 45))⟩] [0, 1, 5, 6, 20, 21, 22]) (.reg [⟨(some 47), none, (.mov (.t 6))⟩, ⟨(some 48), none, (.bin .shr (.t 47) (.k (.int .u64 ((32 : Nat) : Int))))⟩, ⟨(some 6), none, (.mov (.t 48))⟩] [0, 1, 5, 6, 20, 21, 22])))))) (.reg [⟨(some 49), none, (.bin .add (.t 22) (.k (.int .i64 ((1 : Nat) : Int))))⟩, ⟨(some 22), none, (.mov (.t 49))⟩] [0, 1, 5, 6, 20, 21, 22]))))))) (.seq (.reg [⟨(some 50), none, (.mov (.t 5))⟩, ⟨(some 51), none, (.mov (.t 0))⟩, ⟨(some 52), none, (.len false (.t 51))⟩, ⟨(some 53), none, (.mov (.t 6))⟩, ⟨(some 54), none, (.conv .u32 (.t 53))⟩, ⟨(some 55), none, (.idxA 1 (.t 50) (.t 52))⟩, ⟨none, none, (.store 1 (.t 55) (.t 54))⟩] [5]) (.seq (.reg [⟨(some 56), none, (.mov (.t 5))⟩, ⟨(some 57), none, (.call (.k (.fn (.func 197) [] [])) [(.t 56)])⟩, ⟨(some 4), none, (.mov (.t 57))⟩] [4]) .ret)))))))
def rs186 : List RV := [(.t 4)]
theorem co186 : compFn Go.Proofs.Tryd.prog Go.Proofs.Tryd.f186 pl186 = some (ac186, rs186) := by kernel_rfl
theorem enter186 {args : List AV} {H : AHeap} {Q : AV → AHeap → Prop} (hn : args.length ≤ 58) (h : W Go.Proofs.Tryd.prog ac186 (retN rs186 Q) ⟨[], initE args 0, H⟩) : Run Go.Proofs.Tryd.prog 186 args H Q := Run_fn2 mixed Go.Proofs.Tryd.func186 (by kernel_rfl) co186 (n := 58) (by kernel_rfl) hn h
def ac187 : ACode := (.seq (.reg [⟨(some 4), none, (.mov (.k (.seq 0 [] true)))⟩, ⟨(some 5), none, (.mov (.k (.int .i64 ((0 : Nat) : Int))))⟩] [0, 1]) (.seq (.seq (.reg [⟨(some 12), none, (.mov (.t 0))⟩, ⟨(some 13), none, (.mov (.t 1))⟩, ⟨(some 14), none, (.call (.k (.fn (.func 148) [] [])) [(.t 12), (.t 13)])⟩, ⟨(some 15), none, (.bin .lss (.t 14) (.k (.int .i64 ((0 : Nat) : Int))))⟩] [0, 1, 15]) (.cond (.t 15) (.seq (.reg [⟨(some 4), none, (.mov (.k (.seq 0 [] true)))⟩, ⟨(some 5), none, (.mov (.k (.int .i64 ((5 : Nat) : Int))))⟩] [4, 5]) .ret) .skip)) (.seq (.reg [⟨(some 16), none, (.mov (.t 0))⟩, ⟨(some 17), none, (.len false (.t 16))⟩, ⟨(some 18), none, (.mks 172 1 4 [(.int .u32 ((0 : Nat) : Int))] (.t 17) (.t 17))⟩, ⟨(some 6), none, (.mov (.t 18))⟩] [0, 1, 6]) (.seq (.reg [⟨(some 7), none, (.mov (.k (.int .u64 ((0 : Nat) : Int))))⟩] [0, 1, 6, 7]) (.seq (.seq (.reg [⟨(some 19), none, (.mov (.t 0))⟩, ⟨(some 20), none, (.len false (.t 19))⟩, ⟨(some 21), none, (.mov (.k (.int .i64 ((0 : Nat) : Int))))⟩] [1, 6, 7, 19, 20, 21]) (.block 0 (.loop (.seq (.reg [⟨(some 22), none, (.bin .lss (.t 21) (.t 20))⟩] [1, 6, 7, 19, 20, 21, 22]) (.seq (.cond (.t 22) .skip (.exit 0)) (.seq (.block 1 (.seq (.reg [⟨(some 23), none, (.mov (.t 21))⟩, ⟨(some 24), none, (.idxA 1 (.t 19) (.t 21))⟩, ⟨(some 25), none, (.load none (.t 24))⟩, ⟨(some 8), none, (.mov (.t 23))⟩, ⟨(some 9), none, (.mov (.t 25))⟩] [1, 6, 7, 8, 9, 19, 20, 21]) (.seq (.reg [⟨(some 26), none, (.mov (.t 7))⟩, ⟨(some 10), none, (.mov (.t 26))⟩] [1, 6, 8, 9, 10, 19, 20, 21]) (.seq (.seq (.reg [⟨(some 27), none, (.mov (.t 8))⟩, ⟨(some 28), none, (.mov (.t 1))⟩, ⟨(some 29), none, (.len false (.t 28))⟩, ⟨(some 30), none, (.bin .lss (.t 27) (.t 29))⟩] [1, 6, 8, 9, 10, 19, 20, 21, 30]) (.cond (.t 30) (.reg [⟨(some 31), none, (.mov (.t 10))⟩, ⟨(some 32), none, (.mov (.t 1))⟩, ⟨(some 33), none, (.mov (.t 8))⟩, ⟨(some 34), none, (.idxA 1 (.t 32) (.t 33))⟩, ⟨(some 35), none, (.load none (.t 34))⟩, ⟨(some 36), none, (.conv .u64 (.t 35))⟩, ⟨(some 37), none, (.bin .add (.t 31) (.t 36))⟩, ⟨(some 10), none, (.mov (.t 37))⟩] [1, 6, 8, 9, 10, 19, 20, 21]) .skip)) (.seq (.reg [⟨(some 38), none, (.mov (.t 9))⟩, ⟨(some 39), none, (.conv .u64 (.t 38))⟩, ⟨(some 40), none, (.mov (.t 10))⟩, ⟨(some 41), none, (.bin .sub (.t 39) (.t 40))⟩, ⟨(some 11), none, (.mov (.t 41))⟩] [1, 6, 8, 11, 19, 20, 21]) (.seq (.reg [⟨(some 42), none, (.mov (.t 6))⟩, ⟨(some 43), none, (.mov (.t 8))⟩, ⟨(some 44), none, (.mov (.t 11))⟩, ⟨(some 45), none, (.conv .u32 (.t 44))⟩, ⟨(some 46), none, (.idxA 1 (.t 42) (.t 43))⟩, ⟨none, none, (.store 1 (.t 46) (.t 45))⟩] [1, 6, 11, 19, 20, 21]) (.reg [⟨(some 47), none, (.mov (.t 11))⟩, ⟨(some 48), none, (.bin .shr (.t 47) (.k (.int .u64 ((32 : Nat) : Int))))⟩, ⟨(some 49), none, (.bin .and (.t 48) (.k (.int .u64 ((1 : Nat) : Int))))⟩, ⟨(some 7), none, (.mov (.t 49))⟩] [1, 6, 7, 19, 20, 21]))))))) (.reg [⟨(some 50), none, (.bin .add (.t 21) (.k (.int .i64 ((1 : Nat) : Int))))⟩, ⟨(some 21), none, (.mov (.t 50))⟩] [1, 6, 7, 19, 20, 21]))))))) (.seq (.reg [⟨(some 51), none, (.mov (.t 6))⟩, ⟨(some 52), none, (.call (.k (.fn (.func 197) [] [])) [(.t 51)])⟩, ⟨(some 4), none, (.mov (.t 52))⟩, ⟨(some 5), none, (.mov (.k (.int .i64 ((0 : Nat) : Int))))⟩] [4, 5]) .ret))))))
def rs187 : List RV := [(.t 4), (.t 5)]
theorem co187 : compFn Go.Proofs.Tryd.prog Go.Proofs.Tryd.f187 pl187 = some (ac187, rs187) := by kernel_rfl
theorem enter187 {args : List AV} {H : AHeap} {Q : AV → AHeap → Prop} (hn : args.length ≤ 53) (h : W Go.Proofs.Tryd.prog ac187 (retN rs187 Q) ⟨[], initE args 0, H⟩) : Run Go.Proofs.Tryd.prog 187 args H Q := Run_fn2 mixed Go.Proofs.Tryd.func187 (by kernel_rfl) co187 (n := 53) (by kernel_rfl) hn h
def ac190 : ACode := (.seq (.reg [⟨(some 2), none, (.mov (.k (.str ⟨#[]⟩)))⟩] [0]) (.seq (.reg [⟨(some 3), none, (.mov (.k (.seq 0 [] true)))⟩] [0, 3]) (.seq (.seq (.reg [⟨(some 14), none, (.mov (.t 0))⟩, ⟨(some 15), none, (.call (.k (.fn (.func 138) [] [])) [(.t 14)])⟩, ⟨(some 4), none, (.mov (.t 15))⟩] [3, 4]) (.block 0 (.loop (.seq (.seq (.reg [⟨(some 16), none, (.mov (.t 4))⟩, ⟨(some 17), none, (.len false (.t 16))⟩, ⟨(some 18), none, (.bin .gtr (.t 17) (.k (.int .i64 ((0 : Nat) : Int))))⟩] [3, 4, 18]) (.cond (.t 18) .skip (.exit 0))) (.block 1 (.seq (.reg [⟨(some 20), none, (.mov (.t 4))⟩, ⟨(some 21), none, (.call (.k (.fn (.func 212) [] [])) [(.t 20), (.k (.int .u32 ((1000000000 : Nat) : Int)))])⟩, ⟨(some 19), none, (.mov (.t 21))⟩, ⟨(some 22), none, (.ext (.t 19) 0)⟩, ⟨(some 23), none, (.ext (.t 19) 1)⟩, ⟨(some 24), none, (.ext (.t 19) 2)⟩, ⟨(some 5), none, (.mov (.t 22))⟩, ⟨(some 6), none, (.mov (.t 23))⟩, ⟨(some 7), none, (.mov (.t 24))⟩] [3, 5, 6]) (.seq (.reg [⟨(some 25), none, (.mov (.t 3))⟩, ⟨(some 26), none, (.mov (.t 6))⟩, ⟨(some 27), none, (.bsl [(.int .u32 ((0 : Nat) : Int))] 1 1 [(0, (1, (.t 26)))])⟩, ⟨(some 28), none, (.app 172 1 4 (.t 25) (.t 27))⟩, ⟨(some 3), none, (.mov (.t 28))⟩] [3, 5]) (.reg [⟨(some 29), none, (.mov (.t 5))⟩, ⟨(some 4), none, (.mov (.t 29))⟩] [3, 4])))))))) (.seq (.seq (.reg [⟨(some 30), none, (.mov (.t 3))⟩, ⟨(some 31), none, (.len false (.t 30))⟩, ⟨(some 32), none, (.bin .eql (.t 31) (.k (.int .i64 ((0 : Nat) : Int))))⟩] [3, 32]) (.cond (.t 32) (.seq (.reg [⟨(some 2), none, (.mov (.k (.str ⟨#[48]⟩)))⟩] [2]) .ret) .skip)) (.seq (.reg [⟨(some 8), none, (.alloc 234 0 [.nilP, (.seq 0 [] true)])⟩] [3, 8]) (.seq (.seq (.reg [⟨(some 33), none, (.mov (.t 3))⟩, ⟨(some 34), none, (.len false (.t 33))⟩, ⟨(some 35), none, (.bin .sub (.t 34) (.k (.int .i64 ((1 : Nat) : Int))))⟩, ⟨(some 9), none, (.mov (.t 35))⟩] [3, 8, 9]) (.block 2 (.loop (.seq (.seq (.reg [⟨(some 36), none, (.mov (.t 9))⟩, ⟨(some 37), none, (.bin .geq (.t 36) (.k (.int .i64 ((0 : Nat) : Int))))⟩] [3, 8, 9, 37]) (.cond (.t 37) .skip (.exit 2))) (.seq (.block 3 (.seq (.reg [⟨(some 10), none, (.alloc 248 1 [(.int .u8 ((0 : Nat) : Int)), (.int .u8 ((0 : Nat) : Int)), (.int .u8 ((0 : Nat) : Int)), (.int .u8 ((0 : Nat) : Int)), (.int .u8 ((0 : Nat) : Int)), (.int .u8 ((0 : Nat) : Int)), (.int .u8 ((0 : Nat) : Int)), (.int .u8 ((0 : Nat) : Int)), (.int .u8 ((0 : Nat) : Int))])⟩] [3, 8, 9, 10]) (.seq (.reg [⟨(some 40), none, (.mov (.t 3))⟩, ⟨(some 41), none, (.mov (.t 9))⟩, ⟨(some 42), none, (.idxA 1 (.t 40) (.t 41))⟩, ⟨(some 43), none, (.load none (.t 42))⟩, ⟨(some 11), none, (.mov (.t 43))⟩] [3, 8, 9, 10, 11]) (.seq (.seq (.reg [⟨(some 12), none, (.mov (.k (.int .i64 ((8 : Nat) : Int))))⟩] [3, 8, 9, 10, 11, 12]) (.block 4 (.loop (.seq (.seq (.reg [⟨(some 44), none, (.mov (.t 12))⟩, ⟨(some 45), none, (.bin .geq (.t 44) (.k (.int .i64 ((0 : Nat) : Int))))⟩] [3, 8, 9, 10, 11, 12, 45]) (.cond (.t 45) .skip (.exit 4))) (.seq (.block 5 (.seq (.reg [⟨(some 48), none, (.mov (.t 12))⟩, ⟨(some 49), none, (.mov (.t 11))⟩, ⟨(some 50), none, (.bin .rem (.t 49) (.k (.int .u32 ((10 : Nat) : Int))))⟩, ⟨(some 51), none, (.bin .add (.k (.int .u32 ((48 : Nat) : Int))) (.t 50))⟩, ⟨(some 52), none, (.conv .u8 (.t 51))⟩, ⟨(some 53), none, (.prim (.idxP 9 1) [(.t 10), (.t 48)])⟩, ⟨none, none, (.store 1 (.t 53) (.t 52))⟩] [3, 8, 9, 10, 11, 12]) (.reg [⟨(some 54), none, (.mov (.t 11))⟩, ⟨(some 55), none, (.bin .quo (.t 54) (.k (.int .u32 ((10 : Nat) : Int))))⟩, ⟨(some 11), none, (.mov (.t 55))⟩] [3, 8, 9, 10, 11, 12]))) (.reg [⟨(some 46), none, (.mov (.t 12))⟩, ⟨(some 47), none, (.bin .sub (.t 46) (.k (.int .i64 ((1 : Nat) : Int))))⟩, ⟨(some 12), none, (.mov (.t 47))⟩] [3, 8, 9, 10, 11, 12])))))) (.seq (.reg [⟨(some 56), none, (.prim (.slcP 9 1) [(.t 10)])⟩, ⟨(some 57), none, (.prim .b2s [(.t 56)])⟩, ⟨(some 13), none, (.mov (.t 57))⟩] [3, 8, 9, 13]) (.seq (.seq (.reg [⟨(some 58), none, (.mov (.t 9))⟩, ⟨(some 59), none, (.mov (.t 3))⟩, ⟨(some 60), none, (.len false (.t 59))⟩, ⟨(some 61), none, (.bin .sub (.t 60) (.k (.int .i64 ((1 : Nat) : Int))))⟩, ⟨(some 62), none, (.bin .eql (.t 58) (.t 61))⟩] [3, 8, 9, 13, 62]) (.cond (.t 62) (.reg [⟨(some 63), none, (.mov (.t 13))⟩, ⟨(some 64), none, (.call (.k (.fn (.func 213) [] [])) [(.t 63), (.k (.str ⟨#[48]⟩))])⟩, ⟨(some 13), none, (.mov (.t 64))⟩] [3, 8, 9, 13]) .skip)) (.reg [⟨(some 65), none, (.mov (.t 13))⟩, ⟨(some 66), none, (.call (.k (.fn (.func 204) [] [])) [(.t 8), (.t 65)])⟩] [3, 8, 9]))))))) (.reg [⟨(some 38), none, (.mov (.t 9))⟩, ⟨(some 39), none, (.bin .sub (.t 38) (.k (.int .i64 ((1 : Nat) : Int))))⟩, ⟨(some 9), none, (.mov (.t 39))⟩] [3, 8, 9])))))) (.seq (.reg [⟨(some 67), none, (.call (.k (.fn (.func 205) [] [])) [(.t 8)])⟩, ⟨(some 2), none, (.mov (.t 67))⟩] [2]) .ret)))))))
def rs190 : List RV := [(.t 2)]
theorem co190 : compFn Go.Proofs.Tryd.prog Go.Proofs.Tryd.f190 pl190 = some (ac190, rs190) := by kernel_rfl
theorem enter190 {args : List AV} {H : AHeap} {Q : AV → AHeap → Prop} (hn : args.length ≤ 68) (h : W Go.Proofs.Tryd.prog ac190 (retN rs190 Q) ⟨[], initE args 0, H⟩) : Run Go.Proofs.Tryd.prog 190 args H Q := Run_fn2 mixed Go.Proofs.Tryd.func190 (by kernel_rfl) co190 (n := 68) (by kernel_rfl) hn h
def ac191 : ACode := (.seq (.reg [⟨(some 5), none, (.load none (.t 1))⟩, ⟨(some 6), none, (.rng (.t 5))⟩] [0, 6]) (.block 0 (.loop (.seq (.reg [⟨(some 7), none, (.nxt (.t 6))⟩, ⟨(some 8), none, (.ext (.t 7) 0)⟩] [0, 6, 7, 8]) (.seq (.cond (.t 8) .skip (.exit 0)) (.block 1 (.seq (.reg [⟨(some 9), none, (.ext (.t 7) 2)⟩, ⟨(some 4), none, (.mov (.t 9))⟩] [0, 4, 6]) (.seq (.reg [⟨(some 10), none, (.mov (.t 0))⟩, ⟨(some 11), none, (.mov (.t 4))⟩, ⟨(some 12), none, (.bin .sub (.t 11) (.k (.int .i32 ((48 : Nat) : Int))))⟩, ⟨(some 13), none, (.conv .i64 (.t 12))⟩, ⟨(some 14), none, (.call (.t 10) [(.t 13)])⟩, ⟨(some 15), none, (.un .not (.t 14))⟩] [0, 6, 15]) (.cond (.t 15) .ret .skip)))))))))
def rs191 : List RV := []
theorem co191 : compFn Go.Proofs.Tryd.prog Go.Proofs.Tryd.f191 pl191 = some (ac191, rs191) := by kernel_rfl
theorem enter191 {args : List AV} {H : AHeap} {Q : AV → AHeap → Prop} (hn : args.length ≤ 16) (h : W Go.Proofs.Tryd.prog ac191 (retN rs191 Q) ⟨[], initE args 0, H⟩) : Run Go.Proofs.Tryd.prog 191 args H Q := Run_fn2 mixed Go.Proofs.Tryd.func191 (by kernel_rfl) co191 (n := 16) (by kernel_rfl) hn h
def ac192 : ACode := (.seq (.reg [⟨(some 2), none, (.mov (.k (.int .i64 ((0 : Nat) : Int))))⟩] [0]) (.seq (.seq (.reg [⟨(some 5), none, (.mov (.t 0))⟩, ⟨(some 6), none, (.len false (.t 5))⟩, ⟨(some 7), none, (.bin .eql (.t 6) (.k (.int .i64 ((0 : Nat) : Int))))⟩] [0, 7]) (.cond (.t 7) (.seq (.reg [⟨(some 2), none, (.mov (.k (.int .i64 ((0 : Nat) : Int))))⟩] [2]) .ret) .skip)) (.seq (.reg [⟨(some 8), none, (.mov (.t 0))⟩, ⟨(some 9), none, (.len false (.t 8))⟩, ⟨(some 10), none, (.bin .sub (.t 9) (.k (.int .i64 ((1 : Nat) : Int))))⟩, ⟨(some 11), none, (.bin .mul (.k (.int .i64 ((16 : Nat) : Int))) (.t 10))⟩, ⟨(some 3), none, (.mov (.t 11))⟩] [0, 3]) (.seq (.reg [⟨(some 12), none, (.mov (.t 0))⟩, ⟨(some 13), none, (.mov (.t 0))⟩, ⟨(some 14), none, (.len false (.t 13))⟩, ⟨(some 15), none, (.bin .sub (.t 14) (.k (.int .i64 ((1 : Nat) : Int))))⟩, ⟨(some 16), none, (.idxA 1 (.t 12) (.t 15))⟩, ⟨(some 17), none, (.load none (.t 16))⟩, ⟨(some 4), none, (.mov (.t 17))⟩] [3, 4]) (.seq (.block 0 (.loop (.seq (.seq (.reg [⟨(some 18), none, (.mov (.t 4))⟩, ⟨(some 19), none, (.bin .gtr (.t 18) (.k (.int .u32 ((0 : Nat) : Int))))⟩] [3, 4, 19]) (.cond (.t 19) .skip (.exit 0))) (.block 1 (.seq (.reg [⟨(some 20), none, (.mov (.t 3))⟩, ⟨(some 21), none, (.bin .add (.t 20) (.k (.int .i64 ((1 : Nat) : Int))))⟩, ⟨(some 3), none, (.mov (.t 21))⟩] [3, 4]) (.reg [⟨(some 22), none, (.mov (.t 4))⟩, ⟨(some 23), none, (.bin .quo (.t 22) (.k (.int .u32 ((2 : Nat) : Int))))⟩, ⟨(some 4), none, (.mov (.t 23))⟩] [3, 4])))))) (.seq (.reg [⟨(some 24), none, (.mov (.t 3))⟩, ⟨(some 2), none, (.mov (.t 24))⟩] [2]) .ret))))))
def rs192 : List RV := [(.t 2)]
theorem co192 : compFn Go.Proofs.Tryd.prog Go.Proofs.Tryd.f192 pl192 = some (ac192, rs192) := by kernel_rfl
theorem enter192 {args : List AV} {H : AHeap} {Q : AV → AHeap → Prop} (hn : args.length ≤ 25) (h : W Go.Proofs.Tryd.prog ac192 (retN rs192 Q) ⟨[], initE args 0, H⟩) : Run Go.Proofs.Tryd.prog 192 args H Q := Run_fn2 mixed Go.Proofs.Tryd.func192 (by kernel_rfl) co192 (n := 25) (by kernel_rfl) hn h
def ac193 : ACode := (.seq (.reg [⟨(some 4), none, (.mov (.k (.int .u32 ((0 : Nat) : Int))))⟩] [0, 1]) (.seq (.reg [⟨(some 5), none, (.mov (.t 0))⟩, ⟨(some 6), none, (.mov (.t 1))⟩, ⟨(some 7), none, (.bin .quo (.t 6) (.k (.int .i64 ((16 : Nat) : Int))))⟩, ⟨(some 8), none, (.idxA 1 (.t 5) (.t 7))⟩, ⟨(some 9), none, (.load none (.t 8))⟩, ⟨(some 10), none, (.mov (.t 1))⟩, ⟨(some 11), none, (.bin .rem (.t 10) (.k (.int .i64 ((16 : Nat) : Int))))⟩, ⟨(some 12), none, (.bin .shr (.t 9) (.t 11))⟩, ⟨(some 13), none, (.bin .and (.t 12) (.k (.int .u32 ((1 : Nat) : Int))))⟩, ⟨(some 4), none, (.mov (.t 13))⟩] [4]) .ret))
def rs193 : List RV := [(.t 4)]
theorem co193 : compFn Go.Proofs.Tryd.prog Go.Proofs.Tryd.f193 pl193 = some (ac193, rs193) := by kernel_rfl
theorem enter193 {args : List AV} {H : AHeap} {Q : AV → AHeap → Prop} (hn : args.length ≤ 14) (h : W Go.Proofs.Tryd.prog ac193 (retN rs193 Q) ⟨[], initE args 0, H⟩) : Run Go.Proofs.Tryd.prog 193 args H Q := Run_fn2 mixed Go.Proofs.Tryd.func193 (by kernel_rfl) co193 (n := 14) (by kernel_rfl) hn h
def ac194 : ACode := (.seq (.reg [⟨(some 4), none, (.mov (.k (.int .i64 ((0 : Nat) : Int))))⟩] [0, 1]) (.seq (.seq (.reg [⟨(some 6), none, (.mov (.t 0))⟩, ⟨(some 7), none, (.len false (.t 6))⟩, ⟨(some 8), none, (.mov (.t 1))⟩, ⟨(some 9), none, (.len false (.t 8))⟩, ⟨(some 10), none, (.bin .neq (.t 7) (.t 9))⟩] [0, 1, 10]) (.cond (.t 10) (.seq (.seq (.reg [⟨(some 11), none, (.mov (.t 0))⟩, ⟨(some 12), none, (.len false (.t 11))⟩, ⟨(some 13), none, (.mov (.t 1))⟩, ⟨(some 14), none, (.len false (.t 13))⟩, ⟨(some 15), none, (.bin .lss (.t 12) (.t 14))⟩] [15]) (.cond (.t 15) (.seq (.reg [⟨(some 4), none, (.mov (.k (.int .i64 (-1))))⟩] [4]) .ret) .skip)) (.seq (.reg [⟨(some 4), none, (.mov (.k (.int .i64 ((1 : Nat) : Int))))⟩] [4]) .ret)) .skip)) (.seq (.seq (.reg [⟨(some 16), none, (.mov (.t 0))⟩, ⟨(some 17), none, (.len false (.t 16))⟩, ⟨(some 18), none, (.bin .sub (.t 17) (.k (.int .i64 ((1 : Nat) : Int))))⟩, ⟨(some 5), none, (.mov (.t 18))⟩] [0, 1, 5]) (.block 0 (.loop (.seq (.seq (.reg [⟨(some 19), none, (.mov (.t 5))⟩, ⟨(some 20), none, (.bin .geq (.t 19) (.k (.int .i64 ((0 : Nat) : Int))))⟩] [0, 1, 5, 20]) (.cond (.t 20) .skip (.exit 0))) (.seq (.block 1 (.seq (.seq (.draw [⟨(some 23), none, (.mov (.t 0))⟩, ⟨(some 24), none, (.mov (.t 5))⟩, ⟨(some 25), none, (.idxA 1 (.t 23) (.t 24))⟩, ⟨(some 26), none, (.load none (.t 25))⟩, ⟨(some 27), none, (.mov (.t 1))⟩, ⟨(some 28), none, (.mov (.t 5))⟩, ⟨(some 29), none, (.idxA 1 (.t 27) (.t 28))⟩, ⟨(some 30), none, (.load none (.t 29))⟩] [⟨(some 31), none, (.bin .lss (.t 26) (.t 30))⟩] [0, 1, 0, 0, 15, 31, 15, 15] [0, 1, 5, 31]) (.cond (.t 31) (.seq (.reg [⟨(some 4), none, (.mov (.k (.int .i64 (-1))))⟩] [4]) .ret) .skip)) (.seq (.draw [⟨(some 32), none, (.mov (.t 0))⟩, ⟨(some 33), none, (.mov (.t 5))⟩, ⟨(some 34), none, (.idxA 1 (.t 32) (.t 33))⟩, ⟨(some 35), none, (.load none (.t 34))⟩, ⟨(some 36), none, (.mov (.t 1))⟩, ⟨(some 37), none, (.mov (.t 5))⟩, ⟨(some 38), none, (.idxA 1 (.t 36) (.t 37))⟩, ⟨(some 39), none, (.load none (.t 38))⟩] [⟨(some 40), none, (.bin .gtr (.t 35) (.t 39))⟩] [0, 1, 0, 0, 15, 31, 15, 15] [0, 1, 5, 40]) (.cond (.t 40) (.seq (.reg [⟨(some 4), none, (.mov (.k (.int .i64 ((1 : Nat) : Int))))⟩] [4]) .ret) .skip)))) (.reg [⟨(some 21), none, (.mov (.t 5))⟩, ⟨(some 22), none, (.bin .sub (.t 21) (.k (.int .i64 ((1 : Nat) : Int))))⟩, ⟨(some 5), none, (.mov (.t 22))⟩] [0, 1, 5])))))) (.seq (.reg [⟨(some 4), none, (.mov (.k (.int .i64 ((0 : Nat) : Int))))⟩] [4]) .ret))))
def rs194 : List RV := [(.t 4)]
theorem co194 : compFn Go.Proofs.Tryd.prog Go.Proofs.Tryd.f194 pl194 = some (ac194, rs194) := by kernel_rfl
theorem enter194 {args : List AV} {H : AHeap} {Q : AV → AHeap → Prop} (hn : args.length ≤ 41) (h : W Go.Proofs.Tryd.prog ac194 (retN rs194 Q) ⟨[], initE args 0, H⟩) : Run Go.Proofs.Tryd.prog 194 args H Q := Run_fn2 mixed Go.Proofs.Tryd.func194 (by kernel_rfl) co194 (n := 41) (by kernel_rfl) hn h
def ac195 : ACode := (.seq (.reg [⟨(some 4), none, (.mov (.k (.seq 0 [] true)))⟩] [0, 1]) (.seq (.reg [⟨(some 5), none, (.mov (.k (.seq 0 [] true)))⟩] [0, 1, 5]) (.seq (.reg [⟨(some 6), none, (.mov (.k (.int .u32 ((0 : Nat) : Int))))⟩] [0, 1, 5, 6]) (.seq (.seq (.reg [⟨(some 7), none, (.mov (.k (.int .i64 ((0 : Nat) : Int))))⟩] [0, 1, 5, 6, 7]) (.block 0 (.loop (.seq (.seq (.reg [⟨(some 10), none, (.mov (.t 7))⟩, ⟨(some 11), none, (.mov (.t 0))⟩, ⟨(some 12), none, (.len false (.t 11))⟩, ⟨(some 13), none, (.bin .lss (.t 10) (.t 12))⟩] [0, 1, 5, 6, 7, 13]) (.cond (.t 13) .skip (.exit 0))) (.seq (.block 1 (.seq (.reg [⟨(some 16), none, (.mov (.t 6))⟩, ⟨(some 8), none, (.mov (.t 16))⟩] [0, 1, 5, 7, 8]) (.seq (.seq (.reg [⟨(some 17), none, (.mov (.t 7))⟩, ⟨(some 18), none, (.mov (.t 1))⟩, ⟨(some 19), none, (.len false (.t 18))⟩, ⟨(some 20), none, (.bin .lss (.t 17) (.t 19))⟩] [0, 1, 5, 7, 8, 20]) (.cond (.t 20) (.reg [⟨(some 21), none, (.mov (.t 8))⟩, ⟨(some 22), none, (.mov (.t 1))⟩, ⟨(some 23), none, (.mov (.t 7))⟩, ⟨(some 24), none, (.idxA 1 (.t 22) (.t 23))⟩, ⟨(some 25), none, (.load none (.t 24))⟩, ⟨(some 26), none, (.bin .add (.t 21) (.t 25))⟩, ⟨(some 8), none, (.mov (.t 26))⟩] [0, 1, 5, 7, 8]) .skip)) (.seq (.reg [⟨(some 6), none, (.mov (.k (.int .u32 ((0 : Nat) : Int))))⟩] [0, 1, 5, 6, 7, 8]) (.seq (.reg [⟨(some 27), none, (.mov (.t 0))⟩, ⟨(some 28), none, (.mov (.t 7))⟩, ⟨(some 29), none, (.idxA 1 (.t 27) (.t 28))⟩, ⟨(some 30), none, (.load none (.t 29))⟩, ⟨(some 9), none, (.mov (.t 30))⟩] [0, 1, 5, 6, 7, 8, 9]) (.seq (.seq (.reg [⟨(some 31), none, (.mov (.t 9))⟩, ⟨(some 32), none, (.mov (.t 8))⟩, ⟨(some 33), none, (.bin .lss (.t 31) (.t 32))⟩] [0, 1, 5, 6, 7, 8, 9, 33]) (.cond (.t 33) (.seq (.reg [⟨(some 34), none, (.mov (.t 9))⟩, ⟨(some 35), none, (.bin .add (.t 34) (.k (.int .u32 ((65536 : Nat) : Int))))⟩, ⟨(some 9), none, (.mov (.t 35))⟩] [0, 1, 5, 7, 8, 9]) (.reg [⟨(some 6), none, (.mov (.k (.int .u32 ((1 : Nat) : Int))))⟩] [0, 1, 5, 6, 7, 8, 9])) .skip)) (.reg [⟨(some 36), none, (.mov (.t 5))⟩, ⟨(some 37), none, (.mov (.t 9))⟩, ⟨(some 38), none, (.mov (.t 8))⟩, ⟨(some 39), none, (.bin .sub (.t 37) (.t 38))⟩, ⟨(some 40), none, (.bsl [(.int .u32 ((0 : Nat) : Int))] 1 1 [(0, (1, (.t 39)))])⟩, ⟨(some 41), none, (.app 172 1 4 (.t 36) (.t 40))⟩, ⟨(some 5), none, (.mov (.t 41))⟩] [0, 1, 5, 6, 7]))))))) (.reg [⟨(some 14), none, (.mov (.t 7))⟩, ⟨(some 15), none, (.bin .add (.t 14) (.k (.int .i64 ((1 : Nat) : Int))))⟩, ⟨(some 7), none, (.mov (.t 15))⟩] [0, 1, 5, 6, 7])))))) (.seq (.reg [⟨(some 42), none, (.mov (.t 5))⟩, ⟨(some 4), none, (.mov (.t 42))⟩] [4]) .ret)))))
def rs195 : List RV := [(.t 4)]
theorem co195 : compFn Go.Proofs.Tryd.prog Go.Proofs.Tryd.f195 pl195 = some (ac195, rs195) := by kernel_rfl
theorem enter195 {args : List AV} {H : AHeap} {Q : AV → AHeap → Prop} (hn : args.length ≤ 43) (h : W Go.Proofs.Tryd.prog ac195 (retN rs195 Q) ⟨[], initE args 0, H⟩) : Run Go.Proofs.Tryd.prog 195 args H Q := Run_fn2 mixed Go.Proofs.Tryd.func195 (by kernel_rfl) co195 (n := 43) (by kernel_rfl) hn h
def ac197 : ACode := (.seq (.reg [⟨(some 2), none, (.mov (.k (.seq 0 [] true)))⟩] [0]) (.seq (.reg [⟨(some 4), none, (.mov (.t 0))⟩, ⟨(some 5), none, (.len false (.t 4))⟩, ⟨(some 3), none, (.mov (.t 5))⟩] [0, 3]) (.seq (.block 0 (.loop (.seq (.seq (.reg [⟨(some 6), none, (.mov (.t 3))⟩, ⟨(some 7), none, (.bin .gtr (.t 6) (.k (.int .i64 ((0 : Nat) : Int))))⟩, ⟨(some 8), none, (.mov (.t 7))⟩, ⟨(some 9), (some (8, true)), (.mov (.t 0))⟩, ⟨(some 10), (some (8, true)), (.mov (.t 3))⟩, ⟨(some 11), (some (8, true)), (.bin .sub (.t 10) (.k (.int .i64 ((1 : Nat) : Int))))⟩, ⟨(some 12), (some (8, true)), (.idxA 1 (.t 9) (.t 11))⟩, ⟨(some 13), (some (8, true)), (.load none (.t 12))⟩, ⟨(some 14), (some (8, true)), (.bin .eql (.t 13) (.k (.int .u32 ((0 : Nat) : Int))))⟩, ⟨(some 15), none, (.pick (.t 8) (.t 14) (.k (.bool false)))⟩] [0, 3, 15]) (.cond (.t 15) .skip (.exit 0))) (.block 1 (.reg [⟨(some 16), none, (.mov (.t 3))⟩, ⟨(some 17), none, (.bin .sub (.t 16) (.k (.int .i64 ((1 : Nat) : Int))))⟩, ⟨(some 3), none, (.mov (.t 17))⟩] [0, 3]))))) (.seq (.reg [⟨(some 18), none, (.mov (.t 0))⟩, ⟨(some 19), none, (.mov (.t 3))⟩, ⟨(some 20), none, (.mov (.t 3))⟩, ⟨(some 21), none, (.slc 1 (.t 18) none (some (.t 19)) (some (.t 20)))⟩, ⟨(some 2), none, (.mov (.t 21))⟩] [2]) .ret))))
def rs197 : List RV := [(.t 2)]
theorem co197 : compFn Go.Proofs.Tryd.prog Go.Proofs.Tryd.f197 pl197 = some (ac197, rs197) := by kernel_rfl
theorem enter197 {args : List AV} {H : AHeap} {Q : AV → AHeap → Prop} (hn : args.length ≤ 22) (h : W Go.Proofs.Tryd.prog ac197 (retN rs197 Q) ⟨[], initE args 0, H⟩) : Run Go.Proofs.Tryd.prog 197 args H Q := Run_fn2 mixed Go.Proofs.Tryd.func197 (by kernel_rfl) co197 (n := 22) (by kernel_rfl) hn h
def ac204 : ACode := (.seq (.reg [⟨(some 4), none, (.mov (.k (.int .i64 ((0 : Nat) : Int))))⟩, ⟨(some 5), none, (.mov (.k .nilI))⟩] [0, 1]) (.seq (.reg [⟨(some 6), none, (.mov (.t 0))⟩, ⟨(some 7), none, (.call (.k (.fn (.func 215) [] [])) [(.t 6)])⟩] [0, 1]) (.seq (.reg [⟨(some 8), none, (.mov (.t 0))⟩, ⟨(some 9), none, (.mov (.t 0))⟩, ⟨(some 10), none, (.prim .nck [(.t 9)])⟩, ⟨(some 11), none, (.fldA 1 (.t 10))⟩, ⟨(some 12), none, (.load none (.t 11))⟩, ⟨(some 13), none, (.mov (.t 1))⟩, ⟨(some 14), none, (.app 5 1 1 (.t 12) (.t 13))⟩, ⟨(some 15), none, (.prim .nck [(.t 8)])⟩, ⟨(some 16), none, (.fldA 1 (.t 15))⟩, ⟨none, none, (.store 1 (.t 16) (.t 14))⟩] [1]) (.seq (.reg [⟨(some 17), none, (.mov (.t 1))⟩, ⟨(some 18), none, (.len true (.t 17))⟩, ⟨(some 4), none, (.mov (.t 18))⟩, ⟨(some 5), none, (.mov (.k .nilI))⟩] [4, 5]) .ret))))
def rs204 : List RV := [(.t 4), (.t 5)]
theorem co204 : compFn Go.Proofs.Tryd.prog Go.Proofs.Tryd.f204 pl204 = some (ac204, rs204) := by kernel_rfl
theorem enter204 {args : List AV} {H : AHeap} {Q : AV → AHeap → Prop} (hn : args.length ≤ 19) (h : W Go.Proofs.Tryd.prog ac204 (retN rs204 Q) ⟨[], initE args 0, H⟩) : Run Go.Proofs.Tryd.prog 204 args H Q := Run_fn2 mixed Go.Proofs.Tryd.func204 (by kernel_rfl) co204 (n := 19) (by kernel_rfl) hn h
def ac205 : ACode := (.seq (.reg [⟨(some 2), none, (.mov (.k (.str ⟨#[]⟩)))⟩] [0]) (.seq (.draw [⟨(some 3), none, (.mov (.t 0))⟩, ⟨(some 4), none, (.prim .nck [(.t 3)])⟩, ⟨(some 5), none, (.fldA 1 (.t 4))⟩, ⟨(some 6), none, (.load none (.t 5))⟩, ⟨(some 7), none, (.prim .usd [(.t 6)])⟩, ⟨(some 8), none, (.mov (.t 0))⟩, ⟨(some 9), none, (.prim .nck [(.t 8)])⟩, ⟨(some 10), none, (.fldA 1 (.t 9))⟩, ⟨(some 11), none, (.load none (.t 10))⟩, ⟨(some 12), none, (.len false (.t 11))⟩] [⟨(some 13), none, (.ust 5 (.t 7) (.t 12))⟩, ⟨(some 2), none, (.mov (.t 13))⟩] [0, 0, 0, 0, 0, 31, 31, 31, 31, 31] [2]) .ret))
def rs205 : List RV := [(.t 2)]
theorem co205 : compFn Go.Proofs.Tryd.prog Go.Proofs.Tryd.f205 pl205 = some (ac205, rs205) := by kernel_rfl
theorem enter205 {args : List AV} {H : AHeap} {Q : AV → AHeap → Prop} (hn : args.length ≤ 14) (h : W Go.Proofs.Tryd.prog ac205 (retN rs205 Q) ⟨[], initE args 0, H⟩) : Run Go.Proofs.Tryd.prog 205 args H Q := Run_fn2 mixed Go.Proofs.Tryd.func205 (by kernel_rfl) co205 (n := 14) (by kernel_rfl) hn h
def ac206 : ACode := (.seq (.reg [⟨(some 2), none, (.mov (.k (.int .i64 ((0 : Nat) : Int))))⟩] [0]) (.seq (.reg [⟨(some 3), none, (.mov (.t 0))⟩, ⟨(some 4), none, (.call (.k (.fn (.func 197) [] [])) [(.t 3)])⟩, ⟨(some 0), none, (.mov (.t 4))⟩] [0]) (.seq (.seq (.reg [⟨(some 5), none, (.mov (.t 0))⟩, ⟨(some 6), none, (.len false (.t 5))⟩, ⟨(some 7), none, (.bin .eql (.t 6) (.k (.int .i64 ((0 : Nat) : Int))))⟩] [0, 7]) (.cond (.t 7) (.seq (.reg [⟨(some 2), none, (.mov (.k (.int .i64 ((0 : Nat) : Int))))⟩] [2]) .ret) .skip)) (.seq (.reg [⟨(some 8), none, (.mov (.t 0))⟩, ⟨(some 9), none, (.len false (.t 8))⟩, ⟨(some 10), none, (.bin .sub (.t 9) (.k (.int .i64 ((1 : Nat) : Int))))⟩, ⟨(some 11), none, (.bin .mul (.k (.int .i64 ((32 : Nat) : Int))) (.t 10))⟩, ⟨(some 12), none, (.mov (.t 0))⟩, ⟨(some 13), none, (.mov (.t 0))⟩, ⟨(some 14), none, (.len false (.t 13))⟩, ⟨(some 15), none, (.bin .sub (.t 14) (.k (.int .i64 ((1 : Nat) : Int))))⟩, ⟨(some 16), none, (.idxA 1 (.t 12) (.t 15))⟩, ⟨(some 17), none, (.load none (.t 16))⟩, ⟨(some 18), none, (.call (.k (.fn (.func 217) [] [])) [(.t 17)])⟩, ⟨(some 19), none, (.bin .add (.t 11) (.t 18))⟩, ⟨(some 2), none, (.mov (.t 19))⟩] [2]) .ret))))
def rs206 : List RV := [(.t 2)]
theorem co206 : compFn Go.Proofs.Tryd.prog Go.Proofs.Tryd.f206 pl206 = some (ac206, rs206) := by kernel_rfl
theorem enter206 {args : List AV} {H : AHeap} {Q : AV → AHeap → Prop} (hn : args.length ≤ 20) (h : W Go.Proofs.Tryd.prog ac206 (retN rs206 Q) ⟨[], initE args 0, H⟩) : Run Go.Proofs.Tryd.prog 206 args H Q := Run_fn2 mixed Go.Proofs.Tryd.func206 (by kernel_rfl) co206 (n := 20) (by kernel_rfl) hn h
def ac212 : ACode := (.seq (.reg [⟨(some 4), none, (.mov (.k (.seq 0 [] true)))⟩, ⟨(some 5), none, (.mov (.k (.int .u32 ((0 : Nat) : Int))))⟩, ⟨(some 6), none, (.mov (.k (.int .i64 ((0 : Nat) : Int))))⟩] [0, 1]) (.seq (.seq (.reg [⟨(some 10), none, (.mov (.t 1))⟩, ⟨(some 11), none, (.bin .eql (.t 10) (.k (.int .u32 ((0 : Nat) : Int))))⟩] [0, 1, 11]) (.cond (.t 11) (.seq (.reg [⟨(some 4), none, (.mov (.k (.seq 0 [] true)))⟩, ⟨(some 5), none, (.mov (.k (.int .u32 ((0 : Nat) : Int))))⟩, ⟨(some 6), none, (.mov (.k (.int .i64 ((2 : Nat) : Int))))⟩] [4, 5, 6]) .ret) .skip)) (.seq (.reg [⟨(some 12), none, (.mov (.t 0))⟩, ⟨(some 13), none, (.len false (.t 12))⟩, ⟨(some 14), none, (.mks 172 1 4 [(.int .u32 ((0 : Nat) : Int))] (.t 13) (.t 13))⟩, ⟨(some 7), none, (.mov (.t 14))⟩] [0, 1, 7]) (.seq (.reg [⟨(some 8), none, (.mov (.k (.int .u64 ((0 : Nat) : Int))))⟩] [0, 1, 7, 8]) (.seq (.seq (.reg [⟨(some 15), none, (.mov (.t 0))⟩, ⟨(some 16), none, (.len false (.t 15))⟩, ⟨(some 17), none, (.bin .sub (.t 16) (.k (.int .i64 ((1 : Nat) : Int))))⟩, ⟨(some 9), none, (.mov (.t 17))⟩] [0, 1, 7, 8, 9]) (.block 0 (.loop (.seq (.seq (.reg [⟨(some 18), none, (.mov (.t 9))⟩, ⟨(some 19), none, (.bin .geq (.t 18) (.k (.int .i64 ((0 : Nat) : Int))))⟩] [0, 1, 7, 8, 9, 19]) (.cond (.t 19) .skip (.exit 0))) (.seq (.block 1 (.seq (.reg [⟨(some 22), none, (.mov (.t 8))⟩, ⟨(some 23), none, (.bin .shl (.t 22) (.k (.int .u64 ((32 : Nat) : Int))))⟩, ⟨(some 24), none, (.mov (.t 0))⟩, ⟨(some 25), none, (.mov (.t 9))⟩, ⟨(some 26), none, (.idxA 1 (.t 24) (.t 25))⟩, ⟨(some 27), none, (.load none (.t 26))⟩, ⟨(some 28), none, (.conv .u64 (.t 27))⟩, ⟨(some 29), none, (.bin .or (.t 23) (.t 28))⟩, ⟨(some 8), none, (.mov (.t 29))⟩] [0, 1, 7, 8, 9]) (.seq (.reg [⟨(some 30), none, (.mov (.t 7))⟩, ⟨(some 31), none, (.mov (.t 9))⟩, ⟨(some 32), none, (.mov (.t 8))⟩, ⟨(some 33), none, (.mov (.t 1))⟩, ⟨(some 34), none, (.conv .u64 (.t 33))⟩, ⟨(some 35), none, (.bin .quo (.t 32) (.t 34))⟩, ⟨(some 36), none, (.conv .u32 (.t 35))⟩, ⟨(some 37), none, (.idxA 1 (.t 30) (.t 31))⟩, ⟨none, none, (.store 1 (.t 37) (.t 36))⟩] [0, 1, 7, 8, 9]) (.reg [⟨(some 38), none, (.mov (.t 8))⟩, ⟨(some 39), none, (.mov (.t 1))⟩, ⟨(some 40), none, (.conv .u64 (.t 39))⟩, ⟨(some 41), none, (.bin .rem (.t 38) (.t 40))⟩, ⟨(some 8), none, (.mov (.t 41))⟩] [0, 1, 7, 8, 9])))) (.reg [⟨(some 20), none, (.mov (.t 9))⟩, ⟨(some 21), none, (.bin .sub (.t 20) (.k (.int .i64 ((1 : Nat) : Int))))⟩, ⟨(some 9), none, (.mov (.t 21))⟩] [0, 1, 7, 8, 9])))))) (.seq (.reg [⟨(some 42), none, (.mov (.t 7))⟩, ⟨(some 43), none, (.call (.k (.fn (.func 197) [] [])) [(.t 42)])⟩, ⟨(some 44), none, (.mov (.t 8))⟩, ⟨(some 45), none, (.conv .u32 (.t 44))⟩, ⟨(some 4), none, (.mov (.t 43))⟩, ⟨(some 5), none, (.mov (.t 45))⟩, ⟨(some 6), none, (.mov (.k (.int .i64 ((0 : Nat) : Int))))⟩] [4, 5, 6]) .ret))))))
def rs212 : List RV := [(.t 4), (.t 5), (.t 6)]
theorem co212 : compFn Go.Proofs.Tryd.prog Go.Proofs.Tryd.f212 pl212 = some (ac212, rs212) := by kernel_rfl
theorem enter212 {args : List AV} {H : AHeap} {Q : AV → AHeap → Prop} (hn : args.length ≤ 46) (h : W Go.Proofs.Tryd.prog ac212 (retN rs212 Q) ⟨[], initE args 0, H⟩) : Run Go.Proofs.Tryd.prog 212 args H Q := Run_fn2 mixed Go.Proofs.Tryd.func212 (by kernel_rfl) co212 (n := 46) (by kernel_rfl) hn h
def ac213 : ACode := (.seq (.reg [⟨(some 4), none, (.mov (.k (.str ⟨#[]⟩)))⟩] [0, 1]) (.seq (.seq (.reg [⟨(some 7), none, (.mov (.t 0))⟩, ⟨(some 8), none, (.bin .eql (.t 7) (.k (.str ⟨#[]⟩)))⟩, ⟨(some 9), none, (.mov (.t 8))⟩, ⟨(some 10), (some (9, false)), (.mov (.t 1))⟩, ⟨(some 11), (some (9, false)), (.bin .eql (.t 10) (.k (.str ⟨#[]⟩)))⟩, ⟨(some 12), none, (.pick (.t 9) (.k (.bool true)) (.t 11))⟩] [0, 1, 12]) (.cond (.t 12) (.seq (.reg [⟨(some 13), none, (.mov (.t 0))⟩, ⟨(some 4), none, (.mov (.t 13))⟩] [4]) .ret) .skip)) (.seq (.seq (.reg [⟨(some 14), none, (.mov (.t 1))⟩, ⟨(some 15), none, (.len true (.t 14))⟩, ⟨(some 16), none, (.bin .eql (.t 15) (.k (.int .i64 ((1 : Nat) : Int))))⟩, ⟨(some 17), none, (.mov (.t 16))⟩, ⟨(some 18), (some (17, true)), (.mov (.t 1))⟩, ⟨(some 19), (some (17, true)), (.idxS (.t 18) (.k (.int .i64 ((0 : Nat) : Int))))⟩, ⟨(some 20), (some (17, true)), (.bin .lss (.t 19) (.k (.int .u8 ((128 : Nat) : Int))))⟩, ⟨(some 21), none, (.pick (.t 17) (.t 20) (.k (.bool false)))⟩] [0, 1, 21]) (.cond (.t 21) (.seq (.reg [⟨(some 22), none, (.mov (.t 0))⟩, ⟨(some 23), none, (.mov (.t 1))⟩, ⟨(some 24), none, (.idxS (.t 23) (.k (.int .i64 ((0 : Nat) : Int))))⟩, ⟨(some 25), none, (.call (.k (.fn (.func 223) [] [])) [(.t 22), (.t 24)])⟩, ⟨(some 4), none, (.mov (.t 25))⟩] [4]) .ret) .skip)) (.seq (.seq (.reg [⟨(some 27), none, (.mov (.t 1))⟩, ⟨(some 28), none, (.call (.k (.fn (.func 224) [] [])) [(.t 27)])⟩, ⟨(some 26), none, (.mov (.t 28))⟩, ⟨(some 29), none, (.ext (.t 26) 0)⟩, ⟨(some 30), none, (.ext (.t 26) 1)⟩, ⟨(some 5), none, (.alloc 258 1 [(.bool false), (.bool false), (.bool false), (.bool false), (.bool false), (.bool false), (.bool false), (.bool false), (.bool false), (.bool false), (.bool false), (.bool false), (.bool false), (.bool false), (.bool false), (.bool false), (.bool false), (.bool false), (.bool false), (.bool false), (.bool false), (.bool false), (.bool false), (.bool false), (.bool false), (.bool false), (.bool false), (.bool false), (.bool false), (.bool false), (.bool false), (.bool false), (.bool false), (.bool false), (.bool false), (.bool false), (.bool false), (.bool false), (.bool false), (.bool false), (.bool false), (.bool false), (.bool false), (.bool false), (.bool false), (.bool false), (.bool false), (.bool false), (.bool false), (.bool false), (.bool false), (.bool false), (.bool false), (.bool false), (.bool false), (.bool false), (.bool false), (.bool false), (.bool false), (.bool false), (.bool false), (.bool false), (.bool false), (.bool false), (.bool false), (.bool false), (.bool false), (.bool false), (.bool false), (.bool false), (.bool false), (.bool false), (.bool false), (.bool false), (.bool false), (.bool false), (.bool false), (.bool false), (.bool false), (.bool false), (.bool false), (.bool false), (.bool false), (.bool false), (.bool false), (.bool false), (.bool false), (.bool false), (.bool false), (.bool false), (.bool false), (.bool false), (.bool false), (.bool false), (.bool false), (.bool false), (.bool false), (.bool false), (.bool false), (.bool false), (.bool false), (.bool false), (.bool false), (.bool false), (.bool false), (.bool false), (.bool false), (.bool false), (.bool false), (.bool false), (.bool false), (.bool false), (.bool false), (.bool false), (.bool false), (.bool false), (.bool false), (.bool false), (.bool false), (.bool false), (.bool false), (.bool false), (.bool false), (.bool false), (.bool false), (.bool false), (.bool false), (.bool false), (.bool false), (.bool false), (.bool false), (.bool false), (.bool false), (.bool false), (.bool false), (.bool false), (.bool false), (.bool false), (.bool false), (.bool false), (.bool false), (.bool false), (.bool false), (.bool false), (.bool false), (.bool false), (.bool false), (.bool false), (.bool false), (.bool false), (.bool false), (.bool false), (.bool false), (.bool false), (.bool false), (.bool false), (.bool false), (.bool false), (.bool false), (.bool false), (.bool false), (.bool false), (.bool false), (.bool false), (.bool false), (.bool false), (.bool false), (.bool false), (.bool false), (.bool false), (.bool false), (.bool false), (.bool false), (.bool false), (.bool false), (.bool false), (.bool false), (.bool false), (.bool false), (.bool false), (.bool false), (.bool false), (.bool false), (.bool false), (.bool false), (.bool false), (.bool false), (.bool false), (.bool false), (.bool false), (.bool false), (.bool false), (.bool false), (.bool false), (.bool false), (.bool false), (.bool false), (.bool false), (.bool false), (.bool false), (.bool false), (.bool false), (.bool false), (.bool false), (.bool false), (.bool false), (.bool false), (.bool false), (.bool false), (.bool false), (.bool false), (.bool false), (.bool false), (.bool false), (.bool false), (.bool false), (.bool false), (.bool false), (.bool false), (.bool false), (.bool false), (.bool false), (.bool false), (.bool false), (.bool false), (.bool false), (.bool false), (.bool false), (.bool false), (.bool false), (.bool false), (.bool false), (.bool false), (.bool false), (.bool false), (.bool false), (.bool false), (.bool false), (.bool false), (.bool false), (.bool false), (.bool false), (.bool false), (.bool false), (.bool false), (.bool false), (.bool false), (.bool false), (.bool false), (.bool false), (.bool false), (.bool false), (.bool false), (.bool false), (.bool false), (.bool false)])⟩, ⟨none, none, (.store 256 (.t 5) (.t 29))⟩, ⟨(some 6), none, (.mov (.t 30))⟩] [0, 1, 5, 6]) (.seq (.reg [⟨(some 31), none, (.mov (.t 6))⟩] [0, 1, 5, 31]) (.cond (.t 31) (.seq (.reg [⟨(some 32), none, (.mov (.t 0))⟩, ⟨(some 33), none, (.call (.k (.fn (.func 225) [] [])) [(.t 32), (.t 5)])⟩, ⟨(some 4), none, (.mov (.t 33))⟩] [4]) .ret) .skip))) (.seq (.reg [⟨(some 34), none, (.mov (.t 0))⟩, ⟨(some 35), none, (.mov (.t 1))⟩, ⟨(some 36), none, (.call (.k (.fn (.func 226) [] [])) [(.t 34), (.t 35)])⟩, ⟨(some 4), none, (.mov (.t 36))⟩] [4]) .ret)))))
def rs213 : List RV := [(.t 4)]
theorem co213 : compFn Go.Proofs.Tryd.prog Go.Proofs.Tryd.f213 pl213 = some (ac213, rs213) := by kernel_rfl
theorem enter213 {args : List AV} {H : AHeap} {Q : AV → AHeap → Prop} (hn : args.length ≤ 37) (h : W Go.Proofs.Tryd.prog ac213 (retN rs213 Q) ⟨[], initE args 0, H⟩) : Run Go.Proofs.Tryd.prog 213 args H Q := Run_fn2 mixed Go.Proofs.Tryd.func213 (by kernel_rfl) co213 (n := 37) (by kernel_rfl) hn h
def ac215 : ACode := (.seq (.reg [⟨(some 2), none, (.mov (.t 0))⟩, ⟨(some 3), none, (.prim .nck [(.t 2)])⟩, ⟨(some 4), none, (.fldA 0 (.t 3))⟩, ⟨(some 5), none, (.load none (.t 4))⟩, ⟨(some 6), none, (.prim (.peq false) [(.t 5), (.k .nilP)])⟩] [0, 6]) (.cond (.t 6) (.reg [⟨(some 7), none, (.mov (.t 0))⟩, ⟨(some 8), none, (.mov (.t 0))⟩, ⟨(some 9), none, (.prim .toU [(.t 8)])⟩, ⟨(some 10), none, (.mov (.t 9))⟩, ⟨(some 11), none, (.prim (.fromU 234 2) [(.t 10)])⟩, ⟨(some 12), none, (.prim .nck [(.t 7)])⟩, ⟨(some 13), none, (.fldA 0 (.t 12))⟩, ⟨none, none, (.store 1 (.t 13) (.t 11))⟩] []) (.seq (.reg [⟨(some 14), none, (.mov (.t 0))⟩, ⟨(some 15), none, (.prim .nck [(.t 14)])⟩, ⟨(some 16), none, (.fldA 0 (.t 15))⟩, ⟨(some 17), none, (.load none (.t 16))⟩, ⟨(some 18), none, (.mov (.t 0))⟩, ⟨(some 19), none, (.prim (.peq true) [(.t 17), (.t 18)])⟩] [19]) (.cond (.t 19) .refuse .skip))))
def rs215 : List RV := []
theorem co215 : compFn Go.Proofs.Tryd.prog Go.Proofs.Tryd.f215 pl215 = some (ac215, rs215) := by kernel_rfl
theorem enter215 {args : List AV} {H : AHeap} {Q : AV → AHeap → Prop} (hn : args.length ≤ 20) (h : W Go.Proofs.Tryd.prog ac215 (retN rs215 Q) ⟨[], initE args 0, H⟩) : Run Go.Proofs.Tryd.prog 215 args H Q := Run_fn2 mixed Go.Proofs.Tryd.func215 (by kernel_rfl) co215 (n := 20) (by kernel_rfl) hn h
def ac217 : ACode := (.seq (.reg [⟨(some 2), none, (.mov (.k (.int .i64 ((0 : Nat) : Int))))⟩] [0, 2]) (.seq (.seq (.reg [⟨(some 3), none, (.mov (.t 0))⟩, ⟨(some 4), none, (.bin .geq (.t 3) (.k (.int .u32 ((65536 : Nat) : Int))))⟩] [0, 2, 4]) (.cond (.t 4) (.seq (.reg [⟨(some 5), none, (.mov (.t 0))⟩, ⟨(some 6), none, (.bin .shr (.t 5) (.k (.int .u64 ((16 : Nat) : Int))))⟩, ⟨(some 0), none, (.mov (.t 6))⟩] [0]) (.reg [⟨(some 2), none, (.mov (.k (.int .i64 ((16 : Nat) : Int))))⟩] [0, 2])) .skip)) (.seq (.seq (.reg [⟨(some 7), none, (.mov (.t 0))⟩, ⟨(some 8), none, (.bin .geq (.t 7) (.k (.int .u32 ((256 : Nat) : Int))))⟩] [0, 2, 8]) (.cond (.t 8) (.seq (.reg [⟨(some 9), none, (.mov (.t 0))⟩, ⟨(some 10), none, (.bin .shr (.t 9) (.k (.int .u64 ((8 : Nat) : Int))))⟩, ⟨(some 0), none, (.mov (.t 10))⟩] [0, 2]) (.reg [⟨(some 11), none, (.mov (.t 2))⟩, ⟨(some 12), none, (.bin .add (.t 11) (.k (.int .i64 ((8 : Nat) : Int))))⟩, ⟨(some 2), none, (.mov (.t 12))⟩] [0, 2])) .skip)) (.seq (.reg [⟨(some 13), none, (.mov (.t 2))⟩, ⟨(some 14), none, (.mov (.t 0))⟩, ⟨(some 15), none, (.conv .u8 (.t 14))⟩, ⟨(some 16), none, (.idxS (.k (.str ⟨#[0, 1, 2, 2, 3, 3, 3, 3, 4, 4, 4, 4, 4, 4, 4, 4, 5, 5, 5, 5, 5, 5, 5, 5, 5, 5, 5, 5, 5, 5, 5, 5, 6, 6, 6, 6, 6, 6, 6, 6, 6, 6, 6, 6, 6, 6, 6, 6, 6, 6, 6, 6, 6, 6, 6, 6, 6, 6, 6, 6, 6, 6, 6, 6, 7, 7, 7, 7, 7, 7, 7, 7, 7, 7, 7, 7, 7, 7, 7, 7, 7, 7, 7, 7, 7, 7, 7, 7, 7, 7, 7, 7, 7, 7, 7, 7, 7, 7, 7, 7, 7, 7, 7, 7, 7, 7, 7, 7, 7, 7, 7, 7, 7, 7, 7, 7, 7, 7, 7, 7, 7, 7, 7, 7, 7, 7, 7, 7, 8, 8, 8, 8, 8, 8, 8, 8, 8, 8, 8, 8, 8, 8, 8, 8, 8, 8, 8, 8, 8, 8, 8, 8, 8, 8, 8, 8, 8, 8, 8, 8, 8, 8, 8, 8, 8, 8, 8, 8, 8, 8, 8, 8, 8, 8, 8, 8, 8, 8, 8, 8, 8, 8, 8, 8, 8, 8, 8, 8, 8, 8, 8, 8, 8, 8, 8, 8, 8, 8, 8, 8, 8, 8, 8, 8, 8, 8, 8, 8, 8, 8, 8, 8, 8, 8, 8, 8, 8, 8, 8, 8, 8, 8, 8, 8, 8, 8, 8, 8, 8, 8, 8, 8, 8, 8, 8, 8, 8, 8, 8, 8, 8, 8, 8, 8, 8, 8, 8, 8, 8, 8, 8, 8, 8, 8, 8, 8]⟩)) (.t 15))⟩, ⟨(some 17), none, (.conv .i64 (.t 16))⟩, ⟨(some 18), none, (.bin .add (.t 13) (.t 17))⟩, ⟨(some 2), none, (.mov (.t 18))⟩] [2]) .ret))))
def rs217 : List RV := [(.t 2)]
theorem co217 : compFn Go.Proofs.Tryd.prog Go.Proofs.Tryd.f217 pl217 = some (ac217, rs217) := by kernel_rfl
theorem enter217 {args : List AV} {H : AHeap} {Q : AV → AHeap → Prop} (hn : args.length ≤ 19) (h : W Go.Proofs.Tryd.prog ac217 (retN rs217 Q) ⟨[], initE args 0, H⟩) : Run Go.Proofs.Tryd.prog 217 args H Q := Run_fn2 mixed Go.Proofs.Tryd.func217 (by kernel_rfl) co217 (n := 19) (by kernel_rfl) hn h
def ac223 : ACode := (.seq (.reg [⟨(some 4), none, (.mov (.k (.str ⟨#[]⟩)))⟩] [0, 1]) (.seq (.block 0 (.loop (.seq (.seq (.reg [⟨(some 5), none, (.mov (.t 0))⟩, ⟨(some 6), none, (.len true (.t 5))⟩, ⟨(some 7), none, (.bin .gtr (.t 6) (.k (.int .i64 ((0 : Nat) : Int))))⟩, ⟨(some 8), none, (.mov (.t 7))⟩, ⟨(some 9), (some (8, true)), (.mov (.t 0))⟩, ⟨(some 10), (some (8, true)), (.idxS (.t 9) (.k (.int .i64 ((0 : Nat) : Int))))⟩, ⟨(some 11), (some (8, true)), (.mov (.t 1))⟩, ⟨(some 12), (some (8, true)), (.bin .eql (.t 10) (.t 11))⟩, ⟨(some 13), none, (.pick (.t 8) (.t 12) (.k (.bool false)))⟩] [0, 1, 13]) (.cond (.t 13) .skip (.exit 0))) (.block 1 (.reg [⟨(some 14), none, (.mov (.t 0))⟩, ⟨(some 15), none, (.slcS (.t 14) (some (.k (.int .i64 ((1 : Nat) : Int)))) none)⟩, ⟨(some 0), none, (.mov (.t 15))⟩] [0, 1]))))) (.seq (.reg [⟨(some 16), none, (.mov (.t 0))⟩, ⟨(some 4), none, (.mov (.t 16))⟩] [4]) .ret)))
def rs223 : List RV := [(.t 4)]
theorem co223 : compFn Go.Proofs.Tryd.prog Go.Proofs.Tryd.f223 pl223 = some (ac223, rs223) := by kernel_rfl
theorem enter223 {args : List AV} {H : AHeap} {Q : AV → AHeap → Prop} (hn : args.length ≤ 17) (h : W Go.Proofs.Tryd.prog ac223 (retN rs223 Q) ⟨[], initE args 0, H⟩) : Run Go.Proofs.Tryd.prog 223 args H Q := Run_fn2 mixed Go.Proofs.Tryd.func223 (by kernel_rfl) co223 (n := 17) (by kernel_rfl) hn h
end Go.Proofs.YtanchgkiomfhhaaDoor.Fw

/- What package limb computes: trimming, copies, comparing. -/
namespace Go.Proofs.YtanchgkiomfhhaaDoor.Fw
set_option linter.unusedSimpArgs false
set_option linter.unusedVariables false
open Go Go.Proofs.YtanchgkiomfhhaaDoor.Ma

theorem load_LS0 {H : AHeap} {K : AV → Prop} {l : List Nat} (h : 0 < l.length) : loadW H none (.cptr (U l)) K = K (.int .u32 ((l.getD 0 0 : Nat) : Int)) := by
  have := load_LS (H := H) (K := K) (l := l) (i := 0) h
  rwa [List.drop_zero] at this
theorem digs_len0 {B n : Nat} (hB : 2 ≤ B) : ((digs B n).length = 0) = (n = 0) := by
  rw [List.length_eq_zero_iff]; exact propext (digs_nil hB)
theorem digs_pos_len {B n : Nat} (hB : 2 ≤ B) : (0 < (digs B n).length) = (0 < n) := by
  apply propext
  have := digs_nil (n := n) hB
  cases h : digs B n with
  | nil => have := this.1 h; simp [this]
  | cons x l => rcases Nat.eq_zero_or_pos n with e | e
                · rw [e, digs_zero] at h; cases h
                · simp [e]
theorem trim_fn (l : List Nat) (t : Bool) : PFn Tryd.prog 197 [LS l t] (LS (tr l) true) := by
  intro H Q hq
  refine enter197 (by simp) ?_
  simp (disch := first | assumption | (apply Ap.symm; assumption) | omega | decide | (simp only [Xd] <;> omega)) only [ac197, len_LS, len_own, ↓Xa, Xb, Xc, ↓reduceIte, Nat.reduceLT, Nat.reduceEqDiff, Nat.reduceBEq, Nat.reduceLeDiff, Nat.reduceAdd, Nat.reduceMul]
  intro hl
  refine W_loop (fun n : Nat => ⟨[], [(0, LS l t), (3, .int .i64 n)], H⟩) (fun n => n ≤ l.length ∧ ∀ i, n ≤ i → i < l.length → l.getD i 0 = 0) id l.length (Settle.now rfl) ⟨Nat.le_refl _, fun i h1 h2 => absurd h1 (by omega)⟩ ?_
  rintro n ⟨hn, hz⟩
  have fin : (n = 0 ∨ l.getD (n - 1) 0 ≠ 0) → SetR Q (LS (l.take n) true) H := fun h => by rw [tr_take hn hz h]; exact SetR.now hq
  by_cases h0 : 0 < n
  · by_cases h1 : l.getD (n - 1) 0 = 0
    · simp (disch := first | assumption | (apply Ap.symm; assumption) | omega | decide | (simp only [Xd] <;> omega)) only [h0, h1, len_LS, len_own, ↓Xa, Xb, Xc, ↓reduceIte, Nat.reduceLT, Nat.reduceEqDiff, Nat.reduceBEq, Nat.reduceLeDiff, Nat.reduceAdd, Nat.reduceMul]
      refine Settle.now ⟨n - 1, ?_, ⟨by omega, fun i hi hl' => ?_⟩, rfl⟩
      · show n - 1 < n; omega
      · rcases Nat.lt_or_ge i n with h | h
        · rw [show i = n - 1 by omega]; exact h1
        · exact hz i h hl'
    · simp (disch := first | assumption | (apply Ap.symm; assumption) | omega | decide | (simp only [Xd] <;> omega)) only [h0, h1, len_LS, len_own, ↓Xa, Xb, Xc, ↓reduceIte, Nat.reduceLT, Nat.reduceEqDiff, Nat.reduceBEq, Nat.reduceLeDiff, Nat.reduceAdd, Nat.reduceMul]
      refine Settle.now ?_
      simp (disch := first | assumption | (apply Ap.symm; assumption) | omega | decide | (simp only [Xd] <;> omega)) only [rs197, len_LS, len_own, ↓Xa, Xb, Xc, ↓reduceIte, Nat.reduceLT, Nat.reduceEqDiff, Nat.reduceBEq, Nat.reduceLeDiff, Nat.reduceAdd, Nat.reduceMul]
      exact fin (.inr h1)
  · simp (disch := first | assumption | (apply Ap.symm; assumption) | omega | decide | (simp only [Xd] <;> omega)) only [h0, len_LS, len_own, ↓Xa, Xb, Xc, ↓reduceIte, Nat.reduceLT, Nat.reduceEqDiff, Nat.reduceBEq, Nat.reduceLeDiff, Nat.reduceAdd, Nat.reduceMul]
    refine Settle.now ?_
    simp (disch := first | assumption | (apply Ap.symm; assumption) | omega | decide | (simp only [Xd] <;> omega)) only [rs197, len_LS, len_own, ↓Xa, Xb, Xc, ↓reduceIte, Nat.reduceLT, Nat.reduceEqDiff, Nat.reduceBEq, Nat.reduceLeDiff, Nat.reduceAdd, Nat.reduceMul]
    exact fin (.inl (by omega))

theorem trim_own {l : List Nat} {b ty n : Nat} {t : Bool} {H : AHeap} {Q : AV → AHeap → Prop} (hH : H b = some (.row ty 1 (U l))) (hn : l.length = n) (hq : Q (.own b n 0 (tr l).length true) H) : Run Tryd.prog 197 [.own b n 0 n t] H Q := by
  subst hn
  refine enter197 (by simp) ?_
  simp (disch := first | assumption | (apply Ap.symm; assumption) | omega | decide | (simp only [Xd] <;> omega)) only [ac197, len_LS, len_own, ↓Xa, Xb, Xc, ↓reduceIte, Nat.reduceLT, Nat.reduceEqDiff, Nat.reduceBEq, Nat.reduceLeDiff, Nat.reduceAdd, Nat.reduceMul]
  intro hl
  refine W_loop (fun n : Nat => ⟨[], [(0, .own b l.length 0 l.length t), (3, .int .i64 n)], H⟩) (fun n => n ≤ l.length ∧ ∀ i, n ≤ i → i < l.length → l.getD i 0 = 0) id l.length (Settle.now rfl) ⟨Nat.le_refl _, fun i h1 h2 => absurd h1 (by omega)⟩ ?_
  rintro n ⟨hn, hz⟩
  have fin : (n = 0 ∨ l.getD (n - 1) 0 ≠ 0) → SetR Q (.own b l.length 0 n true) H := fun h => by
    have := congrArg List.length (tr_take hn hz h)
    rw [List.length_take, Nat.min_eq_left hn] at this
    rw [this]; exact SetR.now hq
  by_cases h0 : 0 < n
  · by_cases h1 : l.getD (n - 1) 0 = 0
    · simp (disch := first | assumption | (apply Ap.symm; assumption) | omega | decide | (simp only [Xd] <;> omega)) only [h0, h1, hH, len_LS, len_own, ↓Xa, Xb, Xc, ↓reduceIte, Nat.reduceLT, Nat.reduceEqDiff, Nat.reduceBEq, Nat.reduceLeDiff, Nat.reduceAdd, Nat.reduceMul]
      refine Settle.now ⟨n - 1, ?_, ⟨by omega, fun i hi hl' => ?_⟩, rfl⟩
      · show n - 1 < n; omega
      · rcases Nat.lt_or_ge i n with h | h
        · rw [show i = n - 1 by omega]; exact h1
        · exact hz i h hl'
    · simp (disch := first | assumption | (apply Ap.symm; assumption) | omega | decide | (simp only [Xd] <;> omega)) only [h0, h1, hH, len_LS, len_own, ↓Xa, Xb, Xc, ↓reduceIte, Nat.reduceLT, Nat.reduceEqDiff, Nat.reduceBEq, Nat.reduceLeDiff, Nat.reduceAdd, Nat.reduceMul]
      refine Settle.now ?_
      simp (disch := first | assumption | (apply Ap.symm; assumption) | omega | decide | (simp only [Xd] <;> omega)) only [rs197, hH, len_LS, len_own, ↓Xa, Xb, Xc, ↓reduceIte, Nat.reduceLT, Nat.reduceEqDiff, Nat.reduceBEq, Nat.reduceLeDiff, Nat.reduceAdd, Nat.reduceMul]
      exact fin (.inr h1)
  · simp (disch := first | assumption | (apply Ap.symm; assumption) | omega | decide | (simp only [Xd] <;> omega)) only [h0, hH, len_LS, len_own, ↓Xa, Xb, Xc, ↓reduceIte, Nat.reduceLT, Nat.reduceEqDiff, Nat.reduceBEq, Nat.reduceLeDiff, Nat.reduceAdd, Nat.reduceMul]
    refine Settle.now ?_
    simp (disch := first | assumption | (apply Ap.symm; assumption) | omega | decide | (simp only [Xd] <;> omega)) only [rs197, hH, len_LS, len_own, ↓Xa, Xb, Xc, ↓reduceIte, Nat.reduceLT, Nat.reduceEqDiff, Nat.reduceBEq, Nat.reduceLeDiff, Nat.reduceAdd, Nat.reduceMul]
    exact fin (.inl (by omega))
theorem trim_call {l : List Nat} {b ty n : Nat} {t : Bool} {H : AHeap} {K : AV → AHeap → Prop} (hH : H b = some (.row ty 1 (U l))) (hn : l.length = n) (k : K (.own b n 0 (tr l).length true) H) : callW Tryd.prog (.fn (.func 197) [] []) [.own b n 0 n t] H K := by
  simpa [callW] using trim_own (t := t) hH hn k
theorem frz_tr {l : List Nat} {b n : Nat} (hn : l.length = n) : frz b 1 (U l) (.own b n 0 (tr l).length true) = LS (tr l) true := by
  subst hn
  have h1 := tr_len l
  obtain ⟨k, h2⟩ := tr_pre l
  have h3 : (U l).take (tr l).length = U (tr l) := by
    rw [← U_take]; congr 1
    generalize tr l = x at *
    rw [h2]; simp
  simp [frz, frz2, frz1, LS, h1, h3]
theorem fin_tr {l : List Nat} {b ty n : Nat} {H : AHeap} {Q : AV → AHeap → Prop} (hb : H b = none) (hn : l.length = n) (hq : Q (LS (tr l) true) H) : SetR Q (.own b n 0 (tr l).length true) (H.upd b (some (.row ty 1 (U l)))) := by
  refine SetR.frz b (upd_same _ _ _) ?_
  rw [frz_tr hn, upd_upd, upd_back _ hb]
  exact SetR.now hq

theorem frz2_tr {l : List Nat} {b n : Nat} (hn : l.length = n) : frz2 b 1 (U l) (.own b n 0 (tr l).length true) = LS (tr l) true := frz_tr hn
theorem frz2_int {b es : Nat} {c : List AV} {k : IntKind} {n : Int} : frz2 b es c (.int k n) = .int k n := rfl
theorem fin_tr2 {l : List Nat} {b ty n : Nat} {H : AHeap} {Q : AV → AHeap → Prop} {k : IntKind} {m : Int} (hb : H b = none) (hn : l.length = n) (hq : Q (.tup [LS (tr l) true, .int k m]) H) : SetR Q (.tup [.own b n 0 (tr l).length true, .int k m]) (H.upd b (some (.row ty 1 (U l)))) := by
  refine SetR.frz b (upd_same _ _ _) ?_
  rw [upd_upd, upd_back _ hb, frz, List.map_cons, List.map_cons, List.map_nil, frz2_tr hn, frz2_int]
  exact SetR.now hq
theorem fin_tr3 {l : List Nat} {b ty n : Nat} {H : AHeap} {Q : AV → AHeap → Prop} {k k' : IntKind} {m m' : Int} (hb : H b = none) (hn : l.length = n) (hq : Q (.tup [LS (tr l) true, .int k m, .int k' m']) H) : SetR Q (.tup [.own b n 0 (tr l).length true, .int k m, .int k' m']) (H.upd b (some (.row ty 1 (U l)))) := by
  refine SetR.frz b (upd_same _ _ _) ?_
  rw [upd_upd, upd_back _ hb, frz, List.map_cons, List.map_cons, List.map_cons, List.map_nil, frz2_tr hn, frz2_int, frz2_int]
  exact SetR.now hq

theorem norm_fn {l : List Nat} (t : Bool) (hl : l.length ≤ 70368744177664) : PFn Tryd.prog 138 [LS l t] (LS (tr l) true) := by
  intro H Q hq
  refine enter138 (by simp) ?_
  simp (disch := first | assumption | (apply Ap.symm; assumption) | omega | decide | (simp only [Xd] <;> omega)) only [ac138, len_LS, len_own, ↓Xa, Xb, Xc, ↓reduceIte, Nat.reduceLT, Nat.reduceEqDiff, Nat.reduceBEq, Nat.reduceLeDiff, Nat.reduceAdd, Nat.reduceMul]
  refine (trim_fn l t).call ?_
  have h1 := tr_len l
  simp (disch := first | assumption | (apply Ap.symm; assumption) | omega | decide | (simp only [Xd] <;> omega)) only [len_LS, len_own, ↓Xa, Xb, Xc, ↓reduceIte, Nat.reduceLT, Nat.reduceEqDiff, Nat.reduceBEq, Nat.reduceLeDiff, Nat.reduceAdd, Nat.reduceMul]
  intro h2
  refine newU_i fun b hb => ?_
  simp (disch := first | assumption | (apply Ap.symm; assumption) | omega | decide | (simp only [Xd] <;> omega)) only [len_LS, len_own, ↓Xa, Xb, Xc, ↓reduceIte, Nat.reduceLT, Nat.reduceEqDiff, Nat.reduceBEq, Nat.reduceLeDiff, Nat.reduceAdd, Nat.reduceMul]
  refine cpy_U (upd_same _ _ _) (by simp) rfl ?_
  simp (disch := first | assumption | (apply Ap.symm; assumption) | omega | decide | (simp only [Xd] <;> omega)) only [rs138, len_LS, len_own, ↓Xa, Xb, Xc, ↓reduceIte, Nat.reduceLT, Nat.reduceEqDiff, Nat.reduceBEq, Nat.reduceLeDiff, Nat.reduceAdd, Nat.reduceMul]
  refine SetR.frz b (upd_same _ _ _) ?_
  rw [upd_upd, upd_back _ hb]
  have e : frz b 1 (U (tr l)) (.own b (tr l).length 0 (tr l).length true) = LS (tr l) true := by simp [frz, frz2, frz1, LS, List.take_of_length_le]
  rw [e]; exact SetR.now hq

def cmpZ (a b : Nat) : Int := if a < b then -1 else if b < a then ((1 : Nat) : Int) else ((0 : Nat) : Int)

theorem cmp_fn {a b : List Nat} (ta tb : Bool) (ha : Lim 4294967296 a) (hb : Lim 4294967296 b) : PFn Tryd.prog 148 [LS a ta, LS b tb] (.int .i64 (cmpZ (val 4294967296 a) (val 4294967296 b))) := by
  intro H Q hq
  refine enter148 (by simp) ?_
  simp (disch := first | assumption | (apply Ap.symm; assumption) | omega | decide | (simp only [Xd] <;> omega)) only [ac148, len_LS, len_own, ↓Xa, Xb, Xc, ↓reduceIte, Nat.reduceLT, Nat.reduceEqDiff, Nat.reduceBEq, Nat.reduceLeDiff, Nat.reduceAdd, Nat.reduceMul]
  refine (trim_fn a ta).call ?_
  simp (disch := first | assumption | (apply Ap.symm; assumption) | omega | decide | (simp only [Xd] <;> omega)) only [len_LS, len_own, ↓Xa, Xb, Xc, ↓reduceIte, Nat.reduceLT, Nat.reduceEqDiff, Nat.reduceBEq, Nat.reduceLeDiff, Nat.reduceAdd, Nat.reduceMul]
  refine (trim_fn b tb).call ?_
  rw [tr_digs (by omega) ha, tr_digs (by omega) hb]
  generalize val 4294967296 a = m at *
  generalize val 4294967296 b = n at *
  have hx := lim_digs (B := 4294967296) (by omega) m
  have hy := lim_digs (B := 4294967296) (by omega) n
  have vx := val_digs (B := 4294967296) (by omega) m
  have vy := val_digs (B := 4294967296) (by omega) n
  have lt1 := digs_lt_len (B := 4294967296) (a := m) (b := n) (by omega)
  have lt2 := digs_lt_len (B := 4294967296) (a := n) (b := m) (by omega)
  generalize digs 4294967296 m = x at *
  generalize digs 4294967296 n = y at *
  have less : m < n → SetR Q (.int .i64 (-1)) H := fun h => by
    have : cmpZ m n = -1 := by simp [cmpZ, h]
    rw [← this]; exact SetR.now hq
  have more : n < m → SetR Q (.int .i64 ((1 : Nat) : Int)) H := fun h => by
    have : cmpZ m n = ((1 : Nat) : Int) := by simp [cmpZ, h, Nat.not_lt_of_lt h]
    rw [← this]; exact SetR.now hq
  by_cases c1 : x.length < y.length
  · simp (disch := first | assumption | (apply Ap.symm; assumption) | omega | decide | (simp only [Xd] <;> omega)) only [c1, rs148, len_LS, len_own, ↓Xa, Xb, Xc, ↓reduceIte, Nat.reduceLT, Nat.reduceEqDiff, Nat.reduceBEq, Nat.reduceLeDiff, Nat.reduceAdd, Nat.reduceMul]
    intro _ _
    exact less (lt1 c1)
  by_cases c2 : y.length < x.length
  · simp (disch := first | assumption | (apply Ap.symm; assumption) | omega | decide | (simp only [Xd] <;> omega)) only [c1, c2, rs148, len_LS, len_own, ↓Xa, Xb, Xc, ↓reduceIte, Nat.reduceLT, Nat.reduceEqDiff, Nat.reduceBEq, Nat.reduceLeDiff, Nat.reduceAdd, Nat.reduceMul]
    intro _ _ _ _
    exact more (lt2 c2)
  simp (disch := first | assumption | (apply Ap.symm; assumption) | omega | decide | (simp only [Xd] <;> omega)) only [c1, c2, len_LS, len_own, ↓Xa, Xb, Xc, ↓reduceIte, Nat.reduceLT, Nat.reduceEqDiff, Nat.reduceBEq, Nat.reduceLeDiff, Nat.reduceAdd, Nat.reduceMul]
  intro l1 l2
  intros
  simp (disch := first | assumption | (apply Ap.symm; assumption) | omega | decide | (simp only [Xd] <;> omega)) only [len_LS, len_own, ↓Xa, Xb, Xc, ↓reduceIte, Nat.reduceLT, Nat.reduceEqDiff, Nat.reduceBEq, Nat.reduceLeDiff, Nat.reduceAdd, Nat.reduceMul]
  have hlen : x.length = y.length := by omega
  refine W_loop (fun k : Nat => ⟨[], [(0, LS x true), (1, LS y true), (5, .int .i64 (dn k))], H⟩) (fun k => k ≤ x.length ∧ x.drop k = y.drop k) id x.length (Settle.now rfl) ⟨Nat.le_refl _, by rw [List.drop_of_length_le (Nat.le_refl _), List.drop_of_length_le (by omega)]⟩ ?_
  rintro k ⟨hk, hd⟩
  cases k with
  | zero =>
    simp (disch := first | assumption | (apply Ap.symm; assumption) | omega | decide | (simp only [Xd] <;> omega)) only [len_LS, len_own, ↓Xa, Xb, Xc, ↓reduceIte, Nat.reduceLT, Nat.reduceEqDiff, Nat.reduceBEq, Nat.reduceLeDiff, Nat.reduceAdd, Nat.reduceMul]
    refine Settle.now ?_
    simp (disch := first | assumption | (apply Ap.symm; assumption) | omega | decide | (simp only [Xd] <;> omega)) only [rs148, len_LS, len_own, ↓Xa, Xb, Xc, ↓reduceIte, Nat.reduceLT, Nat.reduceEqDiff, Nat.reduceBEq, Nat.reduceLeDiff, Nat.reduceAdd, Nat.reduceMul]
    have e : m = n := by rw [← vx, ← vy]; rw [List.drop_zero, List.drop_zero] at hd; rw [hd]
    have : cmpZ m n = ((0 : Nat) : Int) := by simp [cmpZ, e]
    rw [← this]; exact SetR.now hq
  | succ k =>
    by_cases d1 : x.getD k 0 < y.getD k 0
    · simp (disch := first | assumption | (apply Ap.symm; assumption) | omega | decide | (simp only [Xd] <;> omega)) only [d1, rs148, len_LS, len_own, ↓Xa, Xb, Xc, ↓reduceIte, Nat.reduceLT, Nat.reduceEqDiff, Nat.reduceBEq, Nat.reduceLeDiff, Nat.reduceAdd, Nat.reduceMul]
      exact less (by rw [← vx, ← vy]; exact val_lt_high hx (by omega) k (by omega) hlen hd d1)
    by_cases d2 : y.getD k 0 < x.getD k 0
    · simp (disch := first | assumption | (apply Ap.symm; assumption) | omega | decide | (simp only [Xd] <;> omega)) only [d1, d2, rs148, len_LS, len_own, ↓Xa, Xb, Xc, ↓reduceIte, Nat.reduceLT, Nat.reduceEqDiff, Nat.reduceBEq, Nat.reduceLeDiff, Nat.reduceAdd, Nat.reduceMul]
      exact more (by rw [← vx, ← vy]; exact val_lt_high hy (by omega) k (by omega) hlen.symm hd.symm d2)
    simp (disch := first | assumption | (apply Ap.symm; assumption) | omega | decide | (simp only [Xd] <;> omega)) only [d1, d2, len_LS, len_own, ↓Xa, Xb, Xc, ↓reduceIte, Nat.reduceLT, Nat.reduceEqDiff, Nat.reduceBEq, Nat.reduceLeDiff, Nat.reduceAdd, Nat.reduceMul]
    refine Settle.now ⟨k, Nat.lt_succ_self k, ⟨by omega, ?_⟩, rfl⟩
    rw [List.drop_eq_getElem_cons (by omega), List.drop_eq_getElem_cons (i := k) (l := y) (by omega), hd]
    congr 1
    have e1 : x.getD k 0 = x[k] := by simp [List.getD_eq_getElem?_getD, List.getElem?_eq_getElem (show k < x.length by omega)]
    have e2 : y.getD k 0 = y[k] := by simp [List.getD_eq_getElem?_getD, List.getElem?_eq_getElem (show k < y.length by omega)]
    omega
end Go.Proofs.YtanchgkiomfhhaaDoor.Fw

/- What package limb computes: sums, differences, products, quotients by one limb. -/
namespace Go.Proofs.YtanchgkiomfhhaaDoor.Fw
set_option linter.unusedSimpArgs false
set_option linter.unusedVariables false
open Go Go.Proofs.YtanchgkiomfhhaaDoor.Ma
set_option maxRecDepth 20000

theorem add_tail {a b : List Nat} {ta tb : Bool} {H : AHeap} {Q : AV → AHeap → Prop} (hab : b.length ≤ a.length) (ha : Lim 4294967296 a) (hb : Lim 4294967296 b) (hl : a.length ≤ 1099511627776)
    (hq : Q (LS (digs 4294967296 (val 4294967296 a + val 4294967296 b)) true) H) : W Tryd.prog (hold (sndC (sndC ac186))) (retN rs186 Q) ⟨[], [(0, LS a ta), (1, LS b tb)], H⟩ := by
  simp (disch := first | assumption | (apply Ap.symm; assumption) | omega | decide | (simp only [Xd] <;> omega)) only [ac186, hold, sndC, ↓Xa, Xb, Xc, ↓reduceIte, Nat.reduceLT, Nat.reduceEqDiff, Nat.reduceBEq, Nat.reduceLeDiff, Nat.reduceAdd, Nat.reduceMul]
  refine newU_i fun o ho => ?_
  simp (disch := first | assumption | (apply Ap.symm; assumption) | omega | decide | (simp only [Xd] <;> omega)) only [↓Xa, Xb, Xc, ↓reduceIte, Nat.reduceLT, Nat.reduceEqDiff, Nat.reduceBEq, Nat.reduceLeDiff, Nat.reduceAdd, Nat.reduceMul]
  refine W_loop (fun p : Nat × Nat × List Nat => ⟨[], [(0, LS a ta), (1, LS b tb), (5, .own o (a.length + 1) 0 (a.length + 1) true), (6, .int .u64 p.2.1), (20, LS a ta), (21, .int .i64 a.length), (22, .int .i64 p.1)],
      H.upd o (some (.row 172 1 (U (p.2.2 ++ List.replicate (a.length + 1 - p.1) 0))))⟩)
    (fun p => p.1 ≤ a.length ∧ AddI a b p.1 p.2.1 p.2.2) (fun p => a.length - p.1) (0, 0, []) (Settle.now rfl) ⟨by simp, AddI.zero a b⟩ ?_
  rintro ⟨i, c, done⟩ ⟨h1, h2⟩
  dsimp only at h1 h2 ⊢
  have hdl := h2.1
  have hc := h2.2.2.1
  by_cases hi : i < a.length
  · have hx := ha.getD (by omega) i
    have hy := hb.getD (by omega) i
    by_cases hj : i < b.length
    · simp (disch := first | assumption | (apply Ap.symm; assumption) | omega | decide | (simp only [Xd] <;> omega)) only [hi, hj, ↓Xa, Xb, Xc, ↓reduceIte, Nat.reduceLT, Nat.reduceEqDiff, Nat.reduceBEq, Nat.reduceLeDiff, Nat.reduceAdd, Nat.reduceMul]
      refine Settle.now ⟨(i + 1, _, done ++ [_]), by dsimp only; omega, ⟨by dsimp only; omega, h2.step ha hb rfl⟩, ?_⟩
      rw [set_zeros' _ _ _ _ hdl (by omega)]
    · simp (disch := first | assumption | (apply Ap.symm; assumption) | omega | decide | (simp only [Xd] <;> omega)) only [hi, hj, ↓Xa, Xb, Xc, ↓reduceIte, Nat.reduceLT, Nat.reduceEqDiff, Nat.reduceBEq, Nat.reduceLeDiff, Nat.reduceAdd, Nat.reduceMul]
      have := getD_beyond (show b.length ≤ i by omega)
      refine Settle.now ⟨(i + 1, _, done ++ [_]), by dsimp only; omega, ⟨by dsimp only; omega, h2.step ha hb (s := c + a.getD i 0) (by omega)⟩, ?_⟩
      rw [set_zeros' _ _ _ _ hdl (by omega)]
  · obtain rfl : i = a.length := by omega
    simp (disch := first | assumption | (apply Ap.symm; assumption) | omega | decide | (simp only [Xd] <;> omega)) only [hi, ↓Xa, Xb, Xc, ↓reduceIte, Nat.reduceLT, Nat.reduceEqDiff, Nat.reduceBEq, Nat.reduceLeDiff, Nat.reduceAdd, Nat.reduceMul]
    refine Settle.now ?_
    simp (disch := first | assumption | (apply Ap.symm; assumption) | omega | decide | (simp only [Xd] <;> omega)) only [↓Xa, Xb, Xc, ↓reduceIte, Nat.reduceLT, Nat.reduceEqDiff, Nat.reduceBEq, Nat.reduceLeDiff, Nat.reduceAdd, Nat.reduceMul]
    rw [set_zeros _ _ _ _ hdl (by omega), show a.length + 1 - a.length - 1 = 0 by omega, List.replicate_zero, List.append_nil]
    refine trim_call (upd_same _ _ _) (by simp [hdl]) ?_
    simp (disch := first | assumption | (apply Ap.symm; assumption) | omega | decide | (simp only [Xd] <;> omega)) only [rs186, ↓Xa, Xb, Xc, ↓reduceIte, Nat.reduceLT, Nat.reduceEqDiff, Nat.reduceBEq, Nat.reduceLeDiff, Nat.reduceAdd, Nat.reduceMul]
    exact fin_tr ho (by simp [hdl]) (by rw [h2.end hab]; exact hq)

theorem add_fn {a b : List Nat} (ta tb : Bool) (ha : Lim 4294967296 a) (hb : Lim 4294967296 b) (hla : a.length ≤ 1099511627776) (hlb : b.length ≤ 1099511627776) : PFn Tryd.prog 186 [LS a ta, LS b tb] (LS (digs 4294967296 (val 4294967296 a + val 4294967296 b)) true) := by
  intro H Q hq
  refine enter186 (by simp) ?_
  rw [show ac186 = .seq (fstC ac186) (.seq (fstC (sndC ac186)) (hold (sndC (sndC ac186)))) from rfl]
  by_cases c : a.length < b.length
  · simp (disch := first | assumption | (apply Ap.symm; assumption) | omega | decide | (simp only [Xd] <;> omega)) only [c, fstC, sndC, ac186, ↓Xa, Xb, Xc, ↓reduceIte, Nat.reduceLT, Nat.reduceEqDiff, Nat.reduceBEq, Nat.reduceLeDiff, Nat.reduceAdd, Nat.reduceMul]
    exact add_tail (by omega) hb ha hlb (by rw [Nat.add_comm]; exact hq)
  · simp (disch := first | assumption | (apply Ap.symm; assumption) | omega | decide | (simp only [Xd] <;> omega)) only [c, fstC, sndC, ac186, ↓Xa, Xb, Xc, ↓reduceIte, Nat.reduceLT, Nat.reduceEqDiff, Nat.reduceBEq, Nat.reduceLeDiff, Nat.reduceAdd, Nat.reduceMul]
    exact add_tail (by omega) ha hb hla hq

theorem sub_fn {a b : List Nat} (ta tb : Bool) (ha : Lim 4294967296 a) (hb : Lim 4294967296 b) (hab : val 4294967296 b ≤ val 4294967296 a) (hl : a.length ≤ 1099511627776) (hlb : b.length ≤ 1099511627776) :
    PFn Tryd.prog 187 [LS a ta, LS b tb] (.tup [LS (digs 4294967296 (val 4294967296 a - val 4294967296 b)) true, .int .i64 ((0 : Nat) : Int)]) := by
  intro H Q hq
  refine enter187 (by simp) ?_
  simp (disch := first | assumption | (apply Ap.symm; assumption) | omega | decide | (simp only [Xd] <;> omega)) only [ac187, ↓Xa, Xb, Xc, ↓reduceIte, Nat.reduceLT, Nat.reduceEqDiff, Nat.reduceBEq, Nat.reduceLeDiff, Nat.reduceAdd, Nat.reduceMul]
  refine (cmp_fn ta tb ha hb).call ?_
  have hc : ∃ n : Nat, cmpZ (val 4294967296 a) (val 4294967296 b) = (n : Int) := by
    by_cases e : val 4294967296 b < val 4294967296 a
    · exact ⟨1, by simp [cmpZ, e, Nat.not_lt_of_lt e]⟩
    · exact ⟨0, by simp [cmpZ, show val 4294967296 a = val 4294967296 b by omega]⟩
  obtain ⟨n, hc⟩ := hc
  simp (disch := first | assumption | (apply Ap.symm; assumption) | omega | decide | (simp only [Xd] <;> omega)) only [hc, ↓Xa, Xb, Xc, ↓reduceIte, Nat.reduceLT, Nat.reduceEqDiff, Nat.reduceBEq, Nat.reduceLeDiff, Nat.reduceAdd, Nat.reduceMul]
  refine newU_i fun o ho => ?_
  simp (disch := first | assumption | (apply Ap.symm; assumption) | omega | decide | (simp only [Xd] <;> omega)) only [↓Xa, Xb, Xc, ↓reduceIte, Nat.reduceLT, Nat.reduceEqDiff, Nat.reduceBEq, Nat.reduceLeDiff, Nat.reduceAdd, Nat.reduceMul]
  refine W_loop (fun p : Nat × Nat × List Nat => ⟨[], [(1, LS b tb), (6, .own o a.length 0 a.length true), (7, .int .u64 p.2.1), (19, LS a ta), (20, .int .i64 a.length), (21, .int .i64 p.1)],
      H.upd o (some (.row 172 1 (U (p.2.2 ++ List.replicate (a.length - p.1) 0))))⟩)
    (fun p => p.1 ≤ a.length ∧ SubI a b p.1 p.2.1 p.2.2) (fun p => a.length - p.1) (0, 0, []) (Settle.now rfl) ⟨by simp, SubI.zero a b⟩ ?_
  rintro ⟨i, c, done⟩ ⟨h1, h2⟩
  dsimp only at h1 h2 ⊢
  have hdl := h2.1
  have hc := h2.2.2.1
  by_cases hi : i < a.length
  · have hx := ha.getD (by omega) i
    have hy := hb.getD (by omega) i
    by_cases hj : i < b.length
    · simp (disch := first | assumption | (apply Ap.symm; assumption) | omega | decide | (simp only [Xd] <;> omega)) only [hi, hj, ↓Xa, Xb, Xc, ↓reduceIte, Nat.reduceLT, Nat.reduceEqDiff, Nat.reduceBEq, Nat.reduceLeDiff, Nat.reduceAdd, Nat.reduceMul]
      refine Settle.now ⟨(i + 1, _, done ++ [_]), by dsimp only; omega, ⟨by dsimp only; omega, h2.step ha hb rfl rfl⟩, ?_⟩
      rw [set_zeros' _ _ _ _ hdl (by omega)]
    · simp (disch := first | assumption | (apply Ap.symm; assumption) | omega | decide | (simp only [Xd] <;> omega)) only [hi, hj, ↓Xa, Xb, Xc, ↓reduceIte, Nat.reduceLT, Nat.reduceEqDiff, Nat.reduceBEq, Nat.reduceLeDiff, Nat.reduceAdd, Nat.reduceMul]
      have := getD_beyond (show b.length ≤ i by omega)
      refine Settle.now ⟨(i + 1, _, done ++ [_]), by dsimp only; omega, ⟨by dsimp only; omega, h2.step ha hb (y := c) (by omega) rfl⟩, ?_⟩
      rw [set_zeros' _ _ _ _ hdl (by omega)]
  · obtain rfl : i = a.length := by omega
    simp (disch := first | assumption | (apply Ap.symm; assumption) | omega | decide | (simp only [Xd] <;> omega)) only [hi, ↓Xa, Xb, Xc, ↓reduceIte, Nat.reduceLT, Nat.reduceEqDiff, Nat.reduceBEq, Nat.reduceLeDiff, Nat.reduceAdd, Nat.reduceMul]
    refine Settle.now ?_
    simp (disch := first | assumption | (apply Ap.symm; assumption) | omega | decide | (simp only [Xd] <;> omega)) only [Nat.sub_self, List.replicate_zero, ↓Xa, Xb, Xc, ↓reduceIte, Nat.reduceLT, Nat.reduceEqDiff, Nat.reduceBEq, Nat.reduceLeDiff, Nat.reduceAdd, Nat.reduceMul]
    refine trim_call (upd_same _ _ _) hdl ?_
    simp (disch := first | assumption | (apply Ap.symm; assumption) | omega | decide | (simp only [Xd] <;> omega)) only [rs187, ↓Xa, Xb, Xc, ↓reduceIte, Nat.reduceLT, Nat.reduceEqDiff, Nat.reduceBEq, Nat.reduceLeDiff, Nat.reduceAdd, Nat.reduceMul]
    exact fin_tr2 ho hdl (by rw [h2.end ha hab]; exact hq)

theorem mul_fn {a b : List Nat} (ta tb : Bool) (ha : Lim 4294967296 a) (hb : Lim 4294967296 b) (hla : a.length ≤ 1099511627776) (hlb : b.length ≤ 1099511627776) :
    PFn Tryd.prog 171 [LS a ta, LS b tb] (LS (digs 4294967296 (val 4294967296 a * val 4294967296 b)) true) := by
  intro H Q hq
  refine enter171 (by simp) ?_
  simp (disch := first | assumption | (apply Ap.symm; assumption) | omega | decide | (simp only [Xd] <;> omega)) only [ac171, ↓Xa, Xb, Xc, ↓reduceIte, Nat.reduceLT, Nat.reduceEqDiff, Nat.reduceBEq, Nat.reduceLeDiff, Nat.reduceAdd, Nat.reduceMul]
  refine newU_i fun o ho => ?_
  simp (disch := first | assumption | (apply Ap.symm; assumption) | omega | decide | (simp only [Xd] <;> omega)) only [↓Xa, Xb, Xc, ↓reduceIte, Nat.reduceLT, Nat.reduceEqDiff, Nat.reduceBEq, Nat.reduceLeDiff, Nat.reduceAdd, Nat.reduceMul]
  refine W_loop (fun p : Nat × List Nat => ⟨[], [(1, LS b tb), (5, .own o (a.length + b.length) 0 (a.length + b.length) true), (17, LS a ta), (18, .int .i64 a.length), (19, .int .i64 p.1)],
      H.upd o (some (.row 172 1 (U p.2)))⟩)
    (fun p => p.1 ≤ a.length ∧ MulI a b p.1 p.2) (fun p => a.length - p.1) (0, List.replicate (a.length + b.length) 0) (Settle.now rfl) ⟨by simp, MulI.zero a b⟩ ?_
  rintro ⟨i, out⟩ ⟨h1, h2⟩
  dsimp only at h1 h2 ⊢
  have hol := h2.1
  by_cases hi : i < a.length
  · simp (disch := first | assumption | (apply Ap.symm; assumption) | omega | decide | (simp only [Xd] <;> omega)) only [hi, ↓Xa, Xb, Xc, ↓reduceIte, Nat.reduceLT, Nat.reduceEqDiff, Nat.reduceBEq, Nat.reduceLeDiff, Nat.reduceAdd, Nat.reduceMul]
    refine W_loop (fun p : Nat × Nat × List Nat => ⟨[], [(1, LS b tb), (5, .own o (a.length + b.length) 0 (a.length + b.length) true), (6, .int .i64 i), (7, .int .u32 (a.getD i 0 : Nat)), (8, .int .u64 p.2.1), (17, LS a ta), (18, .int .i64 a.length), (19, .int .i64 i), (24, LS b tb), (25, .int .i64 b.length), (26, .int .i64 p.1)],
      H.upd o (some (.row 172 1 (U p.2.2)))⟩)
      (fun p => p.1 ≤ b.length ∧ MulK a b i p.1 p.2.1 p.2.2) (fun p => b.length - p.1) (0, 0, out) (Settle.now rfl) ⟨by simp, MulK.start h2⟩ ?_
    rintro ⟨k, c, out⟩ ⟨g1, g2⟩
    dsimp only at g1 g2 ⊢
    have gol := g2.1
    have gc := g2.2.2.1
    have hx := ha.getD (by omega) i
    by_cases hk : k < b.length
    · have hy := hb.getD (by omega) k
      have ho := g2.2.1.getD (by omega) (i + k)
      have hm : a.getD i 0 * b.getD k 0 ≤ 4294967295 * 4294967295 := Nat.mul_le_mul (by omega) (by omega)
      simp (disch := first | assumption | (apply Ap.symm; assumption) | omega | decide | (simp only [Xd] <;> omega)) only [hk, ↓Xa, Xb, Xc, ↓reduceIte, Nat.reduceLT, Nat.reduceEqDiff, Nat.reduceBEq, Nat.reduceLeDiff, Nat.reduceAdd, Nat.reduceMul]
      refine Settle.now ⟨(k + 1, _, _), by dsimp only; omega, ⟨by dsimp only; omega, g2.step hi hk ha hb rfl⟩, rfl⟩
    · obtain rfl : k = b.length := by omega
      simp (disch := first | assumption | (apply Ap.symm; assumption) | omega | decide | (simp only [Xd] <;> omega)) only [hk, ↓Xa, Xb, Xc, ↓reduceIte, Nat.reduceLT, Nat.reduceEqDiff, Nat.reduceBEq, Nat.reduceLeDiff, Nat.reduceAdd, Nat.reduceMul]
      refine Settle.now ?_
      simp (disch := first | assumption | (apply Ap.symm; assumption) | omega | decide | (simp only [Xd] <;> omega)) only [↓Xa, Xb, Xc, ↓reduceIte, Nat.reduceLT, Nat.reduceEqDiff, Nat.reduceBEq, Nat.reduceLeDiff, Nat.reduceAdd, Nat.reduceMul]
      refine Settle.now ⟨(i + 1, _), by dsimp only; omega, ⟨by dsimp only; omega, g2.end hi⟩, rfl⟩
  · obtain rfl : i = a.length := by omega
    simp (disch := first | assumption | (apply Ap.symm; assumption) | omega | decide | (simp only [Xd] <;> omega)) only [hi, ↓Xa, Xb, Xc, ↓reduceIte, Nat.reduceLT, Nat.reduceEqDiff, Nat.reduceBEq, Nat.reduceLeDiff, Nat.reduceAdd, Nat.reduceMul]
    refine Settle.now ?_
    simp (disch := first | assumption | (apply Ap.symm; assumption) | omega | decide | (simp only [Xd] <;> omega)) only [↓Xa, Xb, Xc, ↓reduceIte, Nat.reduceLT, Nat.reduceEqDiff, Nat.reduceBEq, Nat.reduceLeDiff, Nat.reduceAdd, Nat.reduceMul]
    refine trim_call (upd_same _ _ _) hol ?_
    simp (disch := first | assumption | (apply Ap.symm; assumption) | omega | decide | (simp only [Xd] <;> omega)) only [rs171, ↓Xa, Xb, Xc, ↓reduceIte, Nat.reduceLT, Nat.reduceEqDiff, Nat.reduceBEq, Nat.reduceLeDiff, Nat.reduceAdd, Nat.reduceMul]
    exact fin_tr ho hol (by rw [h2.end]; exact hq)

theorem divsmall_fn {a : List Nat} {d : Nat} (ta : Bool) (ha : Lim 4294967296 a) (hd : 0 < d) (hd' : d < 4294967296) (hla : a.length ≤ 1099511627776) :
    PFn Tryd.prog 212 [LS a ta, .int .u32 (d : Nat)] (.tup [LS (digs 4294967296 (val 4294967296 a / d)) true, .int .u32 ((val 4294967296 a % d : Nat) : Int), .int .i64 ((0 : Nat) : Int)]) := by
  intro H Q hq
  refine enter212 (by simp) ?_
  have hne : (d = 0) = False := by simp; omega
  simp (disch := first | assumption | (apply Ap.symm; assumption) | omega | decide | (simp only [Xd] <;> omega)) only [ac212, hne, ↓Xa, Xb, Xc, ↓reduceIte, Nat.reduceLT, Nat.reduceEqDiff, Nat.reduceBEq, Nat.reduceLeDiff, Nat.reduceAdd, Nat.reduceMul]
  refine newU_i fun o ho => ?_
  simp (disch := first | assumption | (apply Ap.symm; assumption) | omega | decide | (simp only [Xd] <;> omega)) only [↓Xa, Xb, Xc, ↓reduceIte, Nat.reduceLT, Nat.reduceEqDiff, Nat.reduceBEq, Nat.reduceLeDiff, Nat.reduceAdd, Nat.reduceMul]
  refine W_loop (fun p : Nat × Nat × List Nat => ⟨[], [(0, LS a ta), (1, .int .u32 (d : Nat)), (7, .own o a.length 0 a.length true), (8, .int .u64 p.2.1), (9, .int .i64 (dn p.1))],
      H.upd o (some (.row 172 1 (U p.2.2)))⟩)
    (fun p => p.1 ≤ a.length ∧ DivI a d p.1 p.2.1 p.2.2) (fun p => p.1) (a.length, 0, List.replicate a.length 0) (Settle.now rfl) ⟨by simp, DivI.zero a hd⟩ ?_
  rintro ⟨k, r, out⟩ ⟨h1, h2⟩
  dsimp only at h1 h2 ⊢
  have hol := h2.1
  have hr := h2.2.2.1
  cases k with
  | zero =>
    simp (disch := first | assumption | (apply Ap.symm; assumption) | omega | decide | (simp only [Xd] <;> omega)) only [↓Xa, Xb, Xc, ↓reduceIte, Nat.reduceLT, Nat.reduceEqDiff, Nat.reduceBEq, Nat.reduceLeDiff, Nat.reduceAdd, Nat.reduceMul]
    refine Settle.now ?_
    simp (disch := first | assumption | (apply Ap.symm; assumption) | omega | decide | (simp only [Xd] <;> omega)) only [↓Xa, Xb, Xc, ↓reduceIte, Nat.reduceLT, Nat.reduceEqDiff, Nat.reduceBEq, Nat.reduceLeDiff, Nat.reduceAdd, Nat.reduceMul]
    refine trim_call (upd_same _ _ _) hol ?_
    simp (disch := first | assumption | (apply Ap.symm; assumption) | omega | decide | (simp only [Xd] <;> omega)) only [rs212, ↓Xa, Xb, Xc, ↓reduceIte, Nat.reduceLT, Nat.reduceEqDiff, Nat.reduceBEq, Nat.reduceLeDiff, Nat.reduceAdd, Nat.reduceMul]
    rw [h2.end.2]
    exact fin_tr3 ho hol (by rw [h2.end.1]; exact hq)
  | succ k =>
    have hx := ha.getD (by omega) k
    have hs : r * 2 ^ 32 + a.getD k 0 < 18446744073709551616 := by omega
    have hq : (r * 2 ^ 32 + a.getD k 0) / d < 18446744073709551616 := Nat.lt_of_le_of_lt (Nat.div_le_self _ _) hs
    simp (disch := first | assumption | (apply Ap.symm; assumption) | omega | decide | (simp only [Xd] <;> omega)) only [hne, ne_eq, ↓Xa, Xb, Xc, ↓reduceIte, Nat.reduceLT, Nat.reduceEqDiff, Nat.reduceBEq, Nat.reduceLeDiff, Nat.reduceAdd, Nat.reduceMul]
    refine Settle.now ⟨(k, _, _), by dsimp only; omega, ⟨by dsimp only; omega, h2.step (by omega) ha hd' rfl⟩, rfl⟩
end Go.Proofs.YtanchgkiomfhhaaDoor.Fw

/- Binary digits of limbs. -/
namespace Go.Proofs.YtanchgkiomfhhaaDoor.Fw
set_option linter.unusedSimpArgs false
set_option linter.unusedVariables false
open Go Go.Proofs.YtanchgkiomfhhaaDoor.Ma
set_option maxRecDepth 20000

theorem lss_f {n : Nat} {K : AV → Prop} : binW .lss (.int .i64 (n : Int)) (.int .i64 ((0 : Nat) : Int)) K ↔ K (.bool false) := by rw [bin_lss]; simp
theorem idxS_nat {s : ByteArray} {k : IntKind} {j : Nat} {K : AV → Prop} (h : j < s.size) : idxSW (.str s) (.int k (j : Int)) K = K (.int .u8 ((byteAt s j : Nat) : Int)) := by
  simp [idxSW, h]
theorem len8 : ∀ j, j < 256 → byteAt ⟨#[0, 1, 2, 2, 3, 3, 3, 3, 4, 4, 4, 4, 4, 4, 4, 4, 5, 5, 5, 5, 5, 5, 5, 5, 5, 5, 5, 5, 5, 5, 5, 5, 6, 6, 6, 6, 6, 6, 6, 6, 6, 6, 6, 6, 6, 6, 6, 6, 6, 6, 6, 6, 6, 6, 6, 6, 6, 6, 6, 6, 6, 6, 6, 6, 7, 7, 7, 7, 7, 7, 7, 7, 7, 7, 7, 7, 7, 7, 7, 7, 7, 7, 7, 7, 7, 7, 7, 7, 7, 7, 7, 7, 7, 7, 7, 7, 7, 7, 7, 7, 7, 7, 7, 7, 7, 7, 7, 7, 7, 7, 7, 7, 7, 7, 7, 7, 7, 7, 7, 7, 7, 7, 7, 7, 7, 7, 7, 7, 8, 8, 8, 8, 8, 8, 8, 8, 8, 8, 8, 8, 8, 8, 8, 8, 8, 8, 8, 8, 8, 8, 8, 8, 8, 8, 8, 8, 8, 8, 8, 8, 8, 8, 8, 8, 8, 8, 8, 8, 8, 8, 8, 8, 8, 8, 8, 8, 8, 8, 8, 8, 8, 8, 8, 8, 8, 8, 8, 8, 8, 8, 8, 8, 8, 8, 8, 8, 8, 8, 8, 8, 8, 8, 8, 8, 8, 8, 8, 8, 8, 8, 8, 8, 8, 8, 8, 8, 8, 8, 8, 8, 8, 8, 8, 8, 8, 8, 8, 8, 8, 8, 8, 8, 8, 8, 8, 8, 8, 8, 8, 8, 8, 8, 8, 8, 8, 8, 8, 8, 8, 8, 8, 8, 8, 8, 8, 8]⟩ j = blen j := by decide +kernel
theorem idx8 {k : IntKind} {j : Nat} {K : AV → Prop} (h : j < 256) : idxSW (.str ⟨#[0, 1, 2, 2, 3, 3, 3, 3, 4, 4, 4, 4, 4, 4, 4, 4, 5, 5, 5, 5, 5, 5, 5, 5, 5, 5, 5, 5, 5, 5, 5, 5, 6, 6, 6, 6, 6, 6, 6, 6, 6, 6, 6, 6, 6, 6, 6, 6, 6, 6, 6, 6, 6, 6, 6, 6, 6, 6, 6, 6, 6, 6, 6, 6, 7, 7, 7, 7, 7, 7, 7, 7, 7, 7, 7, 7, 7, 7, 7, 7, 7, 7, 7, 7, 7, 7, 7, 7, 7, 7, 7, 7, 7, 7, 7, 7, 7, 7, 7, 7, 7, 7, 7, 7, 7, 7, 7, 7, 7, 7, 7, 7, 7, 7, 7, 7, 7, 7, 7, 7, 7, 7, 7, 7, 7, 7, 7, 7, 8, 8, 8, 8, 8, 8, 8, 8, 8, 8, 8, 8, 8, 8, 8, 8, 8, 8, 8, 8, 8, 8, 8, 8, 8, 8, 8, 8, 8, 8, 8, 8, 8, 8, 8, 8, 8, 8, 8, 8, 8, 8, 8, 8, 8, 8, 8, 8, 8, 8, 8, 8, 8, 8, 8, 8, 8, 8, 8, 8, 8, 8, 8, 8, 8, 8, 8, 8, 8, 8, 8, 8, 8, 8, 8, 8, 8, 8, 8, 8, 8, 8, 8, 8, 8, 8, 8, 8, 8, 8, 8, 8, 8, 8, 8, 8, 8, 8, 8, 8, 8, 8, 8, 8, 8, 8, 8, 8, 8, 8, 8, 8, 8, 8, 8, 8, 8, 8, 8, 8, 8, 8, 8, 8, 8, 8, 8, 8]⟩) (.int k (j : Int)) K = K (.int .u8 ((blen j : Nat) : Int)) := by
  have sz : (⟨#[0, 1, 2, 2, 3, 3, 3, 3, 4, 4, 4, 4, 4, 4, 4, 4, 5, 5, 5, 5, 5, 5, 5, 5, 5, 5, 5, 5, 5, 5, 5, 5, 6, 6, 6, 6, 6, 6, 6, 6, 6, 6, 6, 6, 6, 6, 6, 6, 6, 6, 6, 6, 6, 6, 6, 6, 6, 6, 6, 6, 6, 6, 6, 6, 7, 7, 7, 7, 7, 7, 7, 7, 7, 7, 7, 7, 7, 7, 7, 7, 7, 7, 7, 7, 7, 7, 7, 7, 7, 7, 7, 7, 7, 7, 7, 7, 7, 7, 7, 7, 7, 7, 7, 7, 7, 7, 7, 7, 7, 7, 7, 7, 7, 7, 7, 7, 7, 7, 7, 7, 7, 7, 7, 7, 7, 7, 7, 7, 8, 8, 8, 8, 8, 8, 8, 8, 8, 8, 8, 8, 8, 8, 8, 8, 8, 8, 8, 8, 8, 8, 8, 8, 8, 8, 8, 8, 8, 8, 8, 8, 8, 8, 8, 8, 8, 8, 8, 8, 8, 8, 8, 8, 8, 8, 8, 8, 8, 8, 8, 8, 8, 8, 8, 8, 8, 8, 8, 8, 8, 8, 8, 8, 8, 8, 8, 8, 8, 8, 8, 8, 8, 8, 8, 8, 8, 8, 8, 8, 8, 8, 8, 8, 8, 8, 8, 8, 8, 8, 8, 8, 8, 8, 8, 8, 8, 8, 8, 8, 8, 8, 8, 8, 8, 8, 8, 8, 8, 8, 8, 8, 8, 8, 8, 8, 8, 8, 8, 8, 8, 8, 8, 8, 8, 8, 8, 8]⟩ : ByteArray).size = 256 := by decide +kernel
  rw [idxS_nat (by rw [sz]; exact h), len8 j h]
theorem len32_fn {x : Nat} (hx : x < 4294967296) : PFn Tryd.prog 217 [.int .u32 (x : Int)] (.int .i64 ((blen x : Nat) : Int)) := by
  intro H Q hq
  have hb : blen x ≤ 32 := blen_le.2 (by omega)
  refine enter217 (by simp) ?_
  by_cases h1 : 65536 ≤ x
  · have e1 := blen_shift (n := x) (s := 16) h1
    by_cases h2 : 256 ≤ x / 2 ^ 16
    · have e2 := blen_shift (n := x / 2 ^ 16) (s := 8) h2
      have h3 : x / 2 ^ 16 / 2 ^ 8 < 256 := by omega
      have hl : blen (x / 2 ^ 16 / 2 ^ 8) ≤ 8 := blen_le.2 h3
      simp (disch := first | assumption | (apply Ap.symm; assumption) | omega | decide | (simp only [Xd] <;> omega)) only [ac217, h1, h2, idx8, rs217, ↓Xa, Xb, Xc, ↓reduceIte, Nat.reduceLT, Nat.reduceEqDiff, Nat.reduceBEq, Nat.reduceLeDiff, Nat.reduceAdd, Nat.reduceMul]
      refine SetR.now ?_
      rwa [show 16 + 8 + blen (x / 2 ^ 16 / 2 ^ 8) = blen x by omega]
    · have h3 : x / 2 ^ 16 < 256 := by omega
      have hl : blen (x / 2 ^ 16) ≤ 8 := blen_le.2 h3
      simp (disch := first | assumption | (apply Ap.symm; assumption) | omega | decide | (simp only [Xd] <;> omega)) only [ac217, h1, h2, idx8, rs217, ↓Xa, Xb, Xc, ↓reduceIte, Nat.reduceLT, Nat.reduceEqDiff, Nat.reduceBEq, Nat.reduceLeDiff, Nat.reduceAdd, Nat.reduceMul]
      refine SetR.now ?_
      rwa [show 16 + blen (x / 2 ^ 16) = blen x by omega]
  · by_cases h2 : 256 ≤ x
    · have e2 := blen_shift (n := x) (s := 8) h2
      have h3 : x / 2 ^ 8 < 256 := by omega
      have hl : blen (x / 2 ^ 8) ≤ 8 := blen_le.2 h3
      simp (disch := first | assumption | (apply Ap.symm; assumption) | omega | decide | (simp only [Xd] <;> omega)) only [ac217, h1, h2, idx8, rs217, ↓Xa, Xb, Xc, ↓reduceIte, Nat.reduceLT, Nat.reduceEqDiff, Nat.reduceBEq, Nat.reduceLeDiff, Nat.reduceAdd, Nat.reduceMul]
      refine SetR.now ?_
      rwa [show 0 + 8 + blen (x / 2 ^ 8) = blen x by omega]
    · have hl : blen x ≤ 8 := blen_le.2 (by omega)
      simp (disch := first | assumption | (apply Ap.symm; assumption) | omega | decide | (simp only [Xd] <;> omega)) only [ac217, h1, h2, idx8, rs217, ↓Xa, Xb, Xc, ↓reduceIte, Nat.reduceLT, Nat.reduceEqDiff, Nat.reduceBEq, Nat.reduceLeDiff, Nat.reduceAdd, Nat.reduceMul]
      refine SetR.now ?_
      exact hq

theorem bits_fn {l : List Nat} (t : Bool) (hl : Lim 4294967296 l) (hn : l.length ≤ 1099511627776) : PFn Tryd.prog 206 [LS l t] (.int .i64 ((blen (val 4294967296 l) : Nat) : Int)) := by
  intro H Q hq
  have ht := tr_len l
  refine enter206 (by simp) ?_
  simp (disch := first | assumption | (apply Ap.symm; assumption) | omega | decide | (simp only [Xd] <;> omega)) only [ac206, ↓Xa, Xb, Xc, ↓reduceIte, Nat.reduceLT, Nat.reduceEqDiff, Nat.reduceBEq, Nat.reduceLeDiff, Nat.reduceAdd, Nat.reduceMul]
  refine (trim_fn l t).call ?_
  rw [tr_digs (by omega) hl] at ht ⊢
  generalize val 4294967296 l = n at *
  rcases Nat.eq_zero_or_pos n with e | e
  · subst e
    rw [digs_zero]
    simp (disch := first | assumption | (apply Ap.symm; assumption) | omega | decide | (simp only [Xd] <;> omega)) only [rs206, ↓Xa, Xb, Xc, ↓reduceIte, Nat.reduceLT, Nat.reduceEqDiff, Nat.reduceBEq, Nat.reduceLeDiff, Nat.reduceAdd, Nat.reduceMul]
    exact SetR.now hq
  · have hp : 0 < (digs 4294967296 n).length := by rw [digs_pos (by omega) e]; simp
    have hne : ((digs 4294967296 n).length = 0) = False := eq_false (by omega)
    have hb := blen_digs (w := 32) (by omega) e
    have hlim := (lim_digs (B := 4294967296) (by omega) n).getD (by omega) ((digs 4294967296 n).length - 1)
    have hb32 : blen ((digs 4294967296 n).getD ((digs 4294967296 n).length - 1) 0) ≤ 32 := blen_le.2 (by omega)
    simp (disch := first | assumption | (apply Ap.symm; assumption) | omega | decide | (simp only [Xd] <;> omega)) only [hne, ↓Xa, Xb, Xc, ↓reduceIte, Nat.reduceLT, Nat.reduceEqDiff, Nat.reduceBEq, Nat.reduceLeDiff, Nat.reduceAdd, Nat.reduceMul]
    refine (len32_fn hlim).call ?_
    simp (disch := first | assumption | (apply Ap.symm; assumption) | omega | decide | (simp only [Xd] <;> omega)) only [rs206, ↓Xa, Xb, Xc, ↓reduceIte, Nat.reduceLT, Nat.reduceEqDiff, Nat.reduceBEq, Nat.reduceLeDiff, Nat.reduceAdd, Nat.reduceMul]
    refine SetR.now ?_
    rw [hb] at hq
    exact hq

end Go.Proofs.YtanchgkiomfhhaaDoor.Fw

/- What package limb computes: shifts. -/
namespace Go.Proofs.YtanchgkiomfhhaaDoor.Fw
set_option linter.unusedSimpArgs false
set_option linter.unusedVariables false
open Go Go.Proofs.YtanchgkiomfhhaaDoor.Ma
set_option maxRecDepth 20000

end Go.Proofs.YtanchgkiomfhhaaDoor.Fw

/- What package limb computes: a quotient's digit. -/
namespace Go.Proofs.YtanchgkiomfhhaaDoor.Fw
set_option linter.unusedSimpArgs false
set_option linter.unusedVariables false
open Go Go.Proofs.YtanchgkiomfhhaaDoor.Ma
set_option maxRecDepth 20000

section
variable {H : AHeap} {b ty off L n : Nat} {ti : Bool} {pre u post : List Nat}
def scC : ACode → ACode
  | .scope0 c => c
  | x => x
end
end Go.Proofs.YtanchgkiomfhhaaDoor.Fw

/- What package limb computes: quotients and remainders. -/
namespace Go.Proofs.YtanchgkiomfhhaaDoor.Fw
set_option linter.unusedSimpArgs false
set_option linter.unusedVariables false
open Go Go.Proofs.YtanchgkiomfhhaaDoor.Ma
set_option maxRecDepth 20000

theorem LS_0 (B : Nat) : AV.seq 0 [] true = LS (digs B 0) true := by rw [digs_zero]; rfl
end Go.Proofs.YtanchgkiomfhhaaDoor.Fw

/- What package integer computes: making, signs, comparing, sums, products. -/
namespace Go.Proofs.YtanchgkiomfhhaaDoor.Fw
set_option linter.unusedSimpArgs false
set_option linter.unusedVariables false
open Go Go.Proofs.YtanchgkiomfhhaaDoor.Ma
set_option maxRecDepth 20000

def IntA (z : Int) : AV := .agg [.bool (decide (z < 0)), LS (digs 4294967296 z.natAbs) true]
def sg (neg : Bool) (n : Nat) : Int := if neg then -(n : Int) else n
theorem sg_abs (neg : Bool) (n : Nat) : (sg neg n).natAbs = n := by cases neg <;> simp [sg]
theorem sg_neg (neg : Bool) (n : Nat) : decide (sg neg n < 0) = (neg && decide (0 < n)) := by cases neg <;> simp [sg] <;> omega
theorem abs_nn {z : Int} (h : 0 ≤ z) : ((z.natAbs : Nat) : Int) = z := by omega
theorem abs_np {z : Int} (h : z ≤ 0) : -((z.natAbs : Nat) : Int) = z := by omega
theorem IntA_sg (neg : Bool) (n : Nat) : IntA (sg neg n) = .agg [.bool (neg && decide (0 < (digs 4294967296 n).length)), LS (digs 4294967296 n) true] := by
  simp only [IntA, sg_abs, sg_neg, digs_pos_len (B := 4294967296) (n := n) (by omega)]

def IntB (z : Int) : AV := .bool (decide (z < 0))
def IntD (z : Int) : AV := LS (digs 4294967296 z.natAbs) true
theorem IntA_eq {z : Int} : IntA z = .agg [IntB z, IntD z] := id rfl
theorem cells_IntA {z : Int} : (IntA z).cells = some [IntB z, IntD z] := id rfl
theorem fold_IntA {z : Int} : AV.agg [IntB z, IntD z] = IntA z := id rfl
theorem IntA_0 : AV.agg [.bool false, .seq 0 [] true] = IntA 0 := by simp [IntA, digs_zero, LS, U]
theorem made_fn (neg : Bool) (n : Nat) (hl : (digs 4294967296 n).length ≤ 1099511627776) : PFn Tryd.prog 137 [.bool neg, LS (digs 4294967296 n) true] (IntA (sg neg n)) := by
  intro H Q hq
  refine enter137 (by simp) ?_
  rw [IntA_sg] at hq
  simp (disch := first | assumption | (apply Ap.symm; assumption) | omega | decide | (simp only [Xd] <;> omega)) only [ac137, ↓Xa, Xb, Xc, ↓reduceIte, Nat.reduceLT, Nat.reduceEqDiff, Nat.reduceBEq, Nat.reduceLeDiff, Nat.reduceAdd, Nat.reduceMul]
  refine alloc_i fun p hp => ?_
  cases neg
  · simp (disch := first | assumption | (apply Ap.symm; assumption) | omega | decide | (simp only [Xd] <;> omega)) only [rs137, ↓Xa, Xb, Xc, ↓reduceIte, Nat.reduceLT, Nat.reduceEqDiff, Nat.reduceBEq, Nat.reduceLeDiff, Nat.reduceAdd, Nat.reduceMul]
    exact SetR.dropTo ((Le.refl H).upd hp) (SetR.now hq)
  · simp (disch := first | assumption | (apply Ap.symm; assumption) | omega | decide | (simp only [Xd] <;> omega)) only [rs137, ↓Xa, Xb, Xc, ↓reduceIte, Nat.reduceLT, Nat.reduceEqDiff, Nat.reduceBEq, Nat.reduceLeDiff, Nat.reduceAdd, Nat.reduceMul]
    exact SetR.dropTo ((Le.refl H).upd hp) (SetR.now hq)

def Bd (k : Nat) (z : Int) : Prop := z.natAbs < 4294967296 ^ k
theorem Bd.len {k : Nat} {z : Int} (h : Bd k z) : (digs 4294967296 z.natAbs).length ≤ k := digs_len (by omega) k _ h
theorem Bd.mono {k k' : Nat} {z : Int} (h : Bd k z) (hk : k ≤ k') : Bd k' z := Nat.lt_of_lt_of_le h (Nat.pow_le_pow_right (by omega) hk)
theorem Bd.neg {k : Nat} {z : Int} (h : Bd k z) : Bd k (-z) := by unfold Bd at *; omega
theorem Bd.sgn {k n : Nat} {b : Bool} (h : n < 4294967296 ^ k) : Bd k (sg b n) := by unfold Bd; rw [sg_abs]; exact h
theorem Bd.abs {k : Nat} {z : Int} (h : Bd k z) : Bd k (z.natAbs : Int) := by unfold Bd at *; omega
theorem Bd.add {k : Nat} {x y : Int} (h : Bd k x) (h' : Bd k y) : Bd (k + 1) (x + y) := by
  unfold Bd at *; rw [Nat.pow_succ]; omega
theorem Bd.sub {k : Nat} {x y : Int} (h : Bd k x) (h' : Bd k y) : Bd (k + 1) (x - y) := by
  unfold Bd at *; rw [Nat.pow_succ]; omega
theorem Bd.mul {k k' : Nat} {x y : Int} (h : Bd k x) (h' : Bd k' y) : Bd (k + k') (x * y) := by
  unfold Bd at *; rw [Int.natAbs_mul, Nat.pow_add]
  exact Nat.mul_lt_mul_of_lt_of_lt h h'
theorem Bd.zero (k : Nat) : Bd k 0 := by unfold Bd; exact Nat.pow_pos (by omega)
theorem Bd.i64 {n : Int} (h : -9223372036854775808 ≤ n ∧ n < 9223372036854775808) : Bd 2 n := by unfold Bd; omega

theorem make_fn {l : List Nat} (neg t : Bool) (hl : Lim 4294967296 l) (hn : l.length ≤ 1099511627776) : PFn Tryd.prog 35 [.bool neg, LS l t] (IntA (sg neg (val 4294967296 l))) := by
  intro H Q hq
  refine enter35 (by simp) ?_
  simp (disch := first | assumption | (apply Ap.symm; assumption) | omega | decide | (simp only [Xd] <;> omega)) only [ac35, ↓Xa, Xb, Xc, ↓reduceIte, Nat.reduceLT, Nat.reduceEqDiff, Nat.reduceBEq, Nat.reduceLeDiff, Nat.reduceAdd, Nat.reduceMul]
  refine alloc_i fun p hp => ?_
  simp (disch := first | assumption | (apply Ap.symm; assumption) | omega | decide | (simp only [Xd] <;> omega)) only [↓Xa, Xb, Xc, ↓reduceIte, Nat.reduceLT, Nat.reduceEqDiff, Nat.reduceBEq, Nat.reduceLeDiff, Nat.reduceAdd, Nat.reduceMul]
  refine (norm_fn t (by omega)).call ?_
  rw [tr_digs (by omega) hl]
  simp (disch := first | assumption | (apply Ap.symm; assumption) | omega | decide | (simp only [Xd] <;> omega)) only [↓Xa, Xb, Xc, ↓reduceIte, Nat.reduceLT, Nat.reduceEqDiff, Nat.reduceBEq, Nat.reduceLeDiff, Nat.reduceAdd, Nat.reduceMul]
  refine (made_fn neg _ (by have := tr_len l; rw [tr_digs (by omega) hl] at this; omega)).call ?_
  simp (disch := first | assumption | (apply Ap.symm; assumption) | omega | decide | (simp only [Xd] <;> omega)) only [rs35, IntA, ↓Xa, Xb, Xc, ↓reduceIte, Nat.reduceLT, Nat.reduceEqDiff, Nat.reduceBEq, Nat.reduceLeDiff, Nat.reduceAdd, Nat.reduceMul]
  exact SetR.dropTo ((Le.refl H).upd hp) (SetR.now hq)

theorem of_fn {n : Int} (hn : -9223372036854775808 ≤ n ∧ n < 9223372036854775808) : PFn Tryd.prog 58 [.int .i64 n] (IntA n) := by
  intro H Q hq
  refine enter58 (by simp) ?_
  have v2 : ∀ u : Nat, u < 18446744073709551616 → val 4294967296 [u % 4294967296, u / 2 ^ 32] = u := by
    intro u hu; simp only [val]; omega
  have l2 : ∀ u : Nat, u < 18446744073709551616 → Lim 4294967296 [u % 4294967296, u / 2 ^ 32] := fun u hu => Lim.cons (Nat.mod_lt _ (by omega)) (Lim.one (by omega))
  simp (disch := first | assumption | (apply Ap.symm; assumption) | omega | decide | (simp only [Xd] <;> omega)) only [ac58, ↓Xa, Xb, Xc, ↓reduceIte, Nat.reduceLT, Nat.reduceEqDiff, Nat.reduceBEq, Nat.reduceLeDiff, Nat.reduceAdd, Nat.reduceMul]
  refine alloc_i fun p hp => ?_
  have key' : ∀ (u : Nat) (neg : Bool), u < 18446744073709551616 → sg neg u = n → ∀ {H K}, K (IntA n) H → callW Tryd.prog (.fn (.func 35) [] []) [.bool neg, .seq 2 [.int .u32 ((u % 4294967296 : Nat) : Int), .int .u32 ((u / 2 ^ 32 : Nat) : Int)] true] H K := by
    intro u neg hu hs H K hk
    have := make_fn neg true (l2 u hu) (by simp)
    rw [v2 u hu, hs] at this
    exact this.call hk
  by_cases h0 : n < 0
  · obtain ⟨m, rfl⟩ : ∃ m : Nat, n = -(m : Int) := ⟨n.natAbs, by omega⟩
    have c1 : ∀ K, convW .u64 (.int .i64 (-(m : Int))) K ↔ K (.int .u64 ((18446744073709551616 - m : Nat) : Int)) := fun K => by
      simp only [convW, wmod_u64]; rw [show (-(m : Int)) % 18446744073709551616 = ((18446744073709551616 - m : Nat) : Int) by omega]
    have c2 : ∀ K, unW .neg (.int .u64 ((18446744073709551616 - m : Nat) : Int)) K ↔ K (.int .u64 (m : Int)) := fun K => by
      simp only [unW, wmod_u64]; rw [show (0 - ((18446744073709551616 - m : Nat) : Int)) % 18446744073709551616 = (m : Int) by omega]
    have c3 : ∀ K, binW .lss (.int .i64 (-(m : Int))) (.int .i64 ((0 : Nat) : Int)) K ↔ K (.bool true) := fun K => by
      simp only [binW, binInt, true_and]; rw [decide_eq_true (by omega)]
    simp (disch := first | assumption | (apply Ap.symm; assumption) | omega | decide | (simp only [Xd] <;> omega)) only [c1, c2, c3, ↓Xa, Xb, Xc, ↓reduceIte, Nat.reduceLT, Nat.reduceEqDiff, Nat.reduceBEq, Nat.reduceLeDiff, Nat.reduceAdd, Nat.reduceMul]
    refine key' m true (by omega) (by simp [sg]) ?_
    simp (disch := first | assumption | (apply Ap.symm; assumption) | omega | decide | (simp only [Xd] <;> omega)) only [rs58, IntA, ↓Xa, Xb, Xc, ↓reduceIte, Nat.reduceLT, Nat.reduceEqDiff, Nat.reduceBEq, Nat.reduceLeDiff, Nat.reduceAdd, Nat.reduceMul]
    exact SetR.dropTo ((Le.refl H).upd hp) (SetR.now hq)
  · obtain ⟨m, rfl⟩ : ∃ m : Nat, n = (m : Int) := ⟨n.natAbs, by omega⟩
    simp (disch := first | assumption | (apply Ap.symm; assumption) | omega | decide | (simp only [Xd] <;> omega)) only [↓Xa, Xb, Xc, ↓reduceIte, Nat.reduceLT, Nat.reduceEqDiff, Nat.reduceBEq, Nat.reduceLeDiff, Nat.reduceAdd, Nat.reduceMul]
    refine key' m false (by omega) (by simp [sg]) ?_
    simp (disch := first | assumption | (apply Ap.symm; assumption) | omega | decide | (simp only [Xd] <;> omega)) only [rs58, IntA, ↓Xa, Xb, Xc, ↓reduceIte, Nat.reduceLT, Nat.reduceEqDiff, Nat.reduceBEq, Nat.reduceLeDiff, Nat.reduceAdd, Nat.reduceMul]
    exact SetR.dropTo ((Le.refl H).upd hp) (SetR.now hq)

def sgnI (x : Int) : Int := if x = 0 then ((0 : Nat) : Int) else if x < 0 then -1 else ((1 : Nat) : Int)
theorem sign_fn {x : Int} {k : Nat} (hx : Bd k x) (hk : k ≤ 549755813888) : PFn Tryd.prog 27 [IntA x] (.int .i64 (sgnI x)) := by
  intro H Q hq
  have hl := hx.len
  have h0 := digs_len0 (B := 4294967296) (n := x.natAbs) (by omega)
  refine enter27 (by simp) ?_
  simp (disch := first | assumption | (apply Ap.symm; assumption) | omega | decide | (simp only [Xd] <;> omega)) only [ac27, IntA, ↓Xa, Xb, Xc, ↓reduceIte, Nat.reduceLT, Nat.reduceEqDiff, Nat.reduceBEq, Nat.reduceLeDiff, Nat.reduceAdd, Nat.reduceMul]
  refine alloc_i fun p hp => ?_
  by_cases hz : x = 0
  · have h1 : (digs 4294967296 x.natAbs).length = 0 := by rw [h0]; omega
    simp (disch := first | assumption | (apply Ap.symm; assumption) | omega | decide | (simp only [Xd] <;> omega)) only [rs27, h1, ↓Xa, Xb, Xc, ↓reduceIte, Nat.reduceLT, Nat.reduceEqDiff, Nat.reduceBEq, Nat.reduceLeDiff, Nat.reduceAdd, Nat.reduceMul]
    refine SetR.dropTo ((Le.refl H).upd hp) (SetR.now ?_)
    simpa [sgnI, hz] using hq
  · have h1 : ((digs 4294967296 x.natAbs).length = 0) = False := by rw [h0]; simp; omega
    by_cases hn : x < 0
    · simp (disch := first | assumption | (apply Ap.symm; assumption) | omega | decide | (simp only [Xd] <;> omega)) only [rs27, h1, hn, ↓Xa, Xb, Xc, ↓reduceIte, Nat.reduceLT, Nat.reduceEqDiff, Nat.reduceBEq, Nat.reduceLeDiff, Nat.reduceAdd, Nat.reduceMul]
      refine SetR.dropTo ((Le.refl H).upd hp) (SetR.now ?_)
      simpa [sgnI, hz, hn] using hq
    · simp (disch := first | assumption | (apply Ap.symm; assumption) | omega | decide | (simp only [Xd] <;> omega)) only [rs27, h1, hn, ↓Xa, Xb, Xc, ↓reduceIte, Nat.reduceLT, Nat.reduceEqDiff, Nat.reduceBEq, Nat.reduceLeDiff, Nat.reduceAdd, Nat.reduceMul]
      refine SetR.dropTo ((Le.refl H).upd hp) (SetR.now ?_)
      simpa [sgnI, hz, hn] using hq

def cmpI (x y : Int) : Int := if x < y then -1 else if y < x then ((1 : Nat) : Int) else ((0 : Nat) : Int)
theorem cmpi_fn {x y : Int} {k k' : Nat} (hx : Bd k x) (hk : k ≤ 549755813888) (hy : Bd k' y) (hk' : k' ≤ 549755813888) : PFn Tryd.prog 57 [IntA x, IntA y] (.int .i64 (cmpI x y)) := by
  intro H Q hq
  have hl := hx.len
  have hl' := hy.len
  have vx := val_digs (B := 4294967296) (by omega) x.natAbs
  have vy := val_digs (B := 4294967296) (by omega) y.natAbs
  have lx := lim_digs (B := 4294967296) (by omega) x.natAbs
  have ly := lim_digs (B := 4294967296) (by omega) y.natAbs
  refine enter57 (by simp) ?_
  simp (disch := first | assumption | (apply Ap.symm; assumption) | omega | decide | (simp only [Xd] <;> omega)) only [ac57, IntA, ↓Xa, Xb, Xc, ↓reduceIte, Nat.reduceLT, Nat.reduceEqDiff, Nat.reduceBEq, Nat.reduceLeDiff, Nat.reduceAdd, Nat.reduceMul]
  refine alloc_i fun p hp => ?_
  simp (disch := first | assumption | (apply Ap.symm; assumption) | omega | decide | (simp only [Xd] <;> omega)) only [↓Xa, Xb, Xc, ↓reduceIte, Nat.reduceLT, Nat.reduceEqDiff, Nat.reduceBEq, Nat.reduceLeDiff, Nat.reduceAdd, Nat.reduceMul]
  refine alloc_i fun p2 hp2 => ?_
  have hne := (upd_none.1 hp2).1
  have fin : ∀ v, cmpI x y = v → SetR Q (.int .i64 v) ((H.upd p (some (.row 28 0 [.bool (decide (x < 0)), LS (digs 4294967296 x.natAbs) true]))).upd p2 (some (.row 28 0 [.bool (decide (y < 0)), LS (digs 4294967296 y.natAbs) true]))) := fun v hv => SetR.dropTo (((Le.refl H).upd hp).upd hp2) (SetR.now (hv ▸ hq))
  by_cases hn : x < 0
  · by_cases hn' : y < 0
    · simp (disch := first | assumption | (apply Ap.symm; assumption) | omega | decide | (simp only [Xd] <;> omega)) only [hn, hn', ↓Xa, Xb, Xc, ↓reduceIte, Nat.reduceLT, Nat.reduceEqDiff, Nat.reduceBEq, Nat.reduceLeDiff, Nat.reduceAdd, Nat.reduceMul]
      refine (cmp_fn true true ly lx).call ?_
      rw [vx, vy]
      have : cmpI x y = cmpZ y.natAbs x.natAbs := by unfold cmpI cmpZ; split <;> split <;> first | rfl | omega | (split <;> first | rfl | omega | (split <;> first | rfl | omega))
      simp only [hn, hn', decide_true] at fin
      simp (disch := first | assumption | (apply Ap.symm; assumption) | omega | decide | (simp only [Xd] <;> omega)) only [rs57, ↓Xa, Xb, Xc, ↓reduceIte, Nat.reduceLT, Nat.reduceEqDiff, Nat.reduceBEq, Nat.reduceLeDiff, Nat.reduceAdd, Nat.reduceMul]
      exact fin _ this
    · simp (disch := first | assumption | (apply Ap.symm; assumption) | omega | decide | (simp only [Xd] <;> omega)) only [hn, hn', rs57, ↓Xa, Xb, Xc, ↓reduceIte, Nat.reduceLT, Nat.reduceEqDiff, Nat.reduceBEq, Nat.reduceLeDiff, Nat.reduceAdd, Nat.reduceMul]
      simp only [hn, hn', decide_true, decide_false] at fin
      exact fin _ (by unfold cmpI; rw [if_pos (by omega)])
  · by_cases hn' : y < 0
    · simp (disch := first | assumption | (apply Ap.symm; assumption) | omega | decide | (simp only [Xd] <;> omega)) only [hn, hn', rs57, ↓Xa, Xb, Xc, ↓reduceIte, Nat.reduceLT, Nat.reduceEqDiff, Nat.reduceBEq, Nat.reduceLeDiff, Nat.reduceAdd, Nat.reduceMul]
      simp only [hn, hn', decide_true, decide_false] at fin
      exact fin _ (by unfold cmpI; rw [if_neg (by omega), if_pos (by omega)])
    · simp (disch := first | assumption | (apply Ap.symm; assumption) | omega | decide | (simp only [Xd] <;> omega)) only [hn, hn', ↓Xa, Xb, Xc, ↓reduceIte, Nat.reduceLT, Nat.reduceEqDiff, Nat.reduceBEq, Nat.reduceLeDiff, Nat.reduceAdd, Nat.reduceMul]
      refine (cmp_fn true true lx ly).call ?_
      rw [vx, vy]
      have : cmpI x y = cmpZ x.natAbs y.natAbs := by unfold cmpI cmpZ; split <;> split <;> first | rfl | omega | (split <;> first | rfl | omega | (split <;> first | rfl | omega))
      simp only [hn, hn', decide_false] at fin
      simp (disch := first | assumption | (apply Ap.symm; assumption) | omega | decide | (simp only [Xd] <;> omega)) only [rs57, ↓Xa, Xb, Xc, ↓reduceIte, Nat.reduceLT, Nat.reduceEqDiff, Nat.reduceBEq, Nat.reduceLeDiff, Nat.reduceAdd, Nat.reduceMul]
      exact fin _ this

theorem addi_fn {x y : Int} {k k' : Nat} (hx : Bd k x) (hk : k ≤ 549755813888) (hy : Bd k' y) (hk' : k' ≤ 549755813888) : PFn Tryd.prog 121 [IntA x, IntA y] (IntA (x + y)) := by
  intro H Q hq
  have hl := hx.len
  have hl' := hy.len
  have vx := val_digs (B := 4294967296) (by omega) x.natAbs
  have vy := val_digs (B := 4294967296) (by omega) y.natAbs
  have lx := lim_digs (B := 4294967296) (by omega) x.natAbs
  have ly := lim_digs (B := 4294967296) (by omega) y.natAbs
  have hxm := hx.mono (Nat.le_max_left k k')
  have hym := hy.mono (Nat.le_max_right k k')
  refine enter121 (by simp) ?_
  simp (disch := first | assumption | (apply Ap.symm; assumption) | omega | decide | (simp only [Xd] <;> omega)) only [ac121, IntA, ↓Xa, Xb, Xc, ↓reduceIte, Nat.reduceLT, Nat.reduceEqDiff, Nat.reduceBEq, Nat.reduceLeDiff, Nat.reduceAdd, Nat.reduceMul]
  refine alloc_i fun p hp => ?_
  simp (disch := first | assumption | (apply Ap.symm; assumption) | omega | decide | (simp only [Xd] <;> omega)) only [↓Xa, Xb, Xc, ↓reduceIte, Nat.reduceLT, Nat.reduceEqDiff, Nat.reduceBEq, Nat.reduceLeDiff, Nat.reduceAdd, Nat.reduceMul]
  refine alloc_i fun p2 hp2 => ?_
  simp (disch := first | assumption | (apply Ap.symm; assumption) | omega | decide | (simp only [Xd] <;> omega)) only [↓Xa, Xb, Xc, ↓reduceIte, Nat.reduceLT, Nat.reduceEqDiff, Nat.reduceBEq, Nat.reduceLeDiff, Nat.reduceAdd, Nat.reduceMul]
  refine alloc_i fun p3 hp3 => ?_
  have hne := (upd_none.1 hp2).1
  have hne3 := (upd_none.1 hp3).1
  have hne4 := (upd_none.1 (upd_none.1 hp3).2).1
  by_cases hs : decide (x < 0) = decide (y < 0)
  · have hsb : (decide (x < 0) == decide (y < 0)) = true := by rw [hs]; simp
    simp (disch := first | assumption | (apply Ap.symm; assumption) | omega | decide | (simp only [Xd] <;> omega)) only [hsb, ↓Xa, Xb, Xc, ↓reduceIte, Nat.reduceLT, Nat.reduceEqDiff, Nat.reduceBEq, Nat.reduceLeDiff, Nat.reduceAdd, Nat.reduceMul]
    refine PFn.dcall (add_fn true true lx ly (by omega) (by omega)) ?_
    rw [vx, vy]
    simp (disch := first | assumption | (apply Ap.symm; assumption) | omega | decide | (simp only [Xd] <;> omega)) only [↓Xa, Xb, Xc, ↓reduceIte, Nat.reduceLT, Nat.reduceEqDiff, Nat.reduceBEq, Nat.reduceLeDiff, Nat.reduceAdd, Nat.reduceMul]
    have hb : Bd (max k k' + 1) (sg (decide (x < 0)) (x.natAbs + y.natAbs)) := Bd.sgn (by unfold Bd at hxm hym; rw [Nat.pow_succ]; omega)
    have hb' := hb.len
    rw [sg_abs] at hb'
    refine (made_fn _ _ (by omega)).call ?_
    simp (disch := first | assumption | (apply Ap.symm; assumption) | omega | decide | (simp only [Xd] <;> omega)) only [rs121, IntA, ↓Xa, Xb, Xc, ↓reduceIte, Nat.reduceLT, Nat.reduceEqDiff, Nat.reduceBEq, Nat.reduceLeDiff, Nat.reduceAdd, Nat.reduceMul]
    have e : x + y = sg (decide (x < 0)) (x.natAbs + y.natAbs) := by
      have := decide_eq_decide.1 hs
      unfold sg; by_cases h : x < 0 <;> simp [h] <;> omega
    rw [e] at hq
    exact SetR.dropTo ((((Le.refl H).upd hp).upd hp2).upd hp3) (SetR.now hq)
  · have hsb : (decide (x < 0) == decide (y < 0)) = false := by simpa using hs
    have hs' : ¬ ((x < 0) ↔ (y < 0)) := fun h => hs (decide_eq_decide.2 h)
    simp (disch := first | assumption | (apply Ap.symm; assumption) | omega | decide | (simp only [Xd] <;> omega)) only [hsb, ↓Xa, Xb, Xc, ↓reduceIte, Nat.reduceLT, Nat.reduceEqDiff, Nat.reduceBEq, Nat.reduceLeDiff, Nat.reduceAdd, Nat.reduceMul]
    refine (cmp_fn true true lx ly).call ?_
    rw [vx, vy]
    by_cases hc : x.natAbs < y.natAbs
    · have c3 : ∀ K, binW .lss (.int .i64 (cmpZ x.natAbs y.natAbs)) (.int .i64 ((0 : Nat) : Int)) K ↔ K (.bool true) := fun K => by
        simp [binW, binInt, cmpZ, hc]
      simp (disch := first | assumption | (apply Ap.symm; assumption) | omega | decide | (simp only [Xd] <;> omega)) only [c3, ↓Xa, Xb, Xc, ↓reduceIte, Nat.reduceLT, Nat.reduceEqDiff, Nat.reduceBEq, Nat.reduceLeDiff, Nat.reduceAdd, Nat.reduceMul]
      refine (sub_fn true true ly lx (by rw [vx, vy]; omega) (by omega) (by omega)).call ?_
      rw [vx, vy]
      simp (disch := first | assumption | (apply Ap.symm; assumption) | omega | decide | (simp only [Xd] <;> omega)) only [↓Xa, Xb, Xc, ↓reduceIte, Nat.reduceLT, Nat.reduceEqDiff, Nat.reduceBEq, Nat.reduceLeDiff, Nat.reduceAdd, Nat.reduceMul]
      have hb : Bd k' (sg (decide (y < 0)) (y.natAbs - x.natAbs)) := Bd.sgn (by unfold Bd at hy; omega)
      have hb' := hb.len
      rw [sg_abs] at hb'
      refine (made_fn _ _ (by omega)).call ?_
      simp (disch := first | assumption | (apply Ap.symm; assumption) | omega | decide | (simp only [Xd] <;> omega)) only [rs121, IntA, ↓Xa, Xb, Xc, ↓reduceIte, Nat.reduceLT, Nat.reduceEqDiff, Nat.reduceBEq, Nat.reduceLeDiff, Nat.reduceAdd, Nat.reduceMul]
      have e : x + y = sg (decide (y < 0)) (y.natAbs - x.natAbs) := by
        unfold sg; by_cases h : y < 0 <;> simp [h] <;> omega
      rw [e] at hq
      exact SetR.dropTo ((((Le.refl H).updB hp).updB (upd_none.1 hp2).2).updB (upd_none.1 (upd_none.1 hp3).2).2) (SetR.now hq)
    · have c3 : ∀ K, binW .lss (.int .i64 (cmpZ x.natAbs y.natAbs)) (.int .i64 ((0 : Nat) : Int)) K ↔ K (.bool false) := fun K => by
        have : ¬ (cmpZ x.natAbs y.natAbs < 0) := by unfold cmpZ; rw [if_neg hc]; split <;> omega
        simp [binW, binInt]; rw [decide_eq_false this]
      simp (disch := first | assumption | (apply Ap.symm; assumption) | omega | decide | (simp only [Xd] <;> omega)) only [c3, ↓Xa, Xb, Xc, ↓reduceIte, Nat.reduceLT, Nat.reduceEqDiff, Nat.reduceBEq, Nat.reduceLeDiff, Nat.reduceAdd, Nat.reduceMul]
      refine (sub_fn true true lx ly (by rw [vx, vy]; omega) (by omega) (by omega)).call ?_
      rw [vx, vy]
      simp (disch := first | assumption | (apply Ap.symm; assumption) | omega | decide | (simp only [Xd] <;> omega)) only [↓Xa, Xb, Xc, ↓reduceIte, Nat.reduceLT, Nat.reduceEqDiff, Nat.reduceBEq, Nat.reduceLeDiff, Nat.reduceAdd, Nat.reduceMul]
      have hb : Bd k (sg (decide (x < 0)) (x.natAbs - y.natAbs)) := Bd.sgn (by unfold Bd at hx; omega)
      have hb' := hb.len
      rw [sg_abs] at hb'
      refine (made_fn _ _ (by omega)).call ?_
      simp (disch := first | assumption | (apply Ap.symm; assumption) | omega | decide | (simp only [Xd] <;> omega)) only [rs121, IntA, ↓Xa, Xb, Xc, ↓reduceIte, Nat.reduceLT, Nat.reduceEqDiff, Nat.reduceBEq, Nat.reduceLeDiff, Nat.reduceAdd, Nat.reduceMul]
      have e : x + y = sg (decide (x < 0)) (x.natAbs - y.natAbs) := by
        unfold sg; by_cases h : x < 0 <;> simp [h] <;> omega
      rw [e] at hq
      exact SetR.dropTo ((((Le.refl H).upd hp).upd hp2).upd hp3) (SetR.now hq)

theorem muli_fn {x y : Int} {k k' : Nat} (hx : Bd k x) (hk : k ≤ 549755813888) (hy : Bd k' y) (hk' : k' ≤ 549755813888) : PFn Tryd.prog 89 [IntA x, IntA y] (IntA (x * y)) := by
  intro H Q hq
  have hl := hx.len
  have hl' := hy.len
  have vx := val_digs (B := 4294967296) (by omega) x.natAbs
  have vy := val_digs (B := 4294967296) (by omega) y.natAbs
  have lx := lim_digs (B := 4294967296) (by omega) x.natAbs
  have ly := lim_digs (B := 4294967296) (by omega) y.natAbs
  have hb := (hx.mul hy).len
  refine enter89 (by simp) ?_
  simp (disch := first | assumption | (apply Ap.symm; assumption) | omega | decide | (simp only [Xd] <;> omega)) only [ac89, IntA, ↓Xa, Xb, Xc, ↓reduceIte, Nat.reduceLT, Nat.reduceEqDiff, Nat.reduceBEq, Nat.reduceLeDiff, Nat.reduceAdd, Nat.reduceMul]
  refine alloc_i fun p hp => ?_
  simp (disch := first | assumption | (apply Ap.symm; assumption) | omega | decide | (simp only [Xd] <;> omega)) only [↓Xa, Xb, Xc, ↓reduceIte, Nat.reduceLT, Nat.reduceEqDiff, Nat.reduceBEq, Nat.reduceLeDiff, Nat.reduceAdd, Nat.reduceMul]
  refine alloc_i fun p2 hp2 => ?_
  simp (disch := first | assumption | (apply Ap.symm; assumption) | omega | decide | (simp only [Xd] <;> omega)) only [↓Xa, Xb, Xc, ↓reduceIte, Nat.reduceLT, Nat.reduceEqDiff, Nat.reduceBEq, Nat.reduceLeDiff, Nat.reduceAdd, Nat.reduceMul]
  refine alloc_i fun p3 hp3 => ?_
  have hne := (upd_none.1 hp2).1
  have hne3 := (upd_none.1 hp3).1
  have hne4 := (upd_none.1 (upd_none.1 hp3).2).1
  simp (disch := first | assumption | (apply Ap.symm; assumption) | omega | decide | (simp only [Xd] <;> omega)) only [↓Xa, Xb, Xc, ↓reduceIte, Nat.reduceLT, Nat.reduceEqDiff, Nat.reduceBEq, Nat.reduceLeDiff, Nat.reduceAdd, Nat.reduceMul]
  refine PFn.dcall (mul_fn true true lx ly (by omega) (by omega)) ?_
  rw [vx, vy]
  simp (disch := first | assumption | (apply Ap.symm; assumption) | omega | decide | (simp only [Xd] <;> omega)) only [↓Xa, Xb, Xc, ↓reduceIte, Nat.reduceLT, Nat.reduceEqDiff, Nat.reduceBEq, Nat.reduceLeDiff, Nat.reduceAdd, Nat.reduceMul]
  rw [Int.natAbs_mul] at hb
  refine (made_fn _ _ (by omega)).call ?_
  have e : sg (!(decide (x < 0) == decide (y < 0))) (x.natAbs * y.natAbs) = x * y := by
    rw [← Int.natAbs_mul]
    unfold sg
    by_cases h : x < 0 <;> by_cases h' : y < 0 <;> simp [h, h']
    · rw [abs_nn (Int.mul_nonneg_of_nonpos_of_nonpos (by omega) (by omega))]
    · rw [abs_np (Int.mul_nonpos_of_nonpos_of_nonneg (by omega) (by omega))]
    · rw [abs_np (Int.mul_nonpos_of_nonneg_of_nonpos (by omega) (by omega))]
    · rw [abs_nn (Int.mul_nonneg (by omega) (by omega))]
  rw [e]
  simp (disch := first | assumption | (apply Ap.symm; assumption) | omega | decide | (simp only [Xd] <;> omega)) only [rs89, IntA, ↓Xa, Xb, Xc, ↓reduceIte, Nat.reduceLT, Nat.reduceEqDiff, Nat.reduceBEq, Nat.reduceLeDiff, Nat.reduceAdd, Nat.reduceMul]
  exact SetR.dropTo ((((Le.refl H).upd hp).upd hp2).upd hp3) (SetR.now hq)

theorem timesi_fn {x n : Int} {k : Nat} (hx : Bd k x) (hk : k ≤ 549755813888) (hn : -9223372036854775808 ≤ n ∧ n < 9223372036854775808) : PFn Tryd.prog 131 [IntA x, .int .i64 n] (IntA (x * n)) := by
  intro H Q hq
  refine enter131 (by simp) ?_
  simp (disch := first | assumption | (apply Ap.symm; assumption) | omega | decide | (simp only [Xd] <;> omega)) only [ac131, IntA, ↓Xa, Xb, Xc, ↓reduceIte, Nat.reduceLT, Nat.reduceEqDiff, Nat.reduceBEq, Nat.reduceLeDiff, Nat.reduceAdd, Nat.reduceMul]
  refine alloc_i fun p hp => ?_
  simp (disch := first | assumption | (apply Ap.symm; assumption) | omega | decide | (simp only [Xd] <;> omega)) only [↓Xa, Xb, Xc, ↓reduceIte, Nat.reduceLT, Nat.reduceEqDiff, Nat.reduceBEq, Nat.reduceLeDiff, Nat.reduceAdd, Nat.reduceMul]
  refine alloc_i fun p2 hp2 => ?_
  have hne := (upd_none.1 hp2).1
  simp (disch := first | assumption | (apply Ap.symm; assumption) | omega | decide | (simp only [Xd] <;> omega)) only [↓Xa, Xb, Xc, ↓reduceIte, Nat.reduceLT, Nat.reduceEqDiff, Nat.reduceBEq, Nat.reduceLeDiff, Nat.reduceAdd, Nat.reduceMul]
  refine PFn.dcall (of_fn hn) ?_
  simp (disch := first | assumption | (apply Ap.symm; assumption) | omega | decide | (simp only [Xd] <;> omega)) only [↓Xa, Xb, Xc, ↓reduceIte, Nat.reduceLT, Nat.reduceEqDiff, Nat.reduceBEq, Nat.reduceLeDiff, Nat.reduceAdd, Nat.reduceMul]
  refine (muli_fn hx hk (Bd.i64 hn) (by omega)).call ?_
  simp (disch := first | assumption | (apply Ap.symm; assumption) | omega | decide | (simp only [Xd] <;> omega)) only [rs131, IntA, ↓Xa, Xb, Xc, ↓reduceIte, Nat.reduceLT, Nat.reduceEqDiff, Nat.reduceBEq, Nat.reduceLeDiff, Nat.reduceAdd, Nat.reduceMul]
  exact SetR.dropTo (((Le.refl H).upd hp).upd hp2) (SetR.now hq)
end Go.Proofs.YtanchgkiomfhhaaDoor.Fw

/- What the reference computes of whole numbers: digits to the base 65536. -/
namespace Go.Proofs.YtanchgkiomfhhaaDoor.Fw
set_option linter.unusedSimpArgs false
set_option linter.unusedVariables false
open Go Go.Proofs.YtanchgkiomfhhaaDoor.Ma
set_option maxRecDepth 20000

def RefA (z : Int) (t : Bool) : AV := .agg [.bool (decide (z < 0)), LS (digs 65536 z.natAbs) t]
theorem RefA_sg (neg : Bool) (n : Nat) (t : Bool) : RefA (sg neg n) t = .agg [.bool (neg && decide (0 < (digs 65536 n).length)), LS (digs 65536 n) t] := by
  simp only [RefA, sg_abs, sg_neg, digs_pos_len (B := 65536) (n := n) (by omega)]

theorem rnorm_fn {l : List Nat} (neg t : Bool) (hl : Lim 65536 l) (hn : l.length ≤ 8796093022208) : PFn Tryd.prog 139 [.bool neg, LS l t] (RefA (sg neg (val 65536 l)) false) := by
  intro H Q hq
  rw [RefA_sg] at hq
  refine enter139 (by simp) ?_
  simp (disch := first | assumption | (apply Ap.symm; assumption) | omega | decide | (simp only [Xd] <;> omega)) only [ac139, ↓Xa, Xb, Xc, ↓reduceIte, Nat.reduceLT, Nat.reduceEqDiff, Nat.reduceBEq, Nat.reduceLeDiff, Nat.reduceAdd, Nat.reduceMul]
  refine alloc_i fun p hp => ?_
  simp (disch := first | assumption | (apply Ap.symm; assumption) | omega | decide | (simp only [Xd] <;> omega)) only [↓Xa, Xb, Xc, ↓reduceIte, Nat.reduceLT, Nat.reduceEqDiff, Nat.reduceBEq, Nat.reduceLeDiff, Nat.reduceAdd, Nat.reduceMul]
  refine W_loop (fun n : Nat => ⟨[], [(0, .bool neg), (1, LS l t), (4, .ptr p 2 0), (5, .int .i64 n)], H.upd p (some (.row 39 0 [.bool false, .seq 0 [] true]))⟩) (fun n => n ≤ l.length ∧ ∀ i, n ≤ i → i < l.length → l.getD i 0 = 0) id l.length (Settle.now rfl) ⟨Nat.le_refl _, fun i h1 h2 => absurd h1 (by omega)⟩ ?_
  rintro n ⟨h1, hz⟩
  have fin : ∀ ti, (n = 0 ∨ l.getD (n - 1) 0 ≠ 0) → SetR Q (.agg [.bool (neg && decide (0 < n)), LS (l.take n) ti]) (H.upd p (some (.row 39 0 [.bool (neg && decide (0 < n)), LS (l.take n) ti]))) := fun ti h => by
    have e := tr_take h1 hz h
    have e2 : n = (digs 65536 (val 65536 l)).length := by
      have := congrArg List.length e
      rw [List.length_take, Nat.min_eq_left h1, tr_digs (by omega) hl] at this; exact this
    rw [e, tr_digs (by omega) hl, e2]
    exact SetR.dropTo ((Le.refl H).upd hp) (SetR.loose (SetR.now hq))
  have last : (n = 0 ∨ l.getD (n - 1) 0 ≠ 0) → W Tryd.prog (sndC (sndC (sndC ac139))) (retN rs139 Q) ⟨[], [(0, .bool neg), (1, LS l t), (4, .ptr p 2 0), (5, .int .i64 n), (17, .bool false)], H.upd p (some (.row 39 0 [.bool false, .seq 0 [] true]))⟩ := fun h => by
    have f := fun ti => fin ti h
    cases neg
    · simp (disch := first | assumption | (apply Ap.symm; assumption) | omega | decide | (simp only [Xd] <;> omega)) only [ac139, rs139, sndC, ↓Xa, Xb, Xc, ↓reduceIte, Nat.reduceLT, Nat.reduceEqDiff, Nat.reduceBEq, Nat.reduceLeDiff, Nat.reduceAdd, Nat.reduceMul]
      exact f _
    · simp (disch := first | assumption | (apply Ap.symm; assumption) | omega | decide | (simp only [Xd] <;> omega)) only [ac139, rs139, sndC, ↓Xa, Xb, Xc, ↓reduceIte, Nat.reduceLT, Nat.reduceEqDiff, Nat.reduceBEq, Nat.reduceLeDiff, Nat.reduceAdd, Nat.reduceMul]
      exact f _
  by_cases h0 : 0 < n
  · by_cases h2 : l.getD (n - 1) 0 = 0
    · simp (disch := first | assumption | (apply Ap.symm; assumption) | omega | decide | (simp only [Xd] <;> omega)) only [h0, h2, ↓Xa, Xb, Xc, ↓reduceIte, Nat.reduceLT, Nat.reduceEqDiff, Nat.reduceBEq, Nat.reduceLeDiff, Nat.reduceAdd, Nat.reduceMul]
      refine Settle.now ⟨n - 1, ?_, ⟨by omega, fun i hi hl' => ?_⟩, rfl⟩
      · show n - 1 < n; omega
      · rcases Nat.lt_or_ge i n with h | h
        · rw [show i = n - 1 by omega]; exact h2
        · exact hz i h hl'
    · simp (disch := first | assumption | (apply Ap.symm; assumption) | omega | decide | (simp only [Xd] <;> omega)) only [h0, h2, ↓Xa, Xb, Xc, ↓reduceIte, Nat.reduceLT, Nat.reduceEqDiff, Nat.reduceBEq, Nat.reduceLeDiff, Nat.reduceAdd, Nat.reduceMul]
      exact Settle.now (last (.inr h2))
  · simp (disch := first | assumption | (apply Ap.symm; assumption) | omega | decide | (simp only [Xd] <;> omega)) only [h0, ↓Xa, Xb, Xc, ↓reduceIte, Nat.reduceLT, Nat.reduceEqDiff, Nat.reduceBEq, Nat.reduceLeDiff, Nat.reduceAdd, Nat.reduceMul]
    exact Settle.now (last (.inl (by omega)))

theorem lss_neg {n : Int} {K : AV → Prop} : binW .lss (.int .i64 n) (.int .i64 ((0 : Nat) : Int)) K ↔ K (.bool (decide (n < 0))) := by
  simp only [binW, binInt, true_and]; exact Iff.rfl
theorem rof_fn {n : Int} (hn : -9223372036854775808 ≤ n ∧ n < 9223372036854775808) : PFn Tryd.prog 45 [.int .i64 n] (RefA n false) := by
  intro H Q hq
  refine enter45 (by simp) ?_
  rw [show ac45 = .seq (fstC ac45) (.seq (fstC (sndC ac45)) (.seq (fstC (sndC (sndC ac45))) (hold (sndC (sndC (sndC ac45)))))) from rfl]
  simp (disch := first | assumption | (apply Ap.symm; assumption) | omega | decide | (simp only [Xd] <;> omega)) only [fstC, sndC, ac45, ↓Xa, Xb, Xc, ↓reduceIte, Nat.reduceLT, Nat.reduceEqDiff, Nat.reduceBEq, Nat.reduceLeDiff, Nat.reduceAdd, Nat.reduceMul]
  refine alloc_i fun p hp => ?_
  have tail : ∀ (u0 : Nat), u0 < 18446744073709551616 → sg (decide (n < 0)) u0 = n → W Tryd.prog (hold (sndC (sndC (sndC ac45)))) (retN rs45 Q) ⟨[], [(0, .int .i64 n), (2, .ptr p 2 0), (3, .int .u64 u0)], H.upd p (some (.row 39 0 [.bool false, .seq 0 [] true]))⟩ := by
    intro u0 hu0 hs
    simp (disch := first | assumption | (apply Ap.symm; assumption) | omega | decide | (simp only [Xd] <;> omega)) only [ac45, sndC, hold, ↓Xa, Xb, Xc, ↓reduceIte, Nat.reduceLT, Nat.reduceEqDiff, Nat.reduceBEq, Nat.reduceLeDiff, Nat.reduceAdd, Nat.reduceMul]
    refine W_loop (fun s : Nat × List Nat × AV × AHeap => ⟨[], [(0, .int .i64 n), (2, .ptr p 2 0), (3, .int .u64 s.1), (4, s.2.2.1)], s.2.2.2⟩)
      (fun s => grow (H.upd p (some (.row 39 0 [.bool false, .seq 0 [] true]))) 172 s.2.1 s.2.2.1 s.2.2.2 ∧ Lim 65536 s.2.1 ∧ val 65536 s.2.1 + 65536 ^ s.2.1.length * s.1 = u0 ∧ s.2.1.length ≤ 4 ∧ s.1 < 65536 ^ (4 - s.2.1.length)) (fun s => s.1)
      (u0, [], _, _) (Settle.now rfl) ⟨grow_nil, Lim.nil _, by simp [val], by simp, by simpa using hu0⟩ ?_
    rintro ⟨u, done, x, H'⟩ ⟨hg, h1, h2, h3, h4⟩
    dsimp only at hg h1 h2 h3 h4 ⊢
    have hu : u < 18446744073709551616 := by
      have : (65536 : Nat) ^ (4 - done.length) ≤ 65536 ^ 4 := Nat.pow_le_pow_right (by omega) (by omega)
      omega
    by_cases h0 : 0 < u
    · have hm : u / 65536 < 18446744073709551616 := by omega
      have hr : u % 65536 < 4294967296 := by omega
      simp (disch := first | assumption | (apply Ap.symm; assumption) | omega | decide | (simp only [Xd] <;> omega)) only [h0, ne_eq, Nat.reduceEqDiff, ↓Xa, Xb, Xc, ↓reduceIte, Nat.reduceLT, Nat.reduceEqDiff, Nat.reduceBEq, Nat.reduceLeDiff, Nat.reduceAdd, Nat.reduceMul]
      refine app_grow (m := [u % 65536]) hg rfl (by simp) (by simp; omega) fun x' H2 hg2 => ?_
      simp (disch := first | assumption | (apply Ap.symm; assumption) | omega | decide | (simp only [Xd] <;> omega)) only [ne_eq, Nat.reduceEqDiff, ↓Xa, Xb, Xc, ↓reduceIte, Nat.reduceLT, Nat.reduceEqDiff, Nat.reduceBEq, Nat.reduceLeDiff, Nat.reduceAdd, Nat.reduceMul]
      refine Settle.now ⟨(u / 65536, _, _, _), Nat.div_lt_self h0 (by omega), ⟨hg2, lim_snoc h1 (Nat.mod_lt _ (by omega)), ?_, ?_, ?_⟩, rfl⟩
      · rw [val_snoc, List.length_append, List.length_singleton, Nat.pow_succ, Nat.add_assoc, Nat.mul_assoc, ← Nat.mul_add, Nat.mod_add_div]; exact h2
      · simp only [List.length_append, List.length_singleton]
        rcases Nat.lt_or_ge done.length 4 with e | e
        · omega
        · rw [show 4 - done.length = 0 by omega] at h4; simp at h4; omega
      · simp only [List.length_append, List.length_singleton]
        rcases Nat.lt_or_ge done.length 4 with e | e
        · rw [show 4 - done.length = 4 - (done.length + 1) + 1 by omega, Nat.pow_succ] at h4
          exact Nat.div_lt_of_lt_mul (by rw [Nat.mul_comm]; exact h4)
        · rw [show 4 - done.length = 0 by omega] at h4; simp at h4; omega
    · obtain rfl : u = 0 := by omega
      rw [Nat.mul_zero, Nat.add_zero] at h2
      simp (disch := first | assumption | (apply Ap.symm; assumption) | omega | decide | (simp only [Xd] <;> omega)) only [h0, ↓Xa, Xb, Xc, ↓reduceIte, Nat.reduceLT, Nat.reduceEqDiff, Nat.reduceBEq, Nat.reduceLeDiff, Nat.reduceAdd, Nat.reduceMul]
      refine Settle.grown 4 rfl hg (Settle.now ?_)
      simp (disch := first | assumption | (apply Ap.symm; assumption) | omega | decide | (simp only [Xd] <;> omega)) only [lss_neg, ↓Xa, Xb, Xc, ↓reduceIte, Nat.reduceLT, Nat.reduceEqDiff, Nat.reduceBEq, Nat.reduceLeDiff, Nat.reduceAdd, Nat.reduceMul]
      refine (rnorm_fn _ false h1 (by omega)).call ?_
      rw [h2, hs]
      simp (disch := first | assumption | (apply Ap.symm; assumption) | omega | decide | (simp only [Xd] <;> omega)) only [rs45, RefA, ↓Xa, Xb, Xc, ↓reduceIte, Nat.reduceLT, Nat.reduceEqDiff, Nat.reduceBEq, Nat.reduceLeDiff, Nat.reduceAdd, Nat.reduceMul]
      exact SetR.dropTo ((Le.refl H).upd hp) (SetR.now hq)
  by_cases h0 : n < 0
  · obtain ⟨m, rfl⟩ : ∃ m : Nat, n = -(m : Int) := ⟨n.natAbs, by omega⟩
    have c1 : ∀ K, convW .u64 (.int .i64 (-(m : Int))) K ↔ K (.int .u64 ((18446744073709551616 - m : Nat) : Int)) := fun K => by
      simp only [convW, wmod_u64]; rw [show (-(m : Int)) % 18446744073709551616 = ((18446744073709551616 - m : Nat) : Int) by omega]
    have c2 : ∀ K, unW .neg (.int .u64 ((18446744073709551616 - m : Nat) : Int)) K ↔ K (.int .u64 (m : Int)) := fun K => by
      simp only [unW, wmod_u64]; rw [show (0 - ((18446744073709551616 - m : Nat) : Int)) % 18446744073709551616 = (m : Int) by omega]
    simp (disch := first | assumption | (apply Ap.symm; assumption) | omega | decide | (simp only [Xd] <;> omega)) only [c1, c2, lss_neg, h0, ↓Xa, Xb, Xc, ↓reduceIte, Nat.reduceLT, Nat.reduceEqDiff, Nat.reduceBEq, Nat.reduceLeDiff, Nat.reduceAdd, Nat.reduceMul]
    exact tail m (by omega) (by simp only [sg, h0, decide_true, if_true])
  · obtain ⟨m, rfl⟩ : ∃ m : Nat, n = (m : Int) := ⟨n.natAbs, by omega⟩
    simp (disch := first | assumption | (apply Ap.symm; assumption) | omega | decide | (simp only [Xd] <;> omega)) only [h0, ↓Xa, Xb, Xc, ↓reduceIte, Nat.reduceLT, Nat.reduceEqDiff, Nat.reduceBEq, Nat.reduceLeDiff, Nat.reduceAdd, Nat.reduceMul]
    exact tail m (by omega) (by simp only [sg, h0, decide_false, Bool.false_eq_true, if_false])

theorem Bd.rlen {k : Nat} {z : Int} (h : Bd k z) : (digs 65536 z.natAbs).length ≤ 2 * k := digs_len (by omega) _ _ (by
  unfold Bd at h; rw [Nat.pow_mul]; exact h)

end Go.Proofs.YtanchgkiomfhhaaDoor.Fw

/- What the reference computes of whole numbers: signs, comparing, sums, products. -/
namespace Go.Proofs.YtanchgkiomfhhaaDoor.Fw
set_option linter.unusedSimpArgs false
set_option linter.unusedVariables false
open Go Go.Proofs.YtanchgkiomfhhaaDoor.Ma
set_option maxRecDepth 20000

theorem size_fn (m n : Nat) (ta tb : Bool) (hm : (digs 65536 m).length ≤ 1099511627776) (hn : (digs 65536 n).length ≤ 1099511627776) : PFn Tryd.prog 194 [LS (digs 65536 m) ta, LS (digs 65536 n) tb] (.int .i64 (cmpZ m n)) := by
  intro H Q hq
  have hx := lim_digs (B := 65536) (by omega) m
  have hy := lim_digs (B := 65536) (by omega) n
  have vx := val_digs (B := 65536) (by omega) m
  have vy := val_digs (B := 65536) (by omega) n
  have lt1 := digs_lt_len (B := 65536) (a := m) (b := n) (by omega)
  have lt2 := digs_lt_len (B := 65536) (a := n) (b := m) (by omega)
  generalize digs 65536 m = x at *
  generalize digs 65536 n = y at *
  have less : m < n → SetR Q (.int .i64 (-1)) H := fun h => by
    have : cmpZ m n = -1 := by simp [cmpZ, h]
    rw [← this]; exact SetR.now hq
  have more : n < m → SetR Q (.int .i64 ((1 : Nat) : Int)) H := fun h => by
    have : cmpZ m n = ((1 : Nat) : Int) := by simp [cmpZ, h, Nat.not_lt_of_lt h]
    rw [← this]; exact SetR.now hq
  refine enter194 (by simp) ?_
  by_cases c0 : x.length = y.length
  · simp (disch := first | assumption | (apply Ap.symm; assumption) | omega | decide | (simp only [Xd] <;> omega)) only [ac194, c0, ↓Xa, Xb, Xc, ↓reduceIte, Nat.reduceLT, Nat.reduceEqDiff, Nat.reduceBEq, Nat.reduceLeDiff, Nat.reduceAdd, Nat.reduceMul]
    refine W_loop (fun k : Nat => ⟨[], [(0, LS x ta), (1, LS y tb), (5, .int .i64 (dn k))], H⟩) (fun k => k ≤ x.length ∧ x.drop k = y.drop k) id y.length (Settle.now rfl) ⟨by omega, by rw [List.drop_of_length_le (by omega), List.drop_of_length_le (by omega)]⟩ ?_
    rintro k ⟨hk, hd⟩
    cases k with
    | zero =>
      simp (disch := first | assumption | (apply Ap.symm; assumption) | omega | decide | (simp only [Xd] <;> omega)) only [↓Xa, Xb, Xc, ↓reduceIte, Nat.reduceLT, Nat.reduceEqDiff, Nat.reduceBEq, Nat.reduceLeDiff, Nat.reduceAdd, Nat.reduceMul]
      refine Settle.now ?_
      simp (disch := first | assumption | (apply Ap.symm; assumption) | omega | decide | (simp only [Xd] <;> omega)) only [rs194, ↓Xa, Xb, Xc, ↓reduceIte, Nat.reduceLT, Nat.reduceEqDiff, Nat.reduceBEq, Nat.reduceLeDiff, Nat.reduceAdd, Nat.reduceMul]
      have e : m = n := by rw [← vx, ← vy]; rw [List.drop_zero, List.drop_zero] at hd; rw [hd]
      have : cmpZ m n = ((0 : Nat) : Int) := by simp [cmpZ, e]
      rw [← this]; exact SetR.now hq
    | succ k =>
      by_cases d1 : x.getD k 0 < y.getD k 0
      · simp (disch := first | assumption | (apply Ap.symm; assumption) | omega | decide | (simp only [Xd] <;> omega)) only [d1, rs194, ↓Xa, Xb, Xc, ↓reduceIte, Nat.reduceLT, Nat.reduceEqDiff, Nat.reduceBEq, Nat.reduceLeDiff, Nat.reduceAdd, Nat.reduceMul]
        exact less (by rw [← vx, ← vy]; exact val_lt_high hx (by omega) k (by omega) c0 hd d1)
      by_cases d2 : y.getD k 0 < x.getD k 0
      · simp (disch := first | assumption | (apply Ap.symm; assumption) | omega | decide | (simp only [Xd] <;> omega)) only [d1, d2, rs194, ↓Xa, Xb, Xc, ↓reduceIte, Nat.reduceLT, Nat.reduceEqDiff, Nat.reduceBEq, Nat.reduceLeDiff, Nat.reduceAdd, Nat.reduceMul]
        exact more (by rw [← vx, ← vy]; exact val_lt_high hy (by omega) k (by omega) c0.symm hd.symm d2)
      simp (disch := first | assumption | (apply Ap.symm; assumption) | omega | decide | (simp only [Xd] <;> omega)) only [d1, d2, ↓Xa, Xb, Xc, ↓reduceIte, Nat.reduceLT, Nat.reduceEqDiff, Nat.reduceBEq, Nat.reduceLeDiff, Nat.reduceAdd, Nat.reduceMul]
      refine Settle.now ⟨k, Nat.lt_succ_self k, ⟨by omega, ?_⟩, rfl⟩
      rw [List.drop_eq_getElem_cons (by omega), List.drop_eq_getElem_cons (i := k) (l := y) (by omega), hd]
      congr 1
      have e1 : x.getD k 0 = x[k] := by simp [List.getD_eq_getElem?_getD, List.getElem?_eq_getElem (show k < x.length by omega)]
      have e2 : y.getD k 0 = y[k] := by simp [List.getD_eq_getElem?_getD, List.getElem?_eq_getElem (show k < y.length by omega)]
      omega
  · by_cases c1 : x.length < y.length
    · simp (disch := first | assumption | (apply Ap.symm; assumption) | omega | decide | (simp only [Xd] <;> omega)) only [ac194, c0, c1, rs194, ↓Xa, Xb, Xc, ↓reduceIte, Nat.reduceLT, Nat.reduceEqDiff, Nat.reduceBEq, Nat.reduceLeDiff, Nat.reduceAdd, Nat.reduceMul]
      exact less (lt1 c1)
    · simp (disch := first | assumption | (apply Ap.symm; assumption) | omega | decide | (simp only [Xd] <;> omega)) only [ac194, c0, c1, rs194, ↓Xa, Xb, Xc, ↓reduceIte, Nat.reduceLT, Nat.reduceEqDiff, Nat.reduceBEq, Nat.reduceLeDiff, Nat.reduceAdd, Nat.reduceMul]
      exact more (lt2 (by omega))

end Go.Proofs.YtanchgkiomfhhaaDoor.Fw

/- What the reference computes of whole numbers: sums, differences, products. -/
namespace Go.Proofs.YtanchgkiomfhhaaDoor.Fw
set_option linter.unusedSimpArgs false
set_option linter.unusedVariables false
open Go Go.Proofs.YtanchgkiomfhhaaDoor.Ma
set_option maxRecDepth 20000

end Go.Proofs.YtanchgkiomfhhaaDoor.Fw

/- The laws' own helpers: one number in both, numbers that are too long, one answer that is fixed. -/
namespace Go.Proofs.YtanchgkiomfhhaaDoor.Fw
set_option linter.unusedSimpArgs false
set_option linter.unusedVariables false
open Go Go.Proofs.YtanchgkiomfhhaaDoor.Ma
set_option maxRecDepth 20000

def NumA (q : Bool × List Nat × Bool) : AV := .agg [.bool q.1, LS q.2.1 q.2.2]
def NumC : List (Bool × List Nat × Bool) → List AV
  | [] => []
  | q :: r => .bool q.1 :: LS q.2.1 q.2.2 :: NumC r
def fits (x : Int) : Bool := decide (-9223372036854775808 ≤ x ∧ x < 9223372036854775808)
def smallV (x : Int) : Int := if fits x then x else ((0 : Nat) : Int)
end Go.Proofs.YtanchgkiomfhhaaDoor.Fw

/- The law of sums, as what its code computes: true. -/
namespace Go.Proofs.YtanchgkiomfhhaaDoor.Fw
set_option linter.unusedSimpArgs false
set_option linter.unusedVariables false
open Go Go.Proofs.YtanchgkiomfhhaaDoor.Ma
set_option maxRecDepth 20000

end Go.Proofs.YtanchgkiomfhhaaDoor.Fw

/- Sums and products of rows of whole numbers. -/
namespace Go.Proofs.YtanchgkiomfhhaaDoor.Fw
set_option linter.unusedSimpArgs false
set_option linter.unusedVariables false
open Go Go.Proofs.YtanchgkiomfhhaaDoor.Ma
set_option maxRecDepth 20000

def IntC : List Int → List AV
  | [] => []
  | z :: r => .bool (decide (z < 0)) :: LS (digs 4294967296 z.natAbs) true :: IntC r
section
variable {l : List Int} {t : Bool} {H : AHeap} {K : AV → Prop}
end
end Go.Proofs.YtanchgkiomfhhaaDoor.Fw
