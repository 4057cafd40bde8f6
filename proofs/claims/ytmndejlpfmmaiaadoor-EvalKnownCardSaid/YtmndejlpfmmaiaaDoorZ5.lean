/- The texts Ac Li Lj Lb Lk Ll Lm In Re Rf Rg Ri Rj Rk Rl Rm Rn Ro, joined. -/
import Derived.Test.YtmndejlpfmmaiaaDoorZ4
import Derived.Test.YtmndejlpfmmaiaaDoorProg
set_option linter.unusedSimpArgs false
set_option linter.unusedVariables false
namespace Go.Proofs.YtmndejlpfmmaiaaDoor.Fw
open Go
def EnT(P:Program)(f:FuncId)(n:Nat)(ac:ACode)(rs:List RV):Prop:= ∀ ⦃args:List AV⦄ ⦃H:AHeap⦄ ⦃Q:AV→AHeap→Prop⦄,args.length≤n→W P ac (retN rs Q) ⟨[],initE args 0,H⟩→Run P f args H Q
theorem Ent{P:Program}{f:FuncId}{fn:Func}{n:Nat}(pl:Plan){ac:ACode}{rs:List RV}(hm:P.follows .mixedOrders=true)(hf:P.funcs[f]? =some fn)(hc:compFn P fn pl=some (ac,rs):=by kernel_rfl)(hx:(fn.name=="runtime.NumGoroutine")=false:=by kernel_rfl)(hy:fn.ntmps=n:=by kernel_rfl):EnT P f n ac rs:=fun _ _ _ hn h=>Run_fn2 hm hf hx hc (n:=n) hy hn h
set_option maxRecDepth 100000
theorem mixed:Tryd.prog.follows .mixedOrders=true:=by kernel_rfl
def ac13:ACode:=Js [Jo 2 (.box 34 0 (.t 0)),Jo 3 (.box 34 0 (.t 1)),Jo 4 (.alloc 34 0 [.bool false,.seq 0 [] true])] [2,3,4] (.seq (Js [Jf 7 0 2,Jl 8 7,Jf 9 0 3,Jl 10 9,Jo 11 (.binB .eql (.t 8) (.t 10))] [2,3,4,11] (.cond (.t 11) (.seq (.draw [Jf 12 0 2,Jl 13 12,Jf 14 1 2,Jl 15 14,Jf 16 1 3,Jl 17 16,Jo 18 (Jc 52 [.t 15,.t 17])] [Jo 19 (Jc 51 [.t 13,.t 18]),⟨none,none,.store 2 (.t 4) (.t 19)⟩] [0,0,3,3,15,15,3] [4]) .ret) .skip)) (.seq (Js [Jf 20 1 2,Jl 21 20,Jf 22 1 3,Jl 23 22,Jo 24 (Jc 53 [.t 21,.t 23]),Jo 25 (.bin .lss (.t 24) (Jk 0))] [2,3,4,25] (.cond (.t 25) (.reg [Jo 26 (.load (some 2) (.t 3)),Jo 27 (.load (some 2) (.t 2)),⟨none,none,.store 2 (.t 2) (.t 26)⟩,⟨none,none,.store 2 (.t 3) (.t 27)⟩] [2,3,4]) .skip)) (Js [Jf 29 1 2,Jl 30 29,Jf 31 1 3,Jl 32 31,Jo 33 (Jc 54 [.t 30,.t 32]),Jm 28 33,Je 34 28 0,Je 35 28 1,Jm 5 34,Jm 6 35] [2,4,5] (Js [Jf 36 0 2,Jl 37 36,Jm 38 5,Jo 39 (Jc 51 [.t 37,.t 38]),⟨none,none,.store 2 (.t 4) (.t 39)⟩] [4] .ret))))
def rs13:List RV:=[.cell 4 (some 2)]
theorem enter13:EnT Tryd.prog 13 40 ac13 rs13:=Ent pl13 mixed Tryd.func13
def ac15:ACode:=Js [Jo 2 (.box 34 0 (.t 0)),Jo 3 (.box 34 0 (.t 1)),Jo 4 (.mov (Jk 0))] [2,3] (.seq (.block 0 (Js [Jf 6 0 2,Jl 7 6,Jm 8 7,⟨some 9,some (8,true),.fldA 0 (.t 3)⟩,⟨some 10,some (8,true),.load none (.t 9)⟩,Jo 11 (.pick (.t 8) (.t 10) (.k (.bool false))),Jm 5 11] [2,3,5] (.cond (.t 5) (Js [Jf 12 1 3,Jl 13 12,Jf 14 1 2,Jl 15 14,Jo 16 (Jc 53 [.t 13,.t 15]),Jm 4 16] [4] .ret) (Js [Jf 18 0 2,Jl 19 18,Jm 17 19] [2,3,17] (.cond (.t 17) (Js [Jo 4 (.mov (.k (.int .i64 (-1))))] [4] .ret) (Js [Jf 21 0 3,Jl 22 21,Jm 20 22] [2,3,20] (.cond (.t 20) (Js [Jo 4 (.mov (Jk 1))] [4] .ret) .skip))))))) (Js [Jf 23 1 2,Jl 24 23,Jf 25 1 3,Jl 26 25,Jo 27 (Jc 53 [.t 24,.t 26]),Jm 4 27] [4] .ret))
def rs15:List RV:=[.t 4]
theorem enter15:EnT Tryd.prog 15 28 ac15 rs15:=Ent pl15 mixed Tryd.func15
def ac20:ACode:=Js [Jo 2 (.mov (Jk 0))] [0] (.seq (.block 0 (Js [Jm 12 0,Jo 13 (.prim (.peq false) [.t 12,.k .nilP]),Jm 11 13] [0,11] (.cond (.t 11) (Js [Jo 2 (.mov (Jk 1))] [2] .ret) (.seq (.draw [Jm 15 0,Jo 16 (.prim .nck [.t 15]),Jf 17 5 16,Jl 18 17,Jm 19 0,Jo 20 (.prim .nck [.t 19]),Jf 21 0 20,Jf 22 2 21,Jl 23 22,Jv 24 23] [Jb 25 .eql 18 24,Jm 14 25] [0,0,0,0,15,15,15,15,15,15] [0,14]) (.cond (.t 14) (Js [Jo 2 (.mov (Jk 4))] [2] .ret) .skip))))) (.seq (.draw [Jm 26 0,Jo 27 (.prim .nck [.t 26]),Jf 28 0 27,Jf 29 2 28,Jl 30 29,Jm 31 0,Jo 32 (.prim .nck [.t 31]),Jf 33 5 32,Jl 34 33,Ji 35 5 30 34,Jo 36 (.load (some 5) (.t 35)),Jo 3 (.alloc 88 0 [Jn 0,Jn 0,Jn 0,Jn 0,Jn 0])] [⟨none,none,.store 5 (.t 3) (.t 36)⟩] [0,0,0,0,0,31,31,31,31,0,0,2047] [0,3]) (Js [Jo 37 (.load (some 5) (.t 3)),Jo 38 (Jc 59 [.t 37]),Jm 4 38] [0,3,4] (.seq (.draw [Jm 39 0,Jo 40 (.prim .nck [.t 39]),Jf 41 4 40,Jl 42 41,Jf 43 2 3,Jl 44 43,Ji 45 1 42 44,Jl 46 45,Jm 47 0,Jo 48 (.prim .nck [.t 47]),Jf 49 4 48,Jl 50 49,Jf 51 3 3,Jl 52 51,Ji 53 1 50 52,Jl 54 53,Jm 5 46] [Jm 6 54] [0,0,0,0,15,15,0,0,255,255,255,255,4095,4095,255,255,65280] [0,3,4,5,6]) (Js [Jm 55 5,Jv 56 55,Jo 57 (.mks 34 2 32 [.bool false,.seq 0 [] true] (.t 56) (.t 56)),Jm 7 57] [0,3,4,5,6,7] (.seq (Js [Jm 58 7,Jv 59 58,Jo 60 (.mov (Jk 0))] [0,3,4,5,6,7,59,60] (.block 1 (.loop (Js [Jb 61 .lss 60 59] [0,3,4,5,6,7,59,60,61] (.seq (.cond (.t 61) .skip (.exit 1)) (.seq (.block 2 (Js [Jm 62 60,Jm 8 62] [0,3,4,5,6,7,8,59,60] (.seq (.draw [Jm 64 4,Jm 65 5,Jm 66 8,Ji 67 2 65 66,Jo 68 (.load (some 2) (.t 67)),Jm 69 6,Jm 70 8,Ji 71 2 69 70,Jo 72 (.load (some 2) (.t 71)),Jo 73 (.call (.t 64) [.t 68,.t 72]),Jm 63 73,Je 74 63 0,Je 75 63 1,Jo 9 (.alloc 34 0 [.bool false,.seq 0 [] true]),⟨none,none,.store 2 (.t 9) (.t 74)⟩] [Jm 10 75] [0,1,3,1,1,31,63,31,31,0,0,0,2048,8191,4096] [0,3,4,5,6,7,8,9,10,59,60]) (.seq (Js [Jm 76 10,Jo 77 (.un .not (.t 76))] [0,3,4,5,6,7,8,9,59,60,77] (.cond (.t 77) (Js [Jo 2 (.mov (Jk 20))] [2] .ret) .skip)) (.reg [Jm 78 7,Jm 79 8,Jo 80 (.load (some 2) (.t 9)),Ji 81 2 78 79,⟨none,none,.store 2 (.t 81) (.t 80)⟩] [0,3,4,5,6,7,59,60]))))) (.reg [Jo 82 (.bin .add (.t 60) (Jk 1)),Jm 60 82] [0,3,4,5,6,7,59,60]))))))) (.seq (.draw [Jm 83 0,Jo 84 (.prim .nck [.t 83]),Jf 85 4 84,Jl 86 85,Jf 87 1 3,Jl 88 87,Jm 89 7] [Ji 90 1 86 88,⟨none,none,.store 1 (.t 90) (.t 89)⟩] [0,0,0,0,15,15,63] [0]) (Js [Jm 91 0,Jo 92 (.prim .nck [.t 91]),Jf 93 5 92,Jl 94 93,Jo 95 (.bin .add (.t 94) (Jk 1)),Jo 96 (.prim .nck [.t 91]),Jf 97 5 96,⟨none,none,.store 1 (.t 97) (.t 95)⟩] [] (Js [Jo 2 (.mov (Jk 0))] [2] .ret)))))))))
def rs20:List RV:=[.t 2]
theorem enter20:EnT Tryd.prog 20 98 ac20 rs20:=Ent pl20 mixed Tryd.func20
def ac34:ACode:=Js [Jo 2 (.box 25 0 (.t 0)),Jo 4 (.mov (.k (.seq 0 [] true))),Jo 5 (.mov (Jk 0)),Jo 6 (.mov (Jk 0))] [1,2] (Js [Jo 14 (.load (some 4) (.t 2)),Jm 15 1,Jo 16 (Jc 71 [.t 14,.t 15]),Jm 13 16,Je 17 13 0,Je 18 13 1,Jm 7 17,Jm 8 18] [2,7,8] (.seq (Js [Jm 19 8,Jo 20 (.bin .neq (.t 19) (Jk 0))] [2,7,8,20] (.cond (.t 20) (Js [Jm 21 8,Jo 4 (.mov (.k (.seq 0 [] true))),Jo 5 (.mov (Jk 0)),Jm 6 21] [4,5,6] .ret) .skip)) (Jq (.draw [Jo 22 (Jc 73 []),Jo 23 (.load (some 4) (.t 2)),Jm 24 7] [Jo 25 (Jc 72 [.t 22,.t 23,.t 24,.k (.fn (.func 74) [] [])]),Jm 9 25] [0,1,3] [2,7,9]) (Js [Jm 26 9,Jo 27 (.bin .geq (.t 26) (Jk 0))] [2,7,9,27] (.cond (.t 27) (Js [Jm 28 9,Jo 4 (.mov (.k (.seq 0 [] true))),Jm 5 28,Jo 6 (.mov (Jk 20))] [4,5,6] .ret) .skip)) (Js [Jo 10 (.mov (.k (.seq 0 [] true)))] [2,7,10] (.seq (Js [Jf 29 3 2,Jl 30 29,Jv 31 30,Jo 32 (.mov (Jk 0))] [7,10,30,31,32] (.block 0 (.loop (Js [Jb 33 .lss 32 31] [7,10,30,31,32,33] (.seq (.cond (.t 33) .skip (.exit 0)) (.seq (.block 1 (Js [Ji 34 1 30 32,Jl 35 34,Jm 12 35] [7,10,12,30,31,32] (.reg [Jm 36 10,Jm 37 7,Jm 38 12,Ji 39 1 37 38,Jl 40 39,Jo 41 (Jc 47 [.t 40]),Jo 42 (.bsl [.seq 0 [] true] 1 1 [(0,1,.t 41)]),Jo 43 (.app 31 1 24 (.t 36) (.t 42)),Jm 10 43] [7,10,30,31,32]))) (.reg [Jo 44 (.bin .add (.t 32) (Jk 1)),Jm 32 44] [7,10,30,31,32]))))))) (Js [Jm 45 10,Jm 4 45,Jo 5 (.mov (Jk 0)),Jo 6 (.mov (Jk 0))] [4,5,6] .ret))))))
def rs34:List RV:=[.t 4,.t 5,.t 6]
theorem enter34:EnT Tryd.prog 34 46 ac34 rs34:=Ent pl34 mixed Tryd.func34
def ac36:ACode:=Js [Jo 0 (.mov (.k (.bool false)))] [] (Js [Jo 10 (.bsl [Jn 0] 3 1 [(0,1,Jk 1),(1,1,Jk 2),(2,1,Jk 3)]),Jo 11 (Jc 38 [.t 10]),Jo 12 (.build [Jn 0,Jn 0] [(0,1,Jk 1),(1,1,Jk 2)]),Jo 13 (Jc 40 [.t 11,.t 12]),Jm 9 13,Je 14 9 0,Je 15 9 1,Jo 1 (.alloc 34 0 [.bool false,.seq 0 [] true]),⟨none,none,.store 2 (.t 1) (.t 14)⟩,Jm 2 15] [1,2] (Js [Jo 17 (Jc 45 []),Jo 18 (.bsl [Jn 0] 6 1 [(0,1,Jk 0),(1,1,Jk 1),(2,1,Jk 1),(3,1,Jk 1),(4,1,Jk 1),(5,1,Jk 0)]),Jo 19 (Jc 43 [.t 18]),Jo 20 (Jc 44 [.t 17,Jk 2,.t 19]),Jm 16 20,Je 21 16 0,Je 22 16 1,Jm 3 21,Jm 4 22] [1,2,3,4] (Js [Jo 24 (.bsl [Jn 0] 6 1 [(0,1,Jk 0),(1,1,Jk 1),(2,1,Jk 1),(3,1,Jk 1),(4,1,Jk 1),(5,1,Jk 0)]),Jo 25 (Jc 43 [.t 24]),Jo 26 (Jc 46 [Jk 2,.t 25]),Jm 23 26,Je 27 23 0,Je 28 23 1,Jo 5 (.alloc 25 0 [Jn 0,Jn 0,.seq 0 [] true,.seq 0 [] true]),⟨none,none,.store 4 (.t 5) (.t 27)⟩,Jm 6 28] [1,2,3,4,5,6] (.seq (.draw [Jo 30 (.load (some 4) (.t 5)),Jo 31 (.bsl [Jn 0] 6 1 [(0,1,Jk 0),(1,1,Jk 1),(2,1,Jk 1),(3,1,Jk 1),(4,1,Jk 1),(5,1,Jk 0)]),Jo 32 (Jc 43 [.t 31])] [Jo 33 (Jc 44 [.t 30,Jk 2,.t 32]),Jm 29 33,Je 34 29 0,Je 35 29 1,Jm 7 34,Jm 8 35] [0,1,1] [1,2,3,4,6,7,8]) (Js [Jm 36 2,Jo 37 (.bin .eql (.t 36) (Jk 0)),Jm 38 37,⟨some 39,some (38,true),.mov (.t 4)⟩,⟨some 40,some (38,true),.bin .eql (.t 39) (Jk 0)⟩,Jo 41 (.pick (.t 38) (.t 40) (.k (.bool false))),Jm 42 41,⟨some 43,some (42,true),.mov (.t 6)⟩,⟨some 44,some (42,true),.bin .eql (.t 43) (Jk 0)⟩,Jo 45 (.pick (.t 42) (.t 44) (.k (.bool false))),Jm 46 45,⟨some 47,some (46,true),.mov (.t 8)⟩,⟨some 48,some (46,true),.bin .eql (.t 47) (Jk 0)⟩,Jo 49 (.pick (.t 46) (.t 48) (.k (.bool false))),Jm 50 49,⟨some 51,some (50,true),.load (some 2) (.t 1)⟩,⟨some 52,some (50,true),Jc 41 [.t 51]⟩,⟨some 53,some (50,true),.bin .eql (.t 52) (.k (.str ⟨#[49,49]⟩))⟩,Jo 54 (.pick (.t 50) (.t 53) (.k (.bool false))),Jm 55 54,⟨some 56,some (55,true),.mov (.t 3)⟩,Jo 57 (.pick (.t 55) (.t 56) (.k (.bool false))),Jm 58 57,⟨some 59,some (58,true),.mov (.t 7)⟩,Jo 60 (.pick (.t 58) (.t 59) (.k (.bool false))),Jm 0 60] [0] .ret)))))
def rs36:List RV:=[.t 0]
theorem enter36:EnT Tryd.prog 36 61 ac36 rs36:=Ent pl36 mixed Tryd.func36
def ac37:ACode:=Js [Jo 1 (.box 73 0 (.t 0)),Jo 2 (.mov (.k (.bool false)))] [1] (Js [Jf 3 0 1,Jl 4 3,Jo 5 (Jc 76 [.t 4]),Jm 6 5,⟨some 7,some (6,true),.fldA 1 (.t 1)⟩,⟨some 8,some (6,true),.load none (.t 7)⟩,⟨some 9,some (6,true),Jc 76 [.t 8]⟩,Jo 10 (.pick (.t 6) (.t 9) (.k (.bool false))),Jm 2 10] [2] .ret)
def rs37:List RV:=[.t 2]
theorem enter37:EnT Tryd.prog 37 11 ac37 rs37:=Ent pl37 mixed Tryd.func37
def ac38:ACode:=Js [Jo 2 (.mov (.k (.seq 0 [] true)))] [0] (Js [Jo 3 (.mov (.k (.seq 0 [] true)))] [0,3] (.seq (Js [Jm 6 0,Jv 7 6,Jo 8 (.mov (Jk 0))] [3,6,7,8] (.block 0 (.loop (Js [Jb 9 .lss 8 7] [3,6,7,8,9] (.seq (.cond (.t 9) .skip (.exit 0)) (.seq (.block 1 (Js [Ji 10 1 6 8,Jl 11 10,Jm 5 11] [3,5,6,7,8] (.reg [Jm 12 3,Jm 13 5,Jo 14 (Jc 49 [.t 13]),Jo 15 (.bsl [.bool false,.seq 0 [] true] 1 2 [(0,2,.t 14)]),Jo 16 (.app 34 2 32 (.t 12) (.t 15)),Jm 3 16] [3,6,7,8]))) (.reg [Jo 17 (.bin .add (.t 8) (Jk 1)),Jm 8 17] [3,6,7,8]))))))) (Js [Jm 18 3,Jm 2 18] [2] .ret)))
def rs38:List RV:=[.t 2]
theorem enter38:EnT Tryd.prog 38 19 ac38 rs38:=Ent pl38 mixed Tryd.func38
def ac39:ACode:=Js [Jo 2 (.box 34 0 (.t 0)),Jo 3 (.box 34 0 (.t 1)),Jo 4 (.alloc 34 0 [.bool false,.seq 0 [] true])] [2,3,4] (.seq (.draw [Jf 5 0 2,Jl 6 5,Jf 7 0 3,Jl 8 7,Jo 9 (.binB .neq (.t 6) (.t 8)),Jf 10 1 2,Jl 11 10,Jf 12 1 3,Jl 13 12,Jo 14 (Jc 77 [.t 11,.t 13])] [Jo 15 (Jc 51 [.t 9,.t 14]),⟨none,none,.store 2 (.t 4) (.t 15)⟩] [0,0,3,3,0,31,31,127,127,31] [4]) .ret)
def rs39:List RV:=[.cell 4 (some 2)]
theorem enter39:EnT Tryd.prog 39 16 ac39 rs39:=Ent pl39 mixed Tryd.func39
def ac40:ACode:=Js [Jo 3 (.box 73 0 (.t 1)),Jo 4 (.alloc 34 0 [.bool false,.seq 0 [] true]),Jo 5 (.mov (Jk 0))] [0,3,4] (.seq (Js [Jm 11 0,Jv 12 11,Jo 13 (.bin .lss (.t 12) (Jk 1)),Jm 14 13,⟨some 15,some (14,false),.mov (.t 0)⟩,⟨some 16,some (14,false),.len false (.t 15)⟩,⟨some 17,some (14,false),.bin .gtr (.t 16) (Jk 16)⟩,Jo 18 (.pick (.t 14) (.k (.bool true)) (.t 17)),Jm 19 18,⟨some 20,some (19,false),.load (some 2) (.t 3)⟩,⟨some 21,some (19,false),Jc 37 [.t 20]⟩,⟨some 22,some (19,false),.un .not (.t 21)⟩,Jo 23 (.pick (.t 19) (.k (.bool true)) (.t 22))] [0,3,4,23] (.cond (.t 23) (Js [Jo 24 (.build [.bool false,.seq 0 [] true] []),⟨none,none,.store 2 (.t 4) (.t 24)⟩,Jo 5 (.mov (Jk 2))] [4,5] .ret) .skip)) (Js [Jo 26 (.load (some 2) (.t 3)),Jm 27 0,Jv 28 27,Jo 29 (Jc 78 [.t 26,.t 28]),Jm 25 29,Je 30 25 0,Je 31 25 1,Jm 6 30,Jm 7 31] [0,4,6,7] (.seq (Js [Jm 32 7,Jo 33 (.bin .neq (.t 32) (Jk 0))] [0,4,6,7,33] (.cond (.t 33) (Js [Jo 34 (.build [.bool false,.seq 0 [] true] []),Jm 35 7,⟨none,none,.store 2 (.t 4) (.t 34)⟩,Jm 5 35] [4,5] .ret) .skip)) (Js [Jo 8 (.alloc 34 0 [.bool false,.seq 0 [] true])] [0,4,6,8] (.seq (Js [Jm 36 0,Jv 37 36,Jo 38 (.mov (Jk 0))] [4,6,8,36,37,38] (.block 0 (.loop (Js [Jb 39 .lss 38 37] [4,6,8,36,37,38,39] (.seq (.cond (.t 39) .skip (.exit 0)) (.seq (.block 1 (Js [Jm 40 38,Ji 41 2 36 38,Jo 42 (.load (some 2) (.t 41)),Jo 10 (.alloc 34 0 [.bool false,.seq 0 [] true]),Jm 9 40,⟨none,none,.store 2 (.t 10) (.t 42)⟩] [4,6,8,9,10,36,37,38] (.draw [Jo 43 (.load (some 2) (.t 8)),Jo 44 (.load (some 2) (.t 10)),Jm 45 6,Jm 46 9,Ji 47 2 45 46,Jo 48 (.load (some 2) (.t 47)),Jo 49 (Jc 39 [.t 44,.t 48])] [Jo 50 (Jc 13 [.t 43,.t 49]),⟨none,none,.store 2 (.t 8) (.t 50)⟩] [0,1,3,7,3,3,1] [4,6,8,36,37,38]))) (.reg [Jo 51 (.bin .add (.t 38) (Jk 1)),Jm 38 51] [4,6,8,36,37,38]))))))) (Js [Jo 52 (.load (some 2) (.t 8)),⟨none,none,.store 2 (.t 4) (.t 52)⟩,Jo 5 (.mov (Jk 0))] [4,5] .ret))))))
def rs40:List RV:=[.cell 4 (some 2),.t 5]
theorem enter40:EnT Tryd.prog 40 53 ac40 rs40:=Ent pl40 mixed Tryd.func40
def ac41:ACode:=Js [Jo 1 (.box 34 0 (.t 0)),Jo 2 (.mov (.k (.str ⟨#[]⟩)))] [1,2] (Js [Jo 3 (.alloc 139 0 [.seq 0 [] true])] [1,2,3] (.seq (Js [Jf 5 0 1,Jl 6 5] [1,2,3,6] (.cond (.t 6) (.reg [Jl 7 3,Jo 8 (.bsl [.int .u8 ((0:Nat):Int)] 1 1 [(0,1,.k (.int .u8 ((45:Nat):Int)))]),Jo 9 (.app 5 1 1 (.t 7) (.t 8)),⟨none,none,.store 1 (.t 3) (.t 9)⟩] [1,2,3]) .skip)) (.seq (Js [Jf 10 1 1,Jl 11 10,Jo 12 (Jc 79 [.t 11])] [2,3,12] (.block 0 (.rfn (.t 12) [13] (.reg [Jm 4 13] [3,4]) (.block 1 (.reg [Jl 14 3,Jm 15 4,Jo 16 (.bin .add (Jk 48) (.t 15)),Jo 17 (.conv .u8 (.t 16)),Jo 18 (.bsl [.int .u8 ((0:Nat):Int)] 1 1 [(0,1,.t 17)]),Jo 19 (.app 5 1 1 (.t 14) (.t 18)),⟨none,none,.store 1 (.t 3) (.t 19)⟩] []))))) (Js [Jl 20 3,Jo 21 (.prim .b2s [.t 20]),Jm 2 21] [2] .ret))))
def rs41:List RV:=[.t 2]
theorem enter41:EnT Tryd.prog 41 22 ac41 rs41:=Ent pl41 mixed Tryd.func41
def ac42:ACode:=Js [Jo 4 (.mov (.k (.seq 0 [] true))),Jo 5 (.mov (Jk 0))] [0,1] (.seq (Js [Jm 11 1,Jo 12 (Jc 80 [.t 11]),Jo 13 (.un .not (.t 12))] [0,1,13] (.cond (.t 13) (Js [Jo 4 (.mov (.k (.seq 0 [] true))),Jo 5 (.mov (Jk 2))] [4,5] .ret) .skip)) (Js [Jo 6 (.mov (.k (.seq 0 [] true)))] [0,1,6] (.seq (Js [Jm 14 1,Jv 15 14,Jo 16 (.mov (Jk 0))] [0,6,14,15,16] (.block 0 (.loop (Js [Jb 17 .lss 16 15] [0,6,14,15,16,17] (.seq (.cond (.t 17) .skip (.exit 0)) (.seq (.block 1 (Js [Ji 18 2 14 16,Jo 19 (.load (some 2) (.t 18)),Jo 8 (.alloc 73 0 [Jn 0,Jn 0]),⟨none,none,.store 2 (.t 8) (.t 19)⟩] [0,6,8,14,15,16] (Js [Jm 21 0,Jo 22 (.load (some 2) (.t 8)),Jo 23 (Jc 40 [.t 21,.t 22]),Jm 20 23,Je 24 20 0,Je 25 20 1,Jo 9 (.alloc 34 0 [.bool false,.seq 0 [] true]),⟨none,none,.store 2 (.t 9) (.t 24)⟩,Jm 10 25] [0,6,9,10,14,15,16] (.seq (Js [Jm 26 10,Jo 27 (.bin .neq (.t 26) (Jk 0))] [0,6,9,10,14,15,16,27] (.cond (.t 27) (Js [Jm 28 10,Jo 4 (.mov (.k (.seq 0 [] true))),Jm 5 28] [4,5] .ret) .skip)) (.reg [Jm 29 6,Jo 30 (.load (some 2) (.t 9)),Jo 31 (.bsl [.bool false,.seq 0 [] true] 1 2 [(0,2,.t 30)]),Jo 32 (.app 34 2 32 (.t 29) (.t 31)),Jm 6 32] [0,6,14,15,16]))))) (.reg [Jo 33 (.bin .add (.t 16) (Jk 1)),Jm 16 33] [0,6,14,15,16]))))))) (Js [Jm 34 6,Jm 4 34,Jo 5 (.mov (Jk 0))] [4,5] .ret))))
def rs42:List RV:=[.t 4,.t 5]
theorem enter42:EnT Tryd.prog 42 35 ac42 rs42:=Ent pl42 mixed Tryd.func42
def ac43:ACode:=Js [Jo 2 (.mov (.k (.seq 0 [] true)))] [0] (Js [Jo 3 (.mov (.k (.seq 0 [] true)))] [0,3] (.seq (Js [Jo 4 (.mov (Jk 0))] [0,3,4] (.block 0 (.loop (.seq (Js [Jm 5 4,Jo 6 (.bin .add (.t 5) (Jk 1)),Jm 7 0,Jv 8 7,Jb 9 .lss 6 8] [0,3,4,9] (.cond (.t 9) .skip (.exit 0))) (.seq (.block 1 (.draw [Jm 12 3,Jm 13 0,Jm 14 4,Ji 15 1 13 14,Jl 16 15,Jm 17 0,Jm 18 4,Jo 19 (.bin .add (.t 18) (Jk 1)),Ji 20 1 17 19,Jl 21 20,Jo 22 (.build [Jn 0,Jn 0] [(0,1,.t 16),(1,1,.t 21)]),Jo 23 (.bsl [Jn 0,Jn 0] 1 2 [(0,2,.t 22)])] [Jo 24 (.app 73 2 16 (.t 12) (.t 23)),Jm 3 24] [0,1,3,1,1,31,63,63,31,31,1,1] [0,3,4])) (.reg [Jm 10 4,Jo 11 (.bin .add (.t 10) (Jk 2)),Jm 4 11] [0,3,4])))))) (Js [Jm 25 3,Jm 2 25] [2] .ret)))
def rs43:List RV:=[.t 2]
theorem enter43:EnT Tryd.prog 43 26 ac43 rs43:=Ent pl43 mixed Tryd.func43
def ac44:ACode:=Js [Jo 3 (.box 25 0 (.t 0)),Jo 6 (.mov (.k (.bool false))),Jo 7 (.mov (Jk 0))] [1,2,3] (.seq (Js [Jm 20 1,Jo 21 (.bin .lss (.t 20) (Jk 1)),Jm 22 21,⟨some 23,some (22,false),.mov (.t 1)⟩,⟨some 24,some (22,false),.bin .gtr (.t 23) (Jk 8)⟩,Jo 25 (.pick (.t 22) (.k (.bool true)) (.t 24)),Jm 26 25,⟨some 27,some (26,false),.mov (.t 2)⟩,⟨some 28,some (26,false),Jc 80 [.t 27]⟩,⟨some 29,some (26,false),.un .not (.t 28)⟩,Jo 30 (.pick (.t 26) (.k (.bool true)) (.t 29))] [1,2,3,30] (.cond (.t 30) (Js [Jo 6 (.mov (.k (.bool false))),Jo 7 (.mov (Jk 2))] [6,7] .ret) .skip)) (Js [Jo 32 (.load (some 4) (.t 3)),Jo 33 (Jc 57 [.t 32]),Jm 31 33,Je 34 31 0,Je 35 31 1,Jm 8 34,Jm 9 35] [1,2,3,9] (.seq (Js [Jm 36 9,Jo 37 (.bin .neq (.t 36) (Jk 0))] [1,2,3,9,37] (.cond (.t 37) (Js [Jm 38 9,Jo 6 (.mov (.k (.bool false))),Jm 7 38] [6,7] .ret) .skip)) (.seq (Js [Jf 39 0 3,Jl 40 39,Jm 41 1,Jb 42 .neq 40 41,Jm 43 42,⟨some 44,some (43,false),.fldA 3 (.t 3)⟩,⟨some 45,some (43,false),.load none (.t 44)⟩,⟨some 46,some (43,false),.len false (.t 45)⟩,⟨some 47,some (43,false),.mov (.t 2)⟩,⟨some 48,some (43,false),.len false (.t 47)⟩,⟨some 49,some (43,false),.bin .neq (.t 46) (.t 48)⟩,Jo 50 (.pick (.t 43) (.k (.bool true)) (.t 49))] [1,2,3,50] (.cond (.t 50) (Js [Jo 6 (.mov (.k (.bool false))),Jo 7 (.mov (Jk 0))] [6,7] .ret) .skip)) (.seq (Js [Jf 51 2 3,Jl 52 51,Jv 53 52,Jo 54 (.mov (Jk 0))] [1,2,3,52,53,54] (.block 0 (.loop (Js [Jb 55 .lss 54 53] [1,2,3,52,53,54,55] (.seq (.cond (.t 55) .skip (.exit 0)) (.seq (.block 1 (Js [Ji 56 5 52 54,Jo 57 (.load (some 5) (.t 56)),Jo 11 (.alloc 88 0 [Jn 0,Jn 0,Jn 0,Jn 0,Jn 0]),⟨none,none,.store 5 (.t 11) (.t 57)⟩] [1,2,3,11,52,53,54] (Js [Jf 58 0 11,Jl 59 58,Jo 60 (.bin .eql (.t 59) (Jk 6)),Jm 61 60,⟨some 62,some (61,false),.fldA 0 (.t 11)⟩,⟨some 63,some (61,false),.load none (.t 62)⟩,⟨some 64,some (61,false),.bin .eql (.t 63) (Jk 8)⟩,Jo 65 (.pick (.t 61) (.k (.bool true)) (.t 64))] [1,2,3,52,53,54,65] (.cond (.t 65) (Js [Jo 6 (.mov (.k (.bool false))),Jo 7 (.mov (Jk 0))] [6,7] .ret) .skip)))) (.reg [Jo 66 (.bin .add (.t 54) (Jk 1)),Jm 54 66] [1,2,3,52,53,54]))))))) (.seq (.draw [Jo 68 (.load (some 4) (.t 3)),Jm 69 1,Jo 70 (Jc 81 [.t 69])] [Jo 71 (Jc 34 [.t 68,.t 70]),Jm 67 71,Je 72 67 0,Je 73 67 1,Je 74 67 2,Jm 12 72,Jm 13 73,Jm 9 74] [0,1,1] [1,2,9,12]) (.seq (Js [Jm 75 9,Jo 76 (.bin .neq (.t 75) (Jk 0))] [1,2,12,76] (.cond (.t 76) (Js [Jo 6 (.mov (.k (.bool false))),Jo 7 (.mov (Jk 0))] [6,7] .ret) .skip)) (.seq (Js [Jm 77 2,Jv 78 77,Jo 79 (.mov (Jk 0))] [1,12,77,78,79] (.block 2 (.loop (Js [Jb 80 .lss 79 78] [1,12,77,78,79,80] (.seq (.cond (.t 80) .skip (.exit 2)) (.seq (.block 3 (Js [Jm 81 79,Ji 82 2 77 79,Jo 83 (.load (some 2) (.t 82)),Jo 15 (.alloc 73 0 [Jn 0,Jn 0]),Jm 14 81,⟨none,none,.store 2 (.t 15) (.t 83)⟩] [1,12,14,15,77,78,79] (Js [Jo 85 (.load (some 2) (.t 15)),Jm 86 1,Jo 87 (Jc 78 [.t 85,.t 86]),Jm 84 87,Je 88 84 0,Je 89 84 1,Jm 16 88,Jm 17 89] [1,12,14,16,77,78,79] (Js [Jm 90 12,Jm 91 14,Ji 92 1 90 91,Jl 93 92,Jv 94 93,Jo 95 (.mov (Jk 0))] [1,12,16,77,78,79,93,94,95] (.block 4 (.loop (Js [Jb 96 .lss 95 94] [1,12,16,77,78,79,93,94,95,96] (.seq (.cond (.t 96) .skip (.exit 4)) (.seq (.block 5 (Js [Jm 97 95,Ji 98 2 93 95,Jo 99 (.load (some 2) (.t 98)),Jo 19 (.alloc 34 0 [.bool false,.seq 0 [] true]),Jm 18 97,⟨none,none,.store 2 (.t 19) (.t 99)⟩] [1,12,16,18,19,77,78,79,93,94,95] (.seq (.draw [Jo 100 (.load (some 2) (.t 19)),Jm 101 16,Jm 102 18,Ji 103 2 101 102,Jo 104 (.load (some 2) (.t 103))] [Jo 105 (Jc 15 [.t 100,.t 104]),Jo 106 (.bin .neq (.t 105) (Jk 0))] [0,1,3,1,1] [1,12,16,77,78,79,93,94,95,106]) (.cond (.t 106) (Js [Jo 6 (.mov (.k (.bool false))),Jo 7 (.mov (Jk 0))] [6,7] .ret) .skip)))) (.reg [Jo 107 (.bin .add (.t 95) (Jk 1)),Jm 95 107] [1,12,16,77,78,79,93,94,95])))))))))) (.reg [Jo 108 (.bin .add (.t 79) (Jk 1)),Jm 79 108] [1,12,77,78,79]))))))) (Js [Jo 6 (.mov (.k (.bool true))),Jo 7 (.mov (Jk 0))] [6,7] .ret)))))))))
def rs44:List RV:=[.t 6,.t 7]
theorem enter44:EnT Tryd.prog 44 109 ac44 rs44:=Ent pl44 mixed Tryd.func44
def ac45:ACode:=Js [Jo 0 (.alloc 25 0 [Jn 0,Jn 0,.seq 0 [] true,.seq 0 [] true])] [0] (Js [Jo 1 (.build [Jn 0,Jn 0,Jn 0,Jn 0,Jn 0] [(0,1,Jk 3),(1,1,Jk 2),(2,1,Jk 0),(3,1,Jk 1)]),Jo 2 (.bsl [Jn 0,Jn 0,Jn 0,Jn 0,Jn 0] 1 5 [(0,5,.t 1)]),Jo 3 (.bsl [Jn 0] 3 1 [(0,1,Jk 0),(1,1,Jk 2),(2,1,Jk 1)]),Jo 4 (.build [Jn 0,Jn 0,.seq 0 [] true,.seq 0 [] true] [(0,1,Jk 2),(1,1,Jk 3),(2,1,.t 2),(3,1,.t 3)]),⟨none,none,.store 4 (.t 0) (.t 4)⟩] [0] .ret)
def rs45:List RV:=[.cell 0 (some 4)]
theorem enter45:EnT Tryd.prog 45 5 ac45 rs45:=Ent pl45 mixed Tryd.func45
def ac46:ACode:=Js [Jo 4 (.alloc 25 0 [Jn 0,Jn 0,.seq 0 [] true,.seq 0 [] true]),Jo 5 (.mov (Jk 0))] [0,1,4] (.scope0 (.seq (Js [Jm 16 0,Jo 17 (.bin .lss (.t 16) (Jk 1)),Jm 18 17,⟨some 19,some (18,false),.mov (.t 0)⟩,⟨some 20,some (18,false),.bin .gtr (.t 19) (Jk 8)⟩,Jo 21 (.pick (.t 18) (.k (.bool true)) (.t 20)),Jm 22 21,⟨some 23,some (22,false),.mov (.t 1)⟩,⟨some 24,some (22,false),Jc 80 [.t 23]⟩,⟨some 25,some (22,false),.un .not (.t 24)⟩,Jo 26 (.pick (.t 22) (.k (.bool true)) (.t 25))] [0,1,4,26] (.cond (.t 26) (Js [Jo 27 (.build [Jn 0,Jn 0,.seq 0 [] true,.seq 0 [] true] []),⟨none,none,.store 4 (.t 4) (.t 27)⟩,Jo 5 (.mov (Jk 2))] [4,5] .ret) .skip)) (Js [Jm 28 0,Jm 29 0,Jm 30 1,Jv 31 30,Jb 32 .add 29 31,Jo 33 (.bin .add (.t 32) (Jk 1)),Jo 34 (.build [Jn 0,Jn 0,.seq 0 [] true,.seq 0 [] true] [(0,1,.t 28),(1,1,.t 33)]),Jo 6 (.alloc 25 0 [Jn 0,Jn 0,.seq 0 [] true,.seq 0 [] true]),⟨none,none,.store 4 (.t 6) (.t 34)⟩] [0,1,4,6] (Js [Jo 35 (.mkF (.func 82) [] [.t 6]),Jo 7 (.alloc 145 0 [.nilF]),⟨none,none,.store 1 (.t 7) (.t 35)⟩] [0,1,4,6,7] (Js [Jm 36 0,Jm 37 1,Jv 38 37,Jb 39 .add 36 38,Jm 8 39] [0,1,4,6,7,8] (Js [Jo 40 (.mkF (.func 83) [] [.t 7]),Jm 9 40] [0,1,4,6,7,8,9] (.seq .skip (.seq (Js [Jm 41 1,Jv 42 41,Jo 43 (.mov (Jk 0))] [0,4,6,7,8,9,41,42,43] (.block 0 (.loop (Js [Jb 44 .lss 43 42] [0,4,6,7,8,9,41,42,43,44] (.seq (.cond (.t 44) .skip (.exit 0)) (.seq (.block 1 (Js [Jm 45 43,Ji 46 2 41 43,Jo 47 (.load (some 2) (.t 46)),Jo 11 (.alloc 73 0 [Jn 0,Jn 0]),Jm 10 45,⟨none,none,.store 2 (.t 11) (.t 47)⟩] [0,4,6,7,8,9,10,11,41,42,43] (Js [Jm 48 0,Jm 49 10,Jb 50 .add 48 49,Jm 12 50] [0,4,6,7,8,9,10,11,12,41,42,43] (Js [Jf 51 3 6,Jl 52 51,Jm 53 12,Jo 54 (.bsl [Jn 0] 1 1 [(0,1,.t 53)]),Jo 55 (.app 3 1 8 (.t 52) (.t 54)),Jf 56 3 6,⟨none,none,.store 1 (.t 56) (.t 55)⟩] [0,4,6,7,8,9,10,11,12,41,42,43] (.seq (.block 2 (Js [Jm 58 0,Jo 59 (.bin .eql (.t 58) (Jk 1)),Jm 57 59] [0,4,6,7,8,9,10,11,12,41,42,43,57] (.cond (.t 57) (Js [Jf 60 3 6,Jl 61 60,Jm 62 10,Ji 63 1 61 62,⟨none,none,.store 1 (.t 63) (Jk 0)⟩] [0,4,6,7,8,9,41,42,43] (.exit 1)) (Js [Jf 65 0 11,Jl 66 65,Jo 67 (.bin .eql (.t 66) (Jk 0)),Jm 68 67,⟨some 69,some (68,true),.fldA 1 (.t 11)⟩,⟨some 70,some (68,true),.load none (.t 69)⟩,⟨some 71,some (68,true),.bin .eql (.t 70) (Jk 0)⟩,Jo 72 (.pick (.t 68) (.t 71) (.k (.bool false))),Jm 64 72] [0,4,6,7,8,9,11,12,41,42,43,64] (.cond (.t 64) (Js [Jl 73 7,Jm 74 12,Jo 75 (.build [Jn 0,Jn 0,Jn 0,Jn 0,Jn 0] [(0,1,Jk 4),(1,1,.t 74),(2,1,Jk 0),(3,1,Jk 0)]),Jo 76 (.call (.t 73) [.t 75])] [0,4,6,7,8,9,41,42,43] (.exit 1)) (Js [Jf 78 0 11,Jl 79 78,Jo 80 (.bin .eql (.t 79) (Jk 0)),Jm 77 80] [0,4,6,7,8,9,11,12,41,42,43,77] (.cond (.t 77) (Js [Jm 81 9,Jm 82 12,Jf 83 1 11,Jl 84 83,Jm 85 0,Jo 86 (.bin .sub (.t 85) (Jk 1)),Jo 87 (.call (.t 81) [.t 82,Jk 0,.t 84,.t 86])] [0,4,6,7,8,9,41,42,43] (.exit 1)) (Js [Jf 89 1 11,Jl 90 89,Jo 91 (.bin .eql (.t 90) (Jk 0)),Jm 88 91] [0,4,6,7,8,9,11,12,41,42,43,88] (.cond (.t 88) (Js [Jm 92 9,Jm 93 12,Jm 94 0,Jo 95 (.bin .sub (.t 94) (Jk 1)),Jf 96 0 11,Jl 97 96,Jm 98 0,Jo 99 (.bin .sub (.t 98) (Jk 1)),Jo 100 (.call (.t 92) [.t 93,.t 95,.t 97,.t 99])] [0,4,6,7,8,9,41,42,43] (.exit 1)) .skip))))))))) (Js [Jm 101 0,Jo 102 (.bin .sub (.t 101) (Jk 1)),Jm 13 102] [0,4,6,7,8,9,11,12,13,41,42,43] (Js [Jm 103 0,Jo 104 (.bin .sub (.t 103) (Jk 2)),Jm 14 104] [0,4,6,7,8,9,11,12,13,14,41,42,43] (.block 3 (.loop (.seq (Js [Jm 105 14,Jo 106 (.bin .geq (.t 105) (Jk 0))] [0,4,6,7,8,9,11,12,13,14,41,42,43,106] (.cond (.t 106) .skip (.exit 3))) (.seq (.block 4 (.seq (.draw [Jl 109 7,Jm 110 12,Jm 111 13,Jf 112 0 11,Jl 113 112,Jo 114 (Jc 84 [.t 110,.t 111,.t 113])] [Jo 115 (.call (.t 109) [.t 114])] [0,1,3,7,7,1] [0,4,6,7,8,9,11,12,14,41,42,43]) (Js [Jm 116 12,Jm 13 116] [0,4,6,7,8,9,11,12,13,14,41,42,43] (Js [Jm 117 0,Jo 118 (.bin .sub (.t 117) (Jk 1)),Jm 119 14,Jb 120 .sub 118 119,Jm 15 120] [0,4,6,7,8,9,11,12,13,14,15,41,42,43] (.block 5 (.seq (Js [Jf 135 1 11,Jl 136 135,Jo 137 (.bin .eql (.t 136) (Jk 1)),Jm 134 137] [0,4,6,7,8,9,11,12,13,14,15,41,42,43,134] (.cond (.t 134) .skip (.reg [Jf 138 1 11,Jl 139 138,Jo 140 (.bin .eql (.t 139) (.k (.int .i64 (-1)))),Jm 141 140,⟨some 142,some (141,true),.mov (.t 15)⟩,⟨some 143,some (141,true),.bin .rem (.t 142) (Jk 2)⟩,⟨some 144,some (141,true),.bin .eql (.t 143) (Jk 0)⟩,Jo 145 (.pick (.t 141) (.t 144) (.k (.bool false))),Jm 134 145] [0,4,6,7,8,9,11,12,13,14,15,41,42,43,134]))) (.cond (.t 134) (.reg [Jl 146 7,Jm 147 12,Jm 148 12,Jm 149 14,Jo 150 (.build [Jn 0,Jn 0,Jn 0,Jn 0,Jn 0] [(0,1,Jk 3),(1,1,.t 147),(2,1,.t 148),(3,1,.t 149)]),Jo 151 (.call (.t 146) [.t 150])] [0,4,6,7,8,9,11,12,13,14,41,42,43]) (Js [Jf 153 1 11,Jl 154 153,Jo 155 (.bin .eql (.t 154) (.k (.int .i64 (-1)))),Jm 152 155] [0,4,6,7,8,9,11,12,13,14,15,41,42,43,152] (.cond (.t 152) (.reg [Jl 156 7,Jm 157 12,Jm 158 12,Jm 159 14,Jo 160 (.build [Jn 0,Jn 0,Jn 0,Jn 0,Jn 0] [(0,1,Jk 4),(1,1,.t 157),(2,1,.t 158),(3,1,.t 159)]),Jo 161 (.call (.t 156) [.t 160])] [0,4,6,7,8,9,11,12,13,14,41,42,43]) (Js [Jm 121 9,Jm 122 8,Jm 123 14,Jf 124 1 11,Jl 125 124,Jm 126 15,Jo 127 (.call (.t 121) [.t 122,.t 123,.t 125,.t 126])] [0,4,6,7,8,9,11,12,13,14,41,42,43] (.reg [Jl 128 7,Jm 129 12,Jm 130 12,Jm 131 8,Jo 132 (.build [Jn 0,Jn 0,Jn 0,Jn 0,Jn 0] [(0,1,Jk 3),(1,1,.t 129),(2,1,.t 130),(3,1,.t 131)]),Jo 133 (.call (.t 128) [.t 132])] [0,4,6,7,8,9,11,12,13,14,41,42,43]))))))))))) (.reg [Jm 107 14,Jo 108 (.bin .sub (.t 107) (Jk 1)),Jm 14 108] [0,4,6,7,8,9,11,12,13,14,41,42,43])))))))))))) (.reg [Jo 162 (.bin .add (.t 43) (Jk 1)),Jm 43 162] [0,4,6,7,8,9,41,42,43]))))))) (Js [Jo 163 (.load (some 4) (.t 6)),⟨none,none,.store 4 (.t 4) (.t 163)⟩,Jo 5 (.mov (Jk 0))] [4,5] .ret)))))))))
def rs46:List RV:=[.cell 4 (some 4),.t 5]
theorem enter46:EnT Tryd.prog 46 164 ac46 rs46:=Ent pl46 mixed Tryd.func46
def ac47:ACode:=Js [Jo 2 (.mov (.k (.seq 0 [] true)))] [0] (.seq (Js [Jm 3 0,Jo 4 (.nilS false (.t 3))] [0,4] (.cond (.t 4) (Js [Jo 2 (.mov (.k (.seq 0 [] true)))] [2] .ret) .skip)) (Js [Jo 5 (.bsl [.bool false,.seq 0 [] true] 0 2 []),Jm 6 0,Jo 7 (.app 34 2 32 (.t 5) (.t 6)),Jm 2 7] [2] .ret))
def rs47:List RV:=[.t 2]
theorem enter47:EnT Tryd.prog 47 8 ac47 rs47:=Ent pl47 mixed Tryd.func47
def ac49:ACode:=Js [Jo 2 (.alloc 34 0 [.bool false,.seq 0 [] true])] [0,2] (Js [Jm 4 0,Jo 5 (.conv .u64 (.t 4)),Jm 3 5] [0,2,3] (.seq (Js [Jm 6 0,Jo 7 (.bin .lss (.t 6) (Jk 0))] [0,2,3,7] (.cond (.t 7) (.reg [Jm 8 3,Jo 9 (.un .neg (.t 8)),Jm 3 9] [0,2,3]) .skip)) (Js [Jm 10 0,Jo 11 (.bin .lss (.t 10) (Jk 0)),Jm 12 3,Jo 13 (.conv .u32 (.t 12)),Jm 14 3,Jo 15 (.bin .shr (.t 14) (.k (.int .u64 ((32:Nat):Int)))),Jo 16 (.conv .u32 (.t 15)),Jo 17 (.bsl [.int .u32 ((0:Nat):Int)] 2 1 [(0,1,.t 13),(1,1,.t 16)]),Jo 18 (Jc 85 [.t 11,.t 17]),⟨none,none,.store 2 (.t 2) (.t 18)⟩] [2] .ret)))
def rs49:List RV:=[.cell 2 (some 2)]
theorem enter49:EnT Tryd.prog 49 19 ac49 rs49:=Ent pl49 mixed Tryd.func49
def ac51:ACode:=Js [Jo 4 (.alloc 34 0 [.bool false,.seq 0 [] true])] [0,1,4] (Js [Jm 5 0,Jm 6 5,⟨some 7,some (6,true),.mov (.t 1)⟩,⟨some 8,some (6,true),.len false (.t 7)⟩,⟨some 9,some (6,true),.bin .gtr (.t 8) (Jk 0)⟩,Jo 10 (.pick (.t 6) (.t 9) (.k (.bool false))),Jm 11 1,Jo 12 (.build [.bool false,.seq 0 [] true] [(0,1,.t 10),(1,1,.t 11)]),⟨none,none,.store 2 (.t 4) (.t 12)⟩] [4] .ret)
def rs51:List RV:=[.cell 4 (some 2)]
theorem enter51:EnT Tryd.prog 51 13 ac51 rs51:=Ent pl51 mixed Tryd.func51
def ac52:ACode:=Js [Jo 4 (.mov (.k (.seq 0 [] true)))] [0,1] (.seq (Js [Jm 9 0,Jv 10 9,Jm 11 1,Jv 12 11,Jb 13 .lss 10 12] [0,1,13] (.cond (.t 13) (.reg [Jm 14 1,Jm 15 0,Jm 0 14,Jm 1 15] [0,1]) .skip)) (Js [Jm 16 0,Jv 17 16,Jo 18 (.bin .add (.t 17) (Jk 1)),Jo 19 (.mks 149 1 4 [.int .u32 ((0:Nat):Int)] (.t 18) (.t 18)),Jm 5 19] [0,1,5] (Js [Jo 6 (.mov (.k (.int .u64 ((0:Nat):Int))))] [0,1,5,6] (.seq (Js [Jm 20 0,Jv 21 20,Jo 22 (.mov (Jk 0))] [0,1,5,6,20,21,22] (.block 0 (.loop (Js [Jb 23 .lss 22 21] [0,1,5,6,20,21,22,23] (.seq (.cond (.t 23) .skip (.exit 0)) (.seq (.block 1 (Js [Jm 24 22,Ji 25 1 20 22,Jl 26 25,Jm 7 24,Jm 8 26] [0,1,5,6,7,8,20,21,22] (Js [Jm 27 6,Jm 28 8,Jo 29 (.conv .u64 (.t 28)),Jb 30 .add 27 29,Jm 6 30] [0,1,5,6,7,20,21,22] (.seq (Js [Jm 31 7,Jm 32 1,Jv 33 32,Jb 34 .lss 31 33] [0,1,5,6,7,20,21,22,34] (.cond (.t 34) (.reg [Jm 35 6,Jm 36 1,Jm 37 7,Ji 38 1 36 37,Jl 39 38,Jo 40 (.conv .u64 (.t 39)),Jb 41 .add 35 40,Jm 6 41] [0,1,5,6,7,20,21,22]) .skip)) (Js [Jm 42 5,Jm 43 7,Jm 44 6,Jo 45 (.conv .u32 (.t 44)),Ji 46 1 42 43,⟨none,none,.store 1 (.t 46) (.t 45)⟩] [0,1,5,6,20,21,22] (.reg [Jm 47 6,Jo 48 (.bin .shr (.t 47) (.k (.int .u64 ((32:Nat):Int)))),Jm 6 48] [0,1,5,6,20,21,22])))))) (.reg [Jo 49 (.bin .add (.t 22) (Jk 1)),Jm 22 49] [0,1,5,6,20,21,22]))))))) (Js [Jm 50 5,Jm 51 0,Jv 52 51,Jm 53 6,Jo 54 (.conv .u32 (.t 53)),Ji 55 1 50 52,⟨none,none,.store 1 (.t 55) (.t 54)⟩] [5] (Js [Jm 56 5,Jo 57 (Jc 88 [.t 56]),Jm 4 57] [4] .ret))))))
def rs52:List RV:=[.t 4]
theorem enter52:EnT Tryd.prog 52 58 ac52 rs52:=Ent pl52 mixed Tryd.func52
def ac53:ACode:=Js [Jo 4 (.mov (Jk 0))] [0,1] (Js [Jm 6 0,Jo 7 (Jc 88 [.t 6]),Jm 8 1,Jo 9 (Jc 88 [.t 8]),Jm 0 7,Jm 1 9] [0,1] (.seq (.block 0 (Js [Jm 11 0,Jv 12 11,Jm 13 1,Jv 14 13,Jb 15 .lss 12 14,Jm 10 15] [0,1,10] (.cond (.t 10) (Js [Jo 4 (.mov (.k (.int .i64 (-1))))] [4] .ret) (Js [Jm 17 0,Jv 18 17,Jm 19 1,Jv 20 19,Jb 21 .gtr 18 20,Jm 16 21] [0,1,16] (.cond (.t 16) (Js [Jo 4 (.mov (Jk 1))] [4] .ret) .skip))))) (.seq (Js [Jm 22 0,Jv 23 22,Jo 24 (.bin .sub (.t 23) (Jk 1)),Jm 5 24] [0,1,5] (.block 1 (.loop (.seq (Js [Jm 25 5,Jo 26 (.bin .geq (.t 25) (Jk 0))] [0,1,5,26] (.cond (.t 26) .skip (.exit 1))) (.seq (.block 2 (.block 3 (.seq (.draw [Jm 30 0,Jm 31 5,Ji 32 1 30 31,Jl 33 32,Jm 34 1,Jm 35 5,Ji 36 1 34 35,Jl 37 36] [Jb 38 .lss 33 37,Jm 29 38] [0,1,0,0,15,31,15,15] [0,1,5,29]) (.cond (.t 29) (Js [Jo 4 (.mov (.k (.int .i64 (-1))))] [4] .ret) (.seq (.draw [Jm 40 0,Jm 41 5,Ji 42 1 40 41,Jl 43 42,Jm 44 1,Jm 45 5,Ji 46 1 44 45,Jl 47 46] [Jb 48 .gtr 43 47,Jm 39 48] [0,1,0,0,15,31,15,15] [0,1,5,39]) (.cond (.t 39) (Js [Jo 4 (.mov (Jk 1))] [4] .ret) .skip)))))) (.reg [Jm 27 5,Jo 28 (.bin .sub (.t 27) (Jk 1)),Jm 5 28] [0,1,5])))))) (Js [Jo 4 (.mov (Jk 0))] [4] .ret))))
def rs53:List RV:=[.t 4]
theorem enter53:EnT Tryd.prog 53 49 ac53 rs53:=Ent pl53 mixed Tryd.func53
def ac54:ACode:=Js [Jo 4 (.mov (.k (.seq 0 [] true))),Jo 5 (.mov (Jk 0))] [0,1] (.seq (Js [Jm 12 0,Jm 13 1,Jo 14 (Jc 53 [.t 12,.t 13]),Jo 15 (.bin .lss (.t 14) (Jk 0))] [0,1,15] (.cond (.t 15) (Js [Jo 4 (.mov (.k (.seq 0 [] true))),Jo 5 (.mov (Jk 5))] [4,5] .ret) .skip)) (Js [Jm 16 0,Jv 17 16,Jo 18 (.mks 149 1 4 [.int .u32 ((0:Nat):Int)] (.t 17) (.t 17)),Jm 6 18] [0,1,6] (Js [Jo 7 (.mov (.k (.int .u64 ((0:Nat):Int))))] [0,1,6,7] (.seq (Js [Jm 19 0,Jv 20 19,Jo 21 (.mov (Jk 0))] [1,6,7,19,20,21] (.block 0 (.loop (Js [Jb 22 .lss 21 20] [1,6,7,19,20,21,22] (.seq (.cond (.t 22) .skip (.exit 0)) (.seq (.block 1 (Js [Jm 23 21,Ji 24 1 19 21,Jl 25 24,Jm 8 23,Jm 9 25] [1,6,7,8,9,19,20,21] (Js [Jm 26 7,Jm 10 26] [1,6,8,9,10,19,20,21] (.seq (Js [Jm 27 8,Jm 28 1,Jv 29 28,Jb 30 .lss 27 29] [1,6,8,9,10,19,20,21,30] (.cond (.t 30) (.reg [Jm 31 10,Jm 32 1,Jm 33 8,Ji 34 1 32 33,Jl 35 34,Jo 36 (.conv .u64 (.t 35)),Jb 37 .add 31 36,Jm 10 37] [1,6,8,9,10,19,20,21]) .skip)) (Js [Jm 38 9,Jo 39 (.conv .u64 (.t 38)),Jm 40 10,Jb 41 .sub 39 40,Jm 11 41] [1,6,8,11,19,20,21] (Js [Jm 42 6,Jm 43 8,Jm 44 11,Jo 45 (.conv .u32 (.t 44)),Ji 46 1 42 43,⟨none,none,.store 1 (.t 46) (.t 45)⟩] [1,6,11,19,20,21] (.reg [Jm 47 11,Jo 48 (.bin .shr (.t 47) (.k (.int .u64 ((32:Nat):Int)))),Jo 49 (.bin .and (.t 48) (.k (.int .u64 ((1:Nat):Int)))),Jm 7 49] [1,6,7,19,20,21]))))))) (.reg [Jo 50 (.bin .add (.t 21) (Jk 1)),Jm 21 50] [1,6,7,19,20,21]))))))) (Js [Jm 51 6,Jo 52 (Jc 88 [.t 51]),Jm 4 52,Jo 5 (.mov (Jk 0))] [4,5] .ret)))))
def rs54:List RV:=[.t 4,.t 5]
theorem enter54:EnT Tryd.prog 54 53 ac54 rs54:=Ent pl54 mixed Tryd.func54
def ac57:ACode:=Js [Jo 1 (.box 25 0 (.t 0)),Jo 2 (.mov (Jk 0)),Jo 3 (.mov (Jk 0))] [1] (.seq (Js [Jf 8 0 1,Jl 9 8,Jo 10 (.bin .lss (.t 9) (Jk 1)),Jm 11 10,⟨some 12,some (11,false),.fldA 0 (.t 1)⟩,⟨some 13,some (11,false),.load none (.t 12)⟩,⟨some 14,some (11,false),.fldA 1 (.t 1)⟩,⟨some 15,some (11,false),.load none (.t 14)⟩,⟨some 16,some (11,false),.bin .gtr (.t 13) (.t 15)⟩,Jo 17 (.pick (.t 11) (.k (.bool true)) (.t 16)),Jm 18 17,⟨some 19,some (18,false),.fldA 1 (.t 1)⟩,⟨some 20,some (18,false),.load none (.t 19)⟩,⟨some 21,some (18,false),.bin .gtr (.t 20) (Jk 128)⟩,Jo 22 (.pick (.t 18) (.k (.bool true)) (.t 21)),Jm 23 22,⟨some 24,some (23,false),.fldA 2 (.t 1)⟩,⟨some 25,some (23,false),.load none (.t 24)⟩,⟨some 26,some (23,false),.len false (.t 25)⟩,⟨some 27,some (23,false),.bin .gtr (.t 26) (Jk 16384)⟩,Jo 28 (.pick (.t 23) (.k (.bool true)) (.t 27)),Jm 29 28,⟨some 30,some (29,false),.fldA 3 (.t 1)⟩,⟨some 31,some (29,false),.load none (.t 30)⟩,⟨some 32,some (29,false),.len false (.t 31)⟩,⟨some 33,some (29,false),.bin .lss (.t 32) (Jk 1)⟩,Jo 34 (.pick (.t 29) (.k (.bool true)) (.t 33)),Jm 35 34,⟨some 36,some (35,false),.fldA 3 (.t 1)⟩,⟨some 37,some (35,false),.load none (.t 36)⟩,⟨some 38,some (35,false),.len false (.t 37)⟩,⟨some 39,some (35,false),.bin .gtr (.t 38) (Jk 128)⟩,Jo 40 (.pick (.t 35) (.k (.bool true)) (.t 39))] [1,40] (.cond (.t 40) (Js [Jo 2 (.mov (.k (.int .i64 (-1)))),Jo 3 (.mov (Jk 80))] [2,3] .ret) .skip)) (.seq (Js [Jf 41 3 1,Jl 42 41,Jv 43 42,Jo 44 (.mov (Jk 0))] [1,42,43,44] (.block 0 (.loop (Js [Jb 45 .lss 44 43] [1,42,43,44,45] (.seq (.cond (.t 45) .skip (.exit 0)) (.seq (.block 1 (Js [Ji 46 1 42 44,Jl 47 46,Jm 5 47] [1,5,42,43,44] (Js [Jm 48 5,Jo 49 (.bin .lss (.t 48) (Jk 0)),Jm 50 49,⟨some 51,some (50,false),.mov (.t 5)⟩,⟨some 52,some (50,false),.fldA 1 (.t 1)⟩,⟨some 53,some (50,false),.load none (.t 52)⟩,⟨some 54,some (50,false),.bin .geq (.t 51) (.t 53)⟩,Jo 55 (.pick (.t 50) (.k (.bool true)) (.t 54))] [1,42,43,44,55] (.cond (.t 55) (Js [Jo 2 (.mov (.k (.int .i64 (-1)))),Jo 3 (.mov (Jk 80))] [2,3] .ret) .skip)))) (.reg [Jo 56 (.bin .add (.t 44) (Jk 1)),Jm 44 56] [1,42,43,44]))))))) (.seq (Js [Jf 57 2 1,Jl 58 57,Jv 59 58,Jo 60 (.mov (Jk 0))] [1,58,59,60] (.block 2 (.loop (Js [Jb 61 .lss 60 59] [1,58,59,60,61] (.seq (.cond (.t 61) .skip (.exit 2)) (.seq (.block 3 (Js [Jm 62 60,Ji 63 5 58 60,Jo 64 (.load (some 5) (.t 63)),Jo 7 (.alloc 88 0 [Jn 0,Jn 0,Jn 0,Jn 0,Jn 0]),Jm 6 62,⟨none,none,.store 5 (.t 7) (.t 64)⟩] [1,6,7,58,59,60] (Js [Jo 65 (.load (some 5) (.t 7)),Jf 66 1 1,Jl 67 66,Jo 68 (Jc 90 [.t 65,.t 67]),Jo 69 (.un .not (.t 68))] [1,6,58,59,60,69] (.cond (.t 69) (Js [Jm 70 6,Jm 2 70,Jo 3 (.mov (Jk 80))] [2,3] .ret) .skip)))) (.reg [Jo 71 (.bin .add (.t 60) (Jk 1)),Jm 60 71] [1,58,59,60]))))))) (Js [Jo 2 (.mov (Jk 0)),Jo 3 (.mov (Jk 0))] [2,3] .ret))))
def rs57:List RV:=[.t 2,.t 3]
theorem enter57:EnT Tryd.prog 57 72 ac57 rs57:=Ent pl57 mixed Tryd.func57
def ac59:ACode:=Js [Jo 1 (.box 88 0 (.t 0)),Jo 2 (.mov (.k .nilF))] [1] (Js [Jo 3 (.mov (.k (.fn (.func 93) [] [])))] [1,3] (.seq (Js [Jf 4 0 1,Jl 5 4] [1,3,5] (.block 0 (Js [Jo 7 (.bin .eql (.t 5) (Jk 2)),Jm 6 7] [1,3,5,6] (.cond (.t 6) (Js [Jm 8 3,Jo 9 (.call (.t 8) [.k (.fn (.func 95) [] [])]),Jm 2 9] [2] .ret) (Js [Jo 11 (.bin .eql (.t 5) (Jk 3)),Jm 10 11] [1,3,5,10] (.cond (.t 10) (Js [Jm 12 3,Jo 13 (.call (.t 12) [.k (.fn (.func 13) [] [])]),Jm 2 13] [2] .ret) (Js [Jo 15 (.bin .eql (.t 5) (Jk 4)),Jm 14 15] [1,3,5,14] (.cond (.t 14) (Js [Jm 16 3,Jo 17 (.call (.t 16) [.k (.fn (.func 97) [] [])]),Jm 2 17] [2] .ret) (Js [Jo 19 (.bin .eql (.t 5) (Jk 5)),Jm 18 19] [1,3,5,18] (.cond (.t 18) (Js [Jm 20 3,Jo 21 (.mkF (.func 98) [] [.t 1]),Jo 22 (.call (.t 20) [.t 21]),Jm 2 22] [2] .ret) (Js [Jo 24 (.bin .eql (.t 5) (Jk 6)),Jm 23 24] [1,3,5,23] (.cond (.t 23) (Js [Jo 25 (.mkF (.func 100) [] [.t 1]),Jm 2 25] [2] .ret) (Js [Jo 27 (.bin .eql (.t 5) (Jk 7)),Jm 26 27] [1,3,5,26] (.cond (.t 26) (Js [Jm 28 3,Jo 29 (.mkF (.func 102) [] [.t 1]),Jo 30 (.call (.t 28) [.t 29]),Jm 2 30] [2] .ret) (Js [Jo 32 (.bin .eql (.t 5) (Jk 8)),Jm 31 32] [1,3,31] (.cond (.t 31) (Js [Jo 33 (.mkF (.func 104) [] [.t 1]),Jm 2 33] [2] .ret) .skip)))))))))))))))) (Js [Jm 34 3,Jo 35 (.call (.t 34) [.k (.fn (.func 106) [] [])]),Jm 2 35] [2] .ret)))
def rs59:List RV:=[.t 2]
theorem enter59:EnT Tryd.prog 59 36 ac59 rs59:=Ent pl59 mixed Tryd.func59
def ac67:ACode:=Js [Jo 2 (.box 25 0 (.t 0)),Jo 4 (.mov (Jk 0))] [1,2] (Js [Jo 8 (.load (some 4) (.t 2)),Jo 9 (Jc 57 [.t 8]),Jm 7 9,Je 10 7 0,Je 11 7 1,Jm 5 10,Jm 6 11] [1,2,6] (.seq (.block 0 (Js [Jm 13 6,Jo 14 (.bin .neq (.t 13) (Jk 0)),Jm 12 14] [1,2,6,12] (.cond (.t 12) (Js [Jm 15 6,Jm 4 15] [4] .ret) (Js [Jm 17 1,Jf 18 0 2,Jl 19 18,Jb 20 .neq 17 19,Jm 16 20] [16] (.cond (.t 16) (Js [Jo 4 (.mov (Jk 5))] [4] .ret) .skip))))) (Js [Jo 4 (.mov (Jk 0))] [4] .ret)))
def rs67:List RV:=[.t 4]
theorem enter67:EnT Tryd.prog 67 21 ac67 rs67:=Ent pl67 mixed Tryd.func67
def ac71:ACode:=Js [Jo 2 (.box 25 0 (.t 0)),Jo 4 (.mov (.k (.seq 0 [] true))),Jo 5 (.mov (Jk 0))] [1,2] (.seq (Js [Jo 10 (.load (some 4) (.t 2)),Jm 11 1,Jv 12 11,Jo 13 (Jc 67 [.t 10,.t 12]),Jm 6 13] [1,2,6] (Js [Jm 14 6,Jo 15 (.bin .neq (.t 14) (Jk 0))] [1,2,6,15] (.cond (.t 15) (Js [Jm 16 6,Jo 4 (.mov (.k (.seq 0 [] true))),Jm 5 16] [4,5] .ret) .skip))) (Js [Jm 17 1,Jo 18 (.idxA 1 (.t 17) (Jk 0)),Jl 19 18,Jv 20 19,Jm 7 20] [1,2,7] (Js [Jf 21 1 2,Jl 22 21,Jo 23 (.mks 31 1 24 [.seq 0 [] true] (.t 22) (.t 22)),Jm 8 23] [1,7,8] (.seq (Js [Jm 24 8,Jv 25 24,Jo 26 (.mov (Jk 0))] [1,7,8,25,26] (.block 0 (.loop (Js [Jb 27 .lss 26 25] [1,7,8,25,26,27] (.seq (.cond (.t 27) .skip (.exit 0)) (.seq (.block 1 (Js [Jm 28 26,Jm 9 28] [1,7,8,9,25,26] (Js [Jm 29 8,Jm 30 9,Jm 31 7,Jo 32 (.mks 34 2 32 [.bool false,.seq 0 [] true] (.t 31) (.t 31)),Ji 33 1 29 30,⟨none,none,.store 1 (.t 33) (.t 32)⟩] [1,7,8,9,25,26] (Js [Jm 34 9,Jm 35 1,Jv 36 35,Jb 37 .lss 34 36] [1,7,8,9,25,26,37] (.cond (.t 37) (.seq (Js [Jm 38 1,Jm 39 9,Ji 40 1 38 39,Jl 41 40,Jv 42 41,Jm 43 7,Jb 44 .neq 42 43,Jm 45 44,⟨some 46,some (45,false),.mov (.t 7)⟩,⟨some 47,some (45,false),.bin .gtr (.t 46) (Jk 4096)⟩,Jo 48 (.pick (.t 45) (.k (.bool true)) (.t 47))] [1,7,8,9,25,26,48] (.cond (.t 48) (Js [Jo 4 (.mov (.k (.seq 0 [] true))),Jo 5 (.mov (Jk 5))] [4,5] .ret) .skip)) (.draw [Jm 49 8,Jm 50 9,Ji 51 1 49 50,Jl 52 51,Jm 53 1,Jm 54 9,Ji 55 1 53 54,Jl 56 55] [Jo 57 (.cpy 2 (.t 52) (.t 56))] [0,1,0,0,15,31,15,15] [1,7,8,25,26])) .skip))))) (.reg [Jo 58 (.bin .add (.t 26) (Jk 1)),Jm 26 58] [1,7,8,25,26]))))))) (Js [Jm 59 8,Jm 4 59,Jo 5 (.mov (Jk 0))] [4,5] .ret)))))
def rs71:List RV:=[.t 4,.t 5]
theorem enter71:EnT Tryd.prog 71 60 ac71 rs71:=Ent pl71 mixed Tryd.func71
def ac72:ACode:=Js [Jo 4 (.box 133 0 (.t 0)),Jo 5 (.box 25 0 (.t 1)),Jo 8 (.mov (Jk 0))] [2,3,4,5] (.scope0 (.seq .skip (.seq (Js [Jf 13 2 5,Jl 14 13,Jv 15 14,Jo 16 (.mov (Jk 0))] [2,3,4,14,15,16] (.block 0 (.loop (Js [Jb 17 .lss 16 15] [2,3,4,14,15,16,17] (.seq (.cond (.t 17) .skip (.exit 0)) (.seq (.block 1 (Js [Jm 18 16,Ji 19 5 14 16,Jo 20 (.load (some 5) (.t 19)),Jo 10 (.alloc 88 0 [Jn 0,Jn 0,Jn 0,Jn 0,Jn 0]),Jm 9 18,⟨none,none,.store 5 (.t 10) (.t 20)⟩] [2,3,4,9,10,14,15,16] (Js [Jo 22 (.load (some 5) (.t 4)),Jm 23 2,Jo 24 (.load (some 5) (.t 10)),Jo 25 (Jc 113 [.t 22,.t 23,.t 24]),Jm 21 25,Je 26 21 0,Je 27 21 1,Jm 11 26,Jm 12 27] [2,3,4,9,10,11,12,14,15,16] (.seq (Js [Jm 28 12,Jo 29 (.un .not (.t 28))] [2,3,4,9,10,11,14,15,16,29] (.cond (.t 29) (Js [Jm 30 9,Jm 8 30] [8] .ret) .skip)) (Js [Jm 31 2,Jf 32 1 10,Jl 33 32,Jm 34 11,Ji 35 1 31 33,⟨none,none,.store 1 (.t 35) (.t 34)⟩] [2,3,4,9,11,14,15,16] (Js [Jm 36 3,Jm 37 9,Jm 38 11,Jo 39 (.call (.t 36) [.t 37,.t 38]),Jo 40 (.un .not (.t 39))] [2,3,4,14,15,16,40] (.cond (.t 40) (.exit 0) .skip))))))) (.reg [Jo 41 (.bin .add (.t 16) (Jk 1)),Jm 16 41] [2,3,4,14,15,16]))))))) (Js [Jo 8 (.mov (.k (.int .i64 (-1))))] [8] .ret))))
def rs72:List RV:=[.t 8]
theorem enter72:EnT Tryd.prog 72 42 ac72 rs72:=Ent pl72 mixed Tryd.func72
def ac73:ACode:=Js [Jo 0 (.alloc 133 0 [.nilF,.nilF,.nilF,.nilF,.nilF])] [0] (Js [Jo 1 (.build [.nilF,.nilF,.nilF,.nilF,.nilF] [(0,1,.k (.fn (.func 114) [] [])),(1,1,.k (.fn (.func 115) [] [])),(2,1,.k (.fn (.func 117) [] [])),(3,1,.k (.fn (.func 119) [] [])),(4,1,.k (.fn (.func 120) [] []))]),⟨none,none,.store 5 (.t 0) (.t 1)⟩] [0] .ret)
def rs73:List RV:=[.cell 0 (some 5)]
theorem enter73:EnT Tryd.prog 73 2 ac73 rs73:=Ent pl73 mixed Tryd.func73
def ac74:ACode:=Js [Jo 4 (.mov (.k (.bool false)))] [] (Js [Jo 4 (.mov (.k (.bool true)))] [4] .ret)
def rs74:List RV:=[.t 4]
theorem enter74:EnT Tryd.prog 74 5 ac74 rs74:=Ent pl74 mixed Tryd.func74
def ac76:ACode:=Js [Jo 2 (.mov (.k (.bool false)))] [0] (Js [Jm 3 0,Jo 4 (.bin .geq (.t 3) (.k (.int .i64 (-16)))),Jm 5 4,⟨some 6,some (5,true),.mov (.t 0)⟩,⟨some 7,some (5,true),.bin .leq (.t 6) (Jk 16)⟩,Jo 8 (.pick (.t 5) (.t 7) (.k (.bool false))),Jm 2 8] [2] .ret)
def rs76:List RV:=[.t 2]
theorem enter76:EnT Tryd.prog 76 9 ac76 rs76:=Ent pl76 mixed Tryd.func76
def ac77:ACode:=Js [Jo 4 (.mov (.k (.seq 0 [] true)))] [0,1] (Js [Jm 11 0,Jv 12 11,Jm 13 1,Jv 14 13,Jb 15 .add 12 14,Jo 16 (.mks 149 1 4 [.int .u32 ((0:Nat):Int)] (.t 15) (.t 15)),Jm 5 16] [0,1,5] (.seq (Js [Jm 17 0,Jv 18 17,Jo 19 (.mov (Jk 0))] [1,5,17,18,19] (.block 0 (.loop (Js [Jb 20 .lss 19 18] [1,5,17,18,19,20] (.seq (.cond (.t 20) .skip (.exit 0)) (.seq (.block 1 (Js [Jm 21 19,Ji 22 1 17 19,Jl 23 22,Jm 6 21,Jm 7 23] [1,5,6,7,17,18,19] (Js [Jo 8 (.mov (.k (.int .u64 ((0:Nat):Int))))] [1,5,6,7,8,17,18,19] (.seq (Js [Jm 24 1,Jv 25 24,Jo 26 (.mov (Jk 0))] [1,5,6,7,8,17,18,19,24,25,26] (.block 2 (.loop (Js [Jb 27 .lss 26 25] [1,5,6,7,8,17,18,19,24,25,26,27] (.seq (.cond (.t 27) .skip (.exit 2)) (.seq (.block 3 (Js [Jm 28 26,Ji 29 1 24 26,Jl 30 29,Jm 9 28,Jm 10 30] [1,5,6,7,8,9,10,17,18,19,24,25,26] (Js [Jm 31 8,Jm 32 7,Jo 33 (.conv .u64 (.t 32)),Jm 34 10,Jo 35 (.conv .u64 (.t 34)),Jb 36 .mul 33 35,Jm 37 5,Jm 38 6,Jm 39 9,Jb 40 .add 38 39,Ji 41 1 37 40,Jl 42 41,Jo 43 (.conv .u64 (.t 42)),Jb 44 .add 36 43,Jb 45 .add 31 44,Jm 8 45] [1,5,6,7,8,9,17,18,19,24,25,26] (Js [Jm 46 5,Jm 47 6,Jm 48 9,Jb 49 .add 47 48,Jm 50 8,Jo 51 (.conv .u32 (.t 50)),Ji 52 1 46 49,⟨none,none,.store 1 (.t 52) (.t 51)⟩] [1,5,6,7,8,17,18,19,24,25,26] (.reg [Jm 53 8,Jo 54 (.bin .shr (.t 53) (.k (.int .u64 ((32:Nat):Int)))),Jm 8 54] [1,5,6,7,8,17,18,19,24,25,26]))))) (.reg [Jo 55 (.bin .add (.t 26) (Jk 1)),Jm 26 55] [1,5,6,7,8,17,18,19,24,25,26]))))))) (.reg [Jm 56 5,Jm 57 6,Jm 58 1,Jv 59 58,Jb 60 .add 57 59,Jm 61 8,Jo 62 (.conv .u32 (.t 61)),Ji 63 1 56 60,⟨none,none,.store 1 (.t 63) (.t 62)⟩] [1,5,17,18,19]))))) (.reg [Jo 64 (.bin .add (.t 19) (Jk 1)),Jm 19 64] [1,5,17,18,19]))))))) (Js [Jm 65 5,Jo 66 (Jc 88 [.t 65]),Jm 4 66] [4] .ret)))
def rs77:List RV:=[.t 4]
theorem enter77:EnT Tryd.prog 77 67 ac77 rs77:=Ent pl77 mixed Tryd.func77
def ac78:ACode:=Js [Jo 2 (.box 73 0 (.t 0)),Jo 4 (.mov (.k (.seq 0 [] true))),Jo 5 (.mov (Jk 0))] [1,2] (.seq (Js [Jo 11 (.load (some 2) (.t 2)),Jo 12 (Jc 37 [.t 11]),Jo 13 (.un .not (.t 12)),Jm 14 13,⟨some 15,some (14,false),.mov (.t 1)⟩,⟨some 16,some (14,false),.bin .lss (.t 15) (Jk 0)⟩,Jo 17 (.pick (.t 14) (.k (.bool true)) (.t 16)),Jm 18 17,⟨some 19,some (18,false),.mov (.t 1)⟩,⟨some 20,some (18,false),.bin .gtr (.t 19) (Jk 16)⟩,Jo 21 (.pick (.t 18) (.k (.bool true)) (.t 20))] [1,2,21] (.cond (.t 21) (Js [Jo 4 (.mov (.k (.seq 0 [] true))),Jo 5 (.mov (Jk 2))] [4,5] .ret) .skip)) (Js [Jm 22 1,Jo 23 (.mks 34 2 32 [.bool false,.seq 0 [] true] (.t 22) (.t 22)),Jm 6 23] [1,2,6] (Js [Jo 24 (Jc 49 [Jk 1]),Jo 25 (Jc 49 [Jk 1]),Jo 7 (.alloc 34 0 [.bool false,.seq 0 [] true]),Jo 8 (.alloc 34 0 [.bool false,.seq 0 [] true]),⟨none,none,.store 2 (.t 7) (.t 24)⟩,⟨none,none,.store 2 (.t 8) (.t 25)⟩] [1,2,6,7,8] (.seq (Js [Jm 26 6,Jv 27 26,Jo 28 (.mov (Jk 0))] [1,2,6,7,8,27,28] (.block 0 (.loop (Js [Jb 29 .lss 28 27] [1,2,6,7,8,27,28,29] (.seq (.cond (.t 29) .skip (.exit 0)) (.seq (.block 1 (Js [Jm 30 28,Jm 9 30] [1,2,6,7,8,9,27,28] (Js [Jm 31 6,Jm 32 9,Jo 33 (.load (some 2) (.t 7)),Ji 34 2 31 32,⟨none,none,.store 2 (.t 34) (.t 33)⟩] [1,2,6,7,8,27,28] (.reg [Jo 35 (.load (some 2) (.t 7)),Jf 36 0 2,Jl 37 36,Jo 38 (Jc 99 [.t 35,.t 37]),⟨none,none,.store 2 (.t 7) (.t 38)⟩] [1,2,6,7,8,27,28])))) (.reg [Jo 39 (.bin .add (.t 28) (Jk 1)),Jm 28 39] [1,2,6,7,8,27,28]))))))) (.seq (Js [Jm 40 1,Jo 41 (.bin .sub (.t 40) (Jk 1)),Jm 10 41] [2,6,8,10] (.block 2 (.loop (.seq (Js [Jm 42 10,Jo 43 (.bin .geq (.t 42) (Jk 0))] [2,6,8,10,43] (.cond (.t 43) .skip (.exit 2))) (.seq (.block 3 (.seq (.draw [Jm 46 6,Jm 47 10,Jm 48 6,Jm 49 10,Ji 50 2 48 49,Jo 51 (.load (some 2) (.t 50)),Jo 52 (.load (some 2) (.t 8)),Jo 53 (Jc 39 [.t 51,.t 52])] [Ji 54 2 46 47,⟨none,none,.store 2 (.t 54) (.t 53)⟩] [0,1,3,7,3,3,63,3] [2,6,8,10]) (.reg [Jo 55 (.load (some 2) (.t 8)),Jf 56 1 2,Jl 57 56,Jo 58 (Jc 99 [.t 55,.t 57]),⟨none,none,.store 2 (.t 8) (.t 58)⟩] [2,6,8,10]))) (.reg [Jm 44 10,Jo 45 (.bin .sub (.t 44) (Jk 1)),Jm 10 45] [2,6,8,10])))))) (Js [Jm 59 6,Jm 4 59,Jo 5 (.mov (Jk 0))] [4,5] .ret))))))
def rs78:List RV:=[.t 4,.t 5]
theorem enter78:EnT Tryd.prog 78 60 ac78 rs78:=Ent pl78 mixed Tryd.func78
def ac79:ACode:=Js [Jo 2 (.mov (.k .nilF))] [0] (Js [Jm 4 0,Jo 5 (Jc 124 [.t 4]),Jo 3 (.alloc 9 0 [.str ⟨#[]⟩]),⟨none,none,.store 1 (.t 3) (.t 5)⟩] [3] (Js [Jo 6 (.mkF (.func 125) [] [.t 3]),Jm 2 6] [2] .ret))
def rs79:List RV:=[.t 2]
theorem enter79:EnT Tryd.prog 79 7 ac79 rs79:=Ent pl79 mixed Tryd.func79
def ac80:ACode:=Js [Jo 2 (.mov (.k (.bool false)))] [0] (.seq (Js [Jm 5 0,Jv 6 5,Jo 7 (.mov (Jk 0))] [0,5,6,7] (.block 0 (.loop (Js [Jb 8 .lss 7 6] [0,5,6,7,8] (.seq (.cond (.t 8) .skip (.exit 0)) (.seq (.block 1 (Js [Ji 9 2 5 7,Jo 10 (.load (some 2) (.t 9)),Jo 4 (.alloc 73 0 [Jn 0,Jn 0]),⟨none,none,.store 2 (.t 4) (.t 10)⟩] [0,4,5,6,7] (Js [Jo 11 (.load (some 2) (.t 4)),Jo 12 (Jc 37 [.t 11]),Jo 13 (.un .not (.t 12))] [0,5,6,7,13] (.cond (.t 13) (Js [Jo 2 (.mov (.k (.bool false)))] [2] .ret) .skip)))) (.reg [Jo 14 (.bin .add (.t 7) (Jk 1)),Jm 7 14] [0,5,6,7]))))))) (Js [Jm 15 0,Jv 16 15,Jo 17 (.bin .geq (.t 16) (Jk 1)),Jm 18 17,⟨some 19,some (18,true),.mov (.t 0)⟩,⟨some 20,some (18,true),.len false (.t 19)⟩,⟨some 21,some (18,true),.bin .leq (.t 20) (Jk 15)⟩,Jo 22 (.pick (.t 18) (.t 21) (.k (.bool false))),Jm 2 22] [2] .ret))
def rs80:List RV:=[.t 2]
theorem enter80:EnT Tryd.prog 80 23 ac80 rs80:=Ent pl80 mixed Tryd.func80
def ac81:ACode:=Js [Jo 2 (.mov (.k (.seq 0 [] true)))] [0] (Js [Jo 3 (.mov (.k (.seq 0 [] true)))] [0,3] (.seq (Js [Jm 6 0,Jo 7 (.mov (Jk 0))] [0,3,6,7] (.block 0 (.loop (Js [Jb 8 .lss 7 6] [0,3,6,7,8] (.seq (.cond (.t 8) .skip (.exit 0)) (.seq (.block 1 (Js [Jm 9 7,Jm 4 9] [0,3,4,6,7] (Js [Jm 10 0,Jo 11 (.mks 34 2 32 [.bool false,.seq 0 [] true] (.t 10) (.t 10)),Jm 5 11] [0,3,4,5,6,7] (Js [Jm 12 5,Jm 13 4,Jo 14 (Jc 49 [Jk 1]),Ji 15 2 12 13,⟨none,none,.store 2 (.t 15) (.t 14)⟩] [0,3,5,6,7] (.reg [Jm 16 3,Jm 17 5,Jo 18 (.bsl [.seq 0 [] true] 1 1 [(0,1,.t 17)]),Jo 19 (.app 31 1 24 (.t 16) (.t 18)),Jm 3 19] [0,3,6,7]))))) (.reg [Jo 20 (.bin .add (.t 7) (Jk 1)),Jm 7 20] [0,3,6,7]))))))) (Js [Jm 21 3,Jm 2 21] [2] .ret)))
def rs81:List RV:=[.t 2]
theorem enter81:EnT Tryd.prog 81 22 ac81 rs81:=Ent pl81 mixed Tryd.func81
def ac82:ACode:=Js [Jo 2 (.box 88 0 (.t 0))] [1,2] (Js [Jf 3 0 2,Jl 4 3,Jo 5 (.bin .neq (.t 4) (Jk 1)),Jm 6 5,⟨some 7,some (6,false),.fldA 1 (.t 2)⟩,⟨some 8,some (6,false),.load none (.t 7)⟩,⟨some 9,some (6,false),.fldA 2 (.t 2)⟩,⟨some 10,some (6,false),.load none (.t 9)⟩,⟨some 11,some (6,false),.bin .neq (.t 8) (.t 10)⟩,Jo 12 (.pick (.t 6) (.k (.bool true)) (.t 11))] [1,2,12] (.cond (.t 12) (.reg [Jf 13 2 1,Jl 14 13,Jo 15 (.load (some 5) (.t 2)),Jo 16 (.bsl [Jn 0,Jn 0,Jn 0,Jn 0,Jn 0] 1 5 [(0,5,.t 15)]),Jo 17 (.app 88 5 40 (.t 14) (.t 16)),Jf 18 2 1,⟨none,none,.store 1 (.t 18) (.t 17)⟩] []) .skip))
def rs82:List RV:=[]
theorem enter82:EnT Tryd.prog 82 19 ac82 rs82:=Ent pl82 mixed Tryd.func82
def ac83:ACode:=Js [Jm 9 3,Jo 10 (.mov (Jk 0))] [0,1,2,4,9,10] (.block 0 (.loop (Js [Jb 11 .lss 10 9] [0,1,2,4,9,10,11] (.seq (.cond (.t 11) .skip (.exit 0)) (.seq (.block 1 (.seq (.draw [Jl 12 4,Jm 13 0,Jm 14 1,Jm 15 2,Jo 16 (Jc 84 [.t 13,.t 14,.t 15])] [Jo 17 (.call (.t 12) [.t 16])] [0,1,3,7,1] [0,2,4,9,10]) (.reg [Jm 18 0,Jm 1 18] [0,1,2,4,9,10]))) (.reg [Jo 19 (.bin .add (.t 10) (Jk 1)),Jm 10 19] [0,1,2,4,9,10]))))))
def rs83:List RV:=[]
theorem enter83:EnT Tryd.prog 83 20 ac83 rs83:=Ent pl83 mixed Tryd.func83
def ac84:ACode:=Js [Jo 6 (.alloc 88 0 [Jn 0,Jn 0,Jn 0,Jn 0,Jn 0])] [0,1,2,6] (.seq (.block 0 (Js [Jm 8 2,Jo 9 (.bin .eql (.t 8) (Jk 1)),Jm 7 9] [0,1,2,6,7] (.cond (.t 7) (Js [Jm 10 0,Jm 11 1,Jo 12 (.build [Jn 0,Jn 0,Jn 0,Jn 0,Jn 0] [(0,1,Jk 1),(1,1,.t 10),(2,1,.t 11)]),⟨none,none,.store 5 (.t 6) (.t 12)⟩] [6] .ret) (Js [Jm 14 2,Jo 15 (.bin .eql (.t 14) (.k (.int .i64 (-1)))),Jm 13 15] [0,1,2,6,13] (.cond (.t 13) (Js [Jm 16 0,Jm 17 1,Jo 18 (.build [Jn 0,Jn 0,Jn 0,Jn 0,Jn 0] [(0,1,Jk 2),(1,1,.t 16),(2,1,.t 17)]),⟨none,none,.store 5 (.t 6) (.t 18)⟩] [6] .ret) (Js [Jm 20 2,Jo 21 (.bin .gtr (.t 20) (Jk 0)),Jm 22 21,⟨some 23,some (22,true),.mov (.t 2)⟩,⟨some 24,some (22,true),.mov (.t 2)⟩,⟨some 25,some (22,true),.bin .sub (.t 24) (Jk 1)⟩,⟨some 26,some (22,true),.bin .and (.t 23) (.t 25)⟩,⟨some 27,some (22,true),.bin .eql (.t 26) (Jk 0)⟩,Jo 28 (.pick (.t 22) (.t 27) (.k (.bool false))),Jm 19 28] [0,1,2,6,19] (.cond (.t 19) (Js [Jm 29 0,Jm 30 1,Jm 31 2,Jo 32 (.conv .u64 (.t 31)),Jo 33 (Jc 126 [.t 32]),Jo 34 (.build [Jn 0,Jn 0,Jn 0,Jn 0,Jn 0] [(0,1,Jk 7),(1,1,.t 29),(2,1,.t 30),(4,1,.t 33)]),⟨none,none,.store 5 (.t 6) (.t 34)⟩] [6] .ret) .skip))))))) (Js [Jm 35 0,Jm 36 1,Jm 37 2,Jo 38 (.build [Jn 0,Jn 0,Jn 0,Jn 0,Jn 0] [(0,1,Jk 5),(1,1,.t 35),(2,1,.t 36),(4,1,.t 37)]),⟨none,none,.store 5 (.t 6) (.t 38)⟩] [6] .ret))
def rs84:List RV:=[.cell 6 (some 5)]
theorem enter84:EnT Tryd.prog 84 39 ac84 rs84:=Ent pl84 mixed Tryd.func84
def ac85:ACode:=Js [Jo 4 (.alloc 34 0 [.bool false,.seq 0 [] true])] [0,1,4] (Js [Jm 5 0,Jm 6 1,Jo 7 (Jc 127 [.t 6]),Jo 8 (Jc 51 [.t 5,.t 7]),⟨none,none,.store 2 (.t 4) (.t 8)⟩] [4] .ret)
def rs85:List RV:=[.cell 4 (some 2)]
theorem enter85:EnT Tryd.prog 85 9 ac85 rs85:=Ent pl85 mixed Tryd.func85
def ac87:ACode:=Js [Jo 1 (.box 34 0 (.t 0)),Jo 2 (.mov (Jk 0))] [1] (.seq (.block 0 (Js [Jf 4 1 1,Jl 5 4,Jv 6 5,Jo 7 (.bin .eql (.t 6) (Jk 0)),Jm 3 7] [1,3] (.cond (.t 3) (Js [Jo 2 (.mov (Jk 0))] [2] .ret) (Js [Jf 9 0 1,Jl 10 9,Jm 8 10] [8] (.cond (.t 8) (Js [Jo 2 (.mov (.k (.int .i64 (-1))))] [2] .ret) .skip))))) (Js [Jo 2 (.mov (Jk 1))] [2] .ret))
def rs87:List RV:=[.t 2]
theorem enter87:EnT Tryd.prog 87 11 ac87 rs87:=Ent pl87 mixed Tryd.func87
def ac88:ACode:=Js [Jo 2 (.mov (.k (.seq 0 [] true)))] [0] (Js [Jm 4 0,Jv 5 4,Jm 3 5] [0,3] (.seq (.block 0 (.loop (.seq (Js [Jm 6 3,Jo 7 (.bin .gtr (.t 6) (Jk 0)),Jm 8 7,⟨some 9,some (8,true),.mov (.t 0)⟩,⟨some 10,some (8,true),.mov (.t 3)⟩,⟨some 11,some (8,true),.bin .sub (.t 10) (Jk 1)⟩,⟨some 12,some (8,true),.idxA 1 (.t 9) (.t 11)⟩,⟨some 13,some (8,true),.load none (.t 12)⟩,⟨some 14,some (8,true),.bin .eql (.t 13) (.k (.int .u32 ((0:Nat):Int)))⟩,Jo 15 (.pick (.t 8) (.t 14) (.k (.bool false)))] [0,3,15] (.cond (.t 15) .skip (.exit 0))) (.block 1 (.reg [Jm 16 3,Jo 17 (.bin .sub (.t 16) (Jk 1)),Jm 3 17] [0,3]))))) (Js [Jm 18 0,Jm 19 3,Jm 20 3,Jo 21 (.slc 1 (.t 18) none (some (.t 19)) (some (.t 20))),Jm 2 21] [2] .ret)))
def rs88:List RV:=[.t 2]
theorem enter88:EnT Tryd.prog 88 22 ac88 rs88:=Ent pl88 mixed Tryd.func88
def ac90:ACode:=Js [Jo 2 (.box 88 0 (.t 0)),Jo 4 (.mov (.k (.bool false)))] [1,2] (.seq (Js [Jf 7 0 2,Jl 8 7,Jo 9 (.bin .lss (.t 8) (Jk 1)),Jm 10 9,⟨some 11,some (10,false),.fldA 0 (.t 2)⟩,⟨some 12,some (10,false),.load none (.t 11)⟩,⟨some 13,some (10,false),.bin .gtr (.t 12) (Jk 8)⟩,Jo 14 (.pick (.t 10) (.k (.bool true)) (.t 13)),Jm 15 14,⟨some 16,some (15,false),.fldA 1 (.t 2)⟩,⟨some 17,some (15,false),.load none (.t 16)⟩,⟨some 18,some (15,false),.bin .lss (.t 17) (Jk 0)⟩,Jo 19 (.pick (.t 15) (.k (.bool true)) (.t 18)),Jm 20 19,⟨some 21,some (20,false),.fldA 1 (.t 2)⟩,⟨some 22,some (20,false),.load none (.t 21)⟩,⟨some 23,some (20,false),.mov (.t 1)⟩,⟨some 24,some (20,false),.bin .geq (.t 22) (.t 23)⟩,Jo 25 (.pick (.t 20) (.k (.bool true)) (.t 24)),Jm 26 25,⟨some 27,some (26,false),.fldA 0 (.t 2)⟩,⟨some 28,some (26,false),.load none (.t 27)⟩,⟨some 29,some (26,false),Jc 129 [.t 28]⟩,⟨some 30,some (26,false),.un .not (.t 29)⟩,⟨some 31,some (26,false),.mov (.t 30)⟩,⟨some 32,some (31,true),.fldA 3 (.t 2)⟩,⟨some 33,some (31,true),.load none (.t 32)⟩,⟨some 34,some (31,true),.bin .neq (.t 33) (Jk 0)⟩,⟨some 35,some (26,false),.pick (.t 31) (.t 34) (.k (.bool false))⟩,Jo 36 (.pick (.t 26) (.k (.bool true)) (.t 35)),Jm 37 36,⟨some 38,some (37,false),.load (some 5) (.t 2)⟩,⟨some 39,some (37,false),Jc 130 [.t 38]⟩,⟨some 40,some (37,false),.un .not (.t 39)⟩,Jo 41 (.pick (.t 37) (.k (.bool true)) (.t 40))] [1,2,41] (.cond (.t 41) (Js [Jo 4 (.mov (.k (.bool false)))] [4] .ret) .skip)) (.seq (Js [Jo 42 (.load (some 5) (.t 2)),Jo 43 (Jc 131 [.t 42]),Jv 44 43,Jo 45 (.mov (Jk 0))] [1,43,44,45] (.block 0 (.loop (Js [Jb 46 .lss 45 44] [1,43,44,45,46] (.seq (.cond (.t 46) .skip (.exit 0)) (.seq (.block 1 (Js [Ji 47 1 43 45,Jl 48 47,Jm 6 48] [1,6,43,44,45] (Js [Jm 49 6,Jo 50 (.bin .lss (.t 49) (Jk 0)),Jm 51 50,⟨some 52,some (51,false),.mov (.t 6)⟩,⟨some 53,some (51,false),.mov (.t 1)⟩,⟨some 54,some (51,false),.bin .geq (.t 52) (.t 53)⟩,Jo 55 (.pick (.t 51) (.k (.bool true)) (.t 54))] [1,43,44,45,55] (.cond (.t 55) (Js [Jo 4 (.mov (.k (.bool false)))] [4] .ret) .skip)))) (.reg [Jo 56 (.bin .add (.t 45) (Jk 1)),Jm 45 56] [1,43,44,45]))))))) (Js [Jo 4 (.mov (.k (.bool true)))] [4] .ret)))
def rs90:List RV:=[.t 4]
theorem enter90:EnT Tryd.prog 90 57 ac90 rs90:=Ent pl90 mixed Tryd.func90
def ac93:ACode:=Js [Jo 1 (.box 122 0 (.t 0)),Jo 2 (.mov (.k .nilF))] [1] (Js [Jo 3 (.mkF (.func 94) [] [.t 1]),Jm 2 3] [2] .ret)
def rs93:List RV:=[.t 2]
theorem enter93:EnT Tryd.prog 93 4 ac93 rs93:=Ent pl93 mixed Tryd.func93
def ac94:ACode:=Js [Jo 3 (.box 34 0 (.t 0)),Jo 4 (.box 34 0 (.t 1)),Jo 5 (.alloc 34 0 [.bool false,.seq 0 [] true]),Jo 6 (.mov (.k (.bool false)))] [2,3,4,5] (Js [Jl 7 2,Jo 8 (.load (some 2) (.t 3)),Jo 9 (.load (some 2) (.t 4)),Jo 10 (.call (.t 7) [.t 8,.t 9]),⟨none,none,.store 2 (.t 5) (.t 10)⟩,Jo 6 (.mov (.k (.bool true)))] [5,6] .ret)
def rs94:List RV:=[.cell 5 (some 2),.t 6]
theorem enter94:EnT Tryd.prog 94 11 ac94 rs94:=Ent pl94 mixed Tryd.func94
def ac95:ACode:=Js [Jo 2 (.box 34 0 (.t 0)),Jo 3 (.box 34 0 (.t 1)),Jo 4 (.alloc 34 0 [.bool false,.seq 0 [] true])] [2,4] (Js [Jo 5 (.load (some 2) (.t 2)),Jo 6 (Jc 96 [.t 5]),⟨none,none,.store 2 (.t 4) (.t 6)⟩] [4] .ret)
def rs95:List RV:=[.cell 4 (some 2)]
theorem enter95:EnT Tryd.prog 95 7 ac95 rs95:=Ent pl95 mixed Tryd.func95
def ac96:ACode:=Js [Jo 1 (.box 34 0 (.t 0)),Jo 2 (.alloc 34 0 [.bool false,.seq 0 [] true])] [1,2] (Js [Jf 3 0 1,Jl 4 3,Jo 5 (.un .not (.t 4)),Jf 6 1 1,Jl 7 6,Jo 8 (Jc 51 [.t 5,.t 7]),⟨none,none,.store 2 (.t 2) (.t 8)⟩] [2] .ret)
def rs96:List RV:=[.cell 2 (some 2)]
theorem enter96:EnT Tryd.prog 96 9 ac96 rs96:=Ent pl96 mixed Tryd.func96
def ac97:ACode:=Js [Jo 2 (.box 34 0 (.t 0)),Jo 3 (.box 34 0 (.t 1)),Jo 4 (.alloc 34 0 [.bool false,.seq 0 [] true])] [2,3,4] (.seq (.draw [Jo 5 (.load (some 2) (.t 2)),Jo 6 (.load (some 2) (.t 3)),Jo 7 (Jc 96 [.t 6])] [Jo 8 (Jc 13 [.t 5,.t 7]),⟨none,none,.store 2 (.t 4) (.t 8)⟩] [0,1,1] [4]) .ret)
def rs97:List RV:=[.cell 4 (some 2)]
theorem enter97:EnT Tryd.prog 97 9 ac97 rs97:=Ent pl97 mixed Tryd.func97
def ac98:ACode:=Js [Jo 3 (.box 34 0 (.t 0)),Jo 4 (.box 34 0 (.t 1)),Jo 5 (.alloc 34 0 [.bool false,.seq 0 [] true])] [2,3,5] (Js [Jo 6 (.load (some 2) (.t 3)),Jf 7 4 2,Jl 8 7,Jo 9 (Jc 99 [.t 6,.t 8]),⟨none,none,.store 2 (.t 5) (.t 9)⟩] [5] .ret)
def rs98:List RV:=[.cell 5 (some 2)]
theorem enter98:EnT Tryd.prog 98 10 ac98 rs98:=Ent pl98 mixed Tryd.func98
def ac99:ACode:=Js [Jo 2 (.box 34 0 (.t 0)),Jo 4 (.alloc 34 0 [.bool false,.seq 0 [] true])] [1,2,4] (.seq (.draw [Jo 5 (.load (some 2) (.t 2)),Jm 6 1,Jo 7 (Jc 49 [.t 6])] [Jo 8 (Jc 39 [.t 5,.t 7]),⟨none,none,.store 2 (.t 4) (.t 8)⟩] [0,1,1] [4]) .ret)
def rs99:List RV:=[.cell 4 (some 2)]
theorem enter99:EnT Tryd.prog 99 9 ac99 rs99:=Ent pl99 mixed Tryd.func99
def ac100:ACode:=Js [Jo 3 (.box 34 0 (.t 0)),Jo 4 (.box 34 0 (.t 1)),Jo 5 (.alloc 34 0 [.bool false,.seq 0 [] true]),Jo 6 (.mov (.k (.bool false)))] [2,3,5] (Js [Jo 10 (.load (some 2) (.t 3)),Jf 11 4 2,Jl 12 11,Jo 13 (Jc 101 [.t 10,.t 12]),Jm 9 13,Je 14 9 0,Je 15 9 1,Jo 7 (.alloc 34 0 [.bool false,.seq 0 [] true]),⟨none,none,.store 2 (.t 7) (.t 14)⟩,Jm 8 15] [5,7,8] (Js [Jo 16 (.load (some 2) (.t 7)),Jm 17 8,Jo 18 (.bin .eql (.t 17) (Jk 0)),⟨none,none,.store 2 (.t 5) (.t 16)⟩,Jm 6 18] [5,6] .ret))
def rs100:List RV:=[.cell 5 (some 2),.t 6]
theorem enter100:EnT Tryd.prog 100 19 ac100 rs100:=Ent pl100 mixed Tryd.func100
def ac101:ACode:=Js [Jo 2 (.box 34 0 (.t 0)),Jo 4 (.alloc 34 0 [.bool false,.seq 0 [] true]),Jo 5 (.mov (Jk 0))] [1,2,4] (Js [Jm 10 1,Jo 11 (Jc 49 [.t 10]),Jo 6 (.alloc 34 0 [.bool false,.seq 0 [] true]),⟨none,none,.store 2 (.t 6) (.t 11)⟩] [2,4,6] (Js [Jf 13 1 2,Jl 14 13,Jf 15 1 6,Jl 16 15,Jo 17 (Jc 132 [.t 14,.t 16]),Jm 12 17,Je 18 12 0,Je 19 12 1,Je 20 12 2,Jm 7 18,Jm 8 19,Jm 9 20] [2,4,6,7,8,9] (.seq (.block 0 (Js [Jm 22 9,Jo 23 (.bin .neq (.t 22) (Jk 0)),Jm 21 23] [2,4,6,7,8,21] (.cond (.t 21) (Js [Jo 24 (.build [.bool false,.seq 0 [] true] []),⟨none,none,.store 2 (.t 4) (.t 24)⟩,Jo 5 (.mov (Jk 2))] [4,5] .ret) (Js [Jm 26 8,Jv 27 26,Jo 28 (.bin .gtr (.t 27) (Jk 0)),Jm 25 28] [2,4,6,7,25] (.cond (.t 25) (Js [Jo 29 (.build [.bool false,.seq 0 [] true] []),⟨none,none,.store 2 (.t 4) (.t 29)⟩,Jo 5 (.mov (Jk 20))] [4,5] .ret) .skip))))) (Js [Jf 30 0 2,Jl 31 30,Jf 32 0 6,Jl 33 32,Jo 34 (.binB .neq (.t 31) (.t 33)),Jm 35 7,Jo 36 (Jc 51 [.t 34,.t 35]),⟨none,none,.store 2 (.t 4) (.t 36)⟩,Jo 5 (.mov (Jk 0))] [4,5] .ret))))
def rs101:List RV:=[.cell 4 (some 2),.t 5]
theorem enter101:EnT Tryd.prog 101 37 ac101 rs101:=Ent pl101 mixed Tryd.func101
def ac102:ACode:=Js [Jo 3 (.box 34 0 (.t 0)),Jo 4 (.box 34 0 (.t 1)),Jo 5 (.alloc 34 0 [.bool false,.seq 0 [] true])] [2,3,5] (Js [Jo 9 (.load (some 2) (.t 3)),Jf 10 4 2,Jl 11 10,Jo 12 (Jc 103 [.t 9,.t 11]),Jm 8 12,Je 13 8 0,Je 14 8 1,Jo 6 (.alloc 34 0 [.bool false,.seq 0 [] true]),⟨none,none,.store 2 (.t 6) (.t 13)⟩,Jm 7 14] [5,6] (Js [Jo 15 (.load (some 2) (.t 6)),⟨none,none,.store 2 (.t 5) (.t 15)⟩] [5] .ret))
def rs102:List RV:=[.cell 5 (some 2)]
theorem enter102:EnT Tryd.prog 102 16 ac102 rs102:=Ent pl102 mixed Tryd.func102
def ac103:ACode:=Js [Jo 2 (.box 34 0 (.t 0)),Jo 4 (.alloc 34 0 [.bool false,.seq 0 [] true]),Jo 5 (.mov (Jk 0))] [1,2,4] (Js [Jf 9 1 2,Jl 10 9,Jm 11 1,Jo 12 (Jc 133 [.t 10,.t 11]),Jm 8 12,Je 13 8 0,Je 14 8 1,Jm 6 13,Jm 7 14] [2,4,6,7] (.seq (Js [Jm 15 7,Jo 16 (.bin .neq (.t 15) (Jk 0))] [2,4,6,7,16] (.cond (.t 16) (Js [Jo 17 (.build [.bool false,.seq 0 [] true] []),Jm 18 7,⟨none,none,.store 2 (.t 4) (.t 17)⟩,Jm 5 18] [4,5] .ret) .skip)) (Js [Jf 19 0 2,Jl 20 19,Jm 21 6,Jo 22 (Jc 51 [.t 20,.t 21]),⟨none,none,.store 2 (.t 4) (.t 22)⟩,Jo 5 (.mov (Jk 0))] [4,5] .ret)))
def rs103:List RV:=[.cell 4 (some 2),.t 5]
theorem enter103:EnT Tryd.prog 103 23 ac103 rs103:=Ent pl103 mixed Tryd.func103
def ac104:ACode:=Js [Jo 3 (.box 34 0 (.t 0)),Jo 4 (.box 34 0 (.t 1)),Jo 5 (.alloc 34 0 [.bool false,.seq 0 [] true]),Jo 6 (.mov (.k (.bool false)))] [2,3,5] (Js [Jo 10 (.load (some 2) (.t 3)),Jf 11 4 2,Jl 12 11,Jo 13 (Jc 105 [.t 10,.t 12]),Jm 9 13,Je 14 9 0,Je 15 9 1,Jo 7 (.alloc 34 0 [.bool false,.seq 0 [] true]),⟨none,none,.store 2 (.t 7) (.t 14)⟩,Jm 8 15] [5,7,8] (Js [Jo 16 (.load (some 2) (.t 7)),Jm 17 8,Jo 18 (.bin .eql (.t 17) (Jk 0)),⟨none,none,.store 2 (.t 5) (.t 16)⟩,Jm 6 18] [5,6] .ret))
def rs104:List RV:=[.cell 5 (some 2),.t 6]
theorem enter104:EnT Tryd.prog 104 19 ac104 rs104:=Ent pl104 mixed Tryd.func104
def ac105:ACode:=Js [Jo 2 (.box 34 0 (.t 0)),Jo 4 (.alloc 34 0 [.bool false,.seq 0 [] true]),Jo 5 (.mov (Jk 0))] [1,2,4] (.seq (.block 0 (Js [Jm 9 1,Jo 10 (.bin .lss (.t 9) (Jk 0)),Jm 8 10] [1,2,4,8] (.cond (.t 8) (Js [Jo 11 (.build [.bool false,.seq 0 [] true] []),⟨none,none,.store 2 (.t 4) (.t 11)⟩,Jo 5 (.mov (Jk 2))] [4,5] .ret) (Js [Jo 13 (.load (some 2) (.t 2)),Jo 14 (Jc 87 [.t 13]),Jo 15 (.bin .eql (.t 14) (Jk 0)),Jm 12 15] [1,2,4,12] (.cond (.t 12) (Js [Jo 16 (.build [.bool false,.seq 0 [] true] []),⟨none,none,.store 2 (.t 4) (.t 16)⟩,Jo 5 (.mov (Jk 0))] [4,5] .ret) (Js [Jo 18 (.load (some 2) (.t 2)),Jo 19 (Jc 134 [.t 18]),Jm 20 1,Jb 21 .lss 19 20,Jm 17 21] [1,2,4,17] (.cond (.t 17) (Js [Jo 22 (.build [.bool false,.seq 0 [] true] []),⟨none,none,.store 2 (.t 4) (.t 22)⟩,Jo 5 (.mov (Jk 20))] [4,5] .ret) .skip))))))) (Js [Jf 24 1 2,Jl 25 24,Jm 26 1,Jo 27 (Jc 135 [.t 25,.t 26]),Jm 23 27,Je 28 23 0,Je 29 23 1,Jm 6 28,Jm 7 29] [2,4,6] (Js [Jf 30 0 2,Jl 31 30,Jm 32 6,Jo 33 (Jc 51 [.t 31,.t 32]),⟨none,none,.store 2 (.t 4) (.t 33)⟩,Jo 5 (.mov (Jk 0))] [4,5] .ret)))
def rs105:List RV:=[.cell 4 (some 2),.t 5]
theorem enter105:EnT Tryd.prog 105 34 ac105 rs105:=Ent pl105 mixed Tryd.func105
def ac106:ACode:=Js [Jo 2 (.box 34 0 (.t 0)),Jo 3 (.box 34 0 (.t 1)),Jo 4 (.alloc 34 0 [.bool false,.seq 0 [] true])] [2,4] (Js [Jo 5 (.load (some 2) (.t 2)),⟨none,none,.store 2 (.t 4) (.t 5)⟩] [4] .ret)
def rs106:List RV:=[.cell 4 (some 2)]
theorem enter106:EnT Tryd.prog 106 6 ac106 rs106:=Ent pl106 mixed Tryd.func106
def ac112:ACode:=Js [Jo 2 (.box 34 0 (.t 0)),Jo 3 (.box 34 0 (.t 1)),Jo 4 (.alloc 34 0 [.bool false,.seq 0 [] true]),Jo 5 (.alloc 34 0 [.bool false,.seq 0 [] true]),Jo 6 (.mov (Jk 0))] [2,3,4,5] (Js [Jf 13 1 2,Jl 14 13,Jf 15 1 3,Jl 16 15,Jo 17 (Jc 132 [.t 14,.t 16]),Jm 12 17,Je 18 12 0,Je 19 12 1,Je 20 12 2,Jm 7 18,Jm 8 19,Jm 9 20] [2,3,4,5,7,8,9] (.seq (Js [Jm 21 9,Jo 22 (.bin .neq (.t 21) (Jk 0))] [2,3,4,5,7,8,22] (.cond (.t 22) (Js [Jo 23 (.build [.bool false,.seq 0 [] true] []),Jo 24 (.build [.bool false,.seq 0 [] true] []),⟨none,none,.store 2 (.t 4) (.t 23)⟩,⟨none,none,.store 2 (.t 5) (.t 24)⟩,Jo 6 (.mov (Jk 2))] [4,5,6] .ret) .skip)) (.seq (.draw [Jf 25 0 2,Jl 26 25,Jf 27 0 3,Jl 28 27,Jo 29 (.binB .neq (.t 26) (.t 28)),Jm 30 7,Jo 31 (Jc 51 [.t 29,.t 30]),Jf 32 0 2,Jl 33 32,Jm 34 8,Jo 35 (Jc 51 [.t 33,.t 34]),Jo 10 (.alloc 34 0 [.bool false,.seq 0 [] true]),Jo 11 (.alloc 34 0 [.bool false,.seq 0 [] true])] [⟨none,none,.store 2 (.t 10) (.t 31)⟩,⟨none,none,.store 2 (.t 11) (.t 35)⟩] [0,0,3,3,0,31,0,127,127,511,0,2047,4095] [3,4,5,10,11]) (.seq (Js [Jf 36 0 11,Jl 37 36] [3,4,5,10,11,37] (.cond (.t 37) (.seq (.draw [Jo 38 (.load (some 2) (.t 11)),Jo 39 (.load (some 2) (.t 3)),Jo 40 (Jc 144 [.t 39])] [Jo 41 (Jc 13 [.t 38,.t 40]),⟨none,none,.store 2 (.t 11) (.t 41)⟩] [0,1,1] [3,4,5,10,11]) (.draw [Jo 42 (.load (some 2) (.t 10)),Jo 43 (.load (some 2) (.t 3)),Jo 44 (Jc 87 [.t 43]),Jo 45 (Jc 49 [.t 44])] [Jo 46 (Jc 97 [.t 42,.t 45]),⟨none,none,.store 2 (.t 10) (.t 46)⟩] [0,1,1,1] [4,5,10,11])) .skip)) (.seq (.draw [Jo 47 (.load (some 2) (.t 10)),Jo 48 (.load (some 2) (.t 11)),⟨none,none,.store 2 (.t 4) (.t 47)⟩] [⟨none,none,.store 2 (.t 5) (.t 48)⟩,Jo 6 (.mov (Jk 0))] [0,1,2] [4,5,6]) .ret)))))
def rs112:List RV:=[.cell 4 (some 2),.cell 5 (some 2),.t 6]
theorem enter112:EnT Tryd.prog 112 49 ac112 rs112:=Ent pl112 mixed Tryd.func112
def ac113:ACode:=Js [Jo 3 (.box 133 0 (.t 0)),Jo 5 (.box 88 0 (.t 2)),Jo 6 (.mov (.k (.seq 0 [] true))),Jo 7 (.mov (.k (.bool false)))] [1,3,5] (.seq (.draw [Jm 10 1,Jf 11 2 5,Jl 12 11,Ji 13 1 10 12,Jl 14 13,Jm 15 1,Jf 16 3 5,Jl 17 16,Ji 18 1 15 17,Jl 19 18,Jm 8 14] [Jm 9 19] [0,1,1,0,0,31,63,63,31,31,992] [3,5,8,9]) (.seq (Js [Jf 20 0 5,Jl 21 20] [3,5,8,9,21] (.block 0 (Js [Jo 23 (.bin .eql (.t 21) (Jk 2)),Jm 22 23] [3,5,8,9,21,22] (.cond (.t 22) (Js [Jf 24 0 3,Jl 25 24,Jm 26 8,Jo 27 (.call (.t 25) [.t 26]),Jm 6 27,Jo 7 (.mov (.k (.bool true)))] [6,7] .ret) (Js [Jo 29 (.bin .eql (.t 21) (Jk 3)),Jm 28 29] [3,5,8,9,21,28] (.cond (.t 28) (Js [Jf 30 1 3,Jl 31 30,Jm 32 8,Jm 33 9,Jo 34 (.call (.t 31) [.t 32,.t 33]),Jm 6 34,Jo 7 (.mov (.k (.bool true)))] [6,7] .ret) (Js [Jo 36 (.bin .eql (.t 21) (Jk 4)),Jm 35 36] [3,5,8,9,21,35] (.cond (.t 35) (Js [Jf 37 2 3,Jl 38 37,Jm 39 8,Jm 40 9,Jo 41 (.call (.t 38) [.t 39,.t 40]),Jm 6 41,Jo 7 (.mov (.k (.bool true)))] [6,7] .ret) (Js [Jo 43 (.bin .eql (.t 21) (Jk 5)),Jm 42 43] [3,5,8,21,42] (.cond (.t 42) (.seq (.draw [Jf 44 3 3,Jl 45 44,Jm 46 8,Jf 47 4 5,Jl 48 47,Jo 49 (Jc 49 [.t 48])] [Jo 50 (.call (.t 45) [.t 46,.t 49]),Jm 6 50,Jo 7 (.mov (.k (.bool true)))] [0,0,3,7,7,7] [6,7]) .ret) (Js [Jo 52 (.bin .eql (.t 21) (Jk 7)),Jm 51 52] [3,5,8,21,51] (.cond (.t 51) (.seq (.draw [Jf 53 3 3,Jl 54 53,Jm 55 8,Jf 56 4 5,Jl 57 56,Jo 58 (Jc 143 [.t 57])] [Jo 59 (.call (.t 54) [.t 55,.t 58]),Jm 6 59,Jo 7 (.mov (.k (.bool true)))] [0,0,3,7,7,7] [6,7]) .ret) (Js [Jo 61 (.bin .eql (.t 21) (Jk 6)),Jm 60 61] [3,5,8,21,60] (.cond (.t 60) (.seq (.draw [Jf 62 4 3,Jl 63 62,Jm 64 8,Jf 65 4 5,Jl 66 65,Jo 67 (Jc 49 [.t 66]),Jo 68 (.call (.t 63) [.t 64,.t 67]),Je 69 68 0,Je 70 68 1] [Jm 6 69,Jm 7 70] [0,0,3,7,7,7,0,0,128] [6,7]) .ret) (Js [Jo 72 (.bin .eql (.t 21) (Jk 8)),Jm 71 72] [3,5,8,71] (.cond (.t 71) (.seq (.draw [Jf 73 4 3,Jl 74 73,Jm 75 8,Jf 76 4 5,Jl 77 76,Jo 78 (Jc 143 [.t 77]),Jo 79 (.call (.t 74) [.t 75,.t 78]),Je 80 79 0,Je 81 79 1] [Jm 6 80,Jm 7 81] [0,0,3,7,7,7,0,0,128] [6,7]) .ret) .skip)))))))))))))))) (Js [Jm 82 8,Jm 6 82,Jo 7 (.mov (.k (.bool true)))] [6,7] .ret)))
def rs113:List RV:=[.t 6,.t 7]
theorem enter113:EnT Tryd.prog 113 83 ac113 rs113:=Ent pl113 mixed Tryd.func113
def ac114:ACode:=Js [Jo 2 (.mov (.k (.seq 0 [] true)))] [0] (Js [Jm 3 0,Jo 4 (Jc 145 [.t 3,.k (.fn (.func 96) [] [])]),Jm 2 4] [2] .ret)
def rs114:List RV:=[.t 2]
theorem enter114:EnT Tryd.prog 114 5 ac114 rs114:=Ent pl114 mixed Tryd.func114
def ac115:ACode:=Js [Jo 4 (.mov (.k (.seq 0 [] true)))] [0,1] (Js [Jm 8 0,Jm 9 1,Jo 10 (Jc 116 [.t 8,.t 9]),Jm 7 10,Je 11 7 0,Je 12 7 1,Jm 5 11,Jm 6 12] [5] (Js [Jm 13 5,Jm 4 13] [4] .ret))
def rs115:List RV:=[.t 4]
theorem enter115:EnT Tryd.prog 115 14 ac115 rs115:=Ent pl115 mixed Tryd.func115
def ac116:ACode:=Js [Jo 4 (.mov (.k (.seq 0 [] true))),Jo 5 (.mov (Jk 0))] [0,1] (Js [Jm 6 0,Jm 7 1,Jo 8 (Jc 122 [.t 6,.t 7,.k (.fn (.func 13) [] [])]),Je 9 8 0,Je 10 8 1,Jm 4 9,Jm 5 10] [4,5] .ret)
def rs116:List RV:=[.t 4,.t 5]
theorem enter116:EnT Tryd.prog 116 11 ac116 rs116:=Ent pl116 mixed Tryd.func116
def ac117:ACode:=Js [Jo 4 (.mov (.k (.seq 0 [] true)))] [0,1] (Js [Jm 8 0,Jm 9 1,Jo 10 (Jc 118 [.t 8,.t 9]),Jm 7 10,Je 11 7 0,Je 12 7 1,Jm 5 11,Jm 6 12] [5] (Js [Jm 13 5,Jm 4 13] [4] .ret))
def rs117:List RV:=[.t 4]
theorem enter117:EnT Tryd.prog 117 14 ac117 rs117:=Ent pl117 mixed Tryd.func117
def ac118:ACode:=Js [Jo 4 (.mov (.k (.seq 0 [] true))),Jo 5 (.mov (Jk 0))] [0,1] (Js [Jm 6 0,Jm 7 1,Jo 8 (Jc 122 [.t 6,.t 7,.k (.fn (.func 97) [] [])]),Je 9 8 0,Je 10 8 1,Jm 4 9,Jm 5 10] [4,5] .ret)
def rs118:List RV:=[.t 4,.t 5]
theorem enter118:EnT Tryd.prog 118 11 ac118 rs118:=Ent pl118 mixed Tryd.func118
def ac119:ACode:=Js [Jo 3 (.box 34 0 (.t 1)),Jo 4 (.mov (.k (.seq 0 [] true)))] [0,3] (Js [Jm 5 0,Jo 6 (.load (some 2) (.t 3)),Jo 7 (.mkF (.func 39) [.t 6] []),Jo 8 (Jc 145 [.t 5,.t 7]),Jm 4 8] [4] .ret)
def rs119:List RV:=[.t 4]
theorem enter119:EnT Tryd.prog 119 9 ac119 rs119:=Ent pl119 mixed Tryd.func119
def ac120:ACode:=Js [Jo 3 (.box 34 0 (.t 1)),Jo 4 (.mov (.k (.seq 0 [] true))),Jo 5 (.mov (.k (.bool false)))] [0,3] (Js [Jm 9 0,Jo 10 (.load (some 2) (.t 3)),Jo 11 (Jc 121 [.t 9,.t 10]),Jm 8 11,Je 12 8 0,Je 13 8 1,Jm 6 12,Jm 7 13] [6,7] (Js [Jm 14 6,Jm 15 7,Jo 16 (.bin .eql (.t 15) (Jk 0)),Jm 4 14,Jm 5 16] [4,5] .ret))
def rs120:List RV:=[.t 4,.t 5]
theorem enter120:EnT Tryd.prog 120 17 ac120 rs120:=Ent pl120 mixed Tryd.func120
def ac121:ACode:=Js [Jo 3 (.box 34 0 (.t 1)),Jo 4 (.mov (.k (.seq 0 [] true))),Jo 5 (.mov (Jk 0))] [0,3] (.seq (Js [Jo 12 (.load (some 2) (.t 3)),Jo 13 (Jc 87 [.t 12]),Jo 14 (.bin .eql (.t 13) (Jk 0))] [0,3,14] (.cond (.t 14) (Js [Jo 4 (.mov (.k (.seq 0 [] true))),Jo 5 (.mov (Jk 2))] [4,5] .ret) .skip)) (Js [Jo 6 (.mov (.k (.seq 0 [] true)))] [0,3,6] (.seq (Js [Jm 15 0,Jv 16 15,Jo 17 (.mov (Jk 0))] [3,6,15,16,17] (.block 0 (.loop (Js [Jb 18 .lss 17 16] [3,6,15,16,17,18] (.seq (.cond (.t 18) .skip (.exit 0)) (.seq (.block 1 (Js [Ji 19 2 15 17,Jo 20 (.load (some 2) (.t 19)),Jo 8 (.alloc 34 0 [.bool false,.seq 0 [] true]),⟨none,none,.store 2 (.t 8) (.t 20)⟩] [3,6,8,15,16,17] (Js [Jo 22 (.load (some 2) (.t 8)),Jo 23 (.load (some 2) (.t 3)),Jo 24 (Jc 112 [.t 22,.t 23]),Jm 21 24,Je 25 21 0,Je 26 21 1,Je 27 21 2,Jo 9 (.alloc 34 0 [.bool false,.seq 0 [] true]),Jo 10 (.alloc 34 0 [.bool false,.seq 0 [] true]),⟨none,none,.store 2 (.t 9) (.t 25)⟩,⟨none,none,.store 2 (.t 10) (.t 26)⟩,Jm 11 27] [3,6,9,10,15,16,17] (.seq (Js [Jo 28 (.load (some 2) (.t 10)),Jo 29 (Jc 87 [.t 28]),Jo 30 (.bin .neq (.t 29) (Jk 0))] [3,6,9,15,16,17,30] (.cond (.t 30) (Js [Jo 4 (.mov (.k (.seq 0 [] true))),Jo 5 (.mov (Jk 20))] [4,5] .ret) .skip)) (.reg [Jm 31 6,Jo 32 (.load (some 2) (.t 9)),Jo 33 (.bsl [.bool false,.seq 0 [] true] 1 2 [(0,2,.t 32)]),Jo 34 (.app 34 2 32 (.t 31) (.t 33)),Jm 6 34] [3,6,15,16,17]))))) (.reg [Jo 35 (.bin .add (.t 17) (Jk 1)),Jm 17 35] [3,6,15,16,17]))))))) (Js [Jm 36 6,Jm 4 36,Jo 5 (.mov (Jk 0))] [4,5] .ret))))
def rs121:List RV:=[.t 4,.t 5]
theorem enter121:EnT Tryd.prog 121 37 ac121 rs121:=Ent pl121 mixed Tryd.func121
def ac122:ACode:=Js [Jo 4 (.box 31 0 (.t 1)),Jo 5 (.box 122 0 (.t 2)),Jo 6 (.mov (.k (.seq 0 [] true))),Jo 7 (.mov (Jk 0))] [0,4,5] (.seq (Js [Jm 9 0,Jv 10 9,Jl 11 4,Jv 12 11,Jb 13 .neq 10 12] [0,4,5,13] (.cond (.t 13) (Js [Jo 6 (.mov (.k (.seq 0 [] true))),Jo 7 (.mov (Jk 5))] [6,7] .ret) .skip)) (Js [Jo 8 (.alloc 3 0 [Jn 0]),⟨none,none,.store 1 (.t 8) (.k (.int .i64 (-1)))⟩] [0,4,5,8] (Js [Jm 14 0,Jo 15 (.mkF (.func 146) [] [.t 8,.t 5,.t 4]),Jo 16 (Jc 145 [.t 14,.t 15]),Jm 6 16,Jo 7 (.mov (Jk 0))] [6,7] .ret)))
def rs122:List RV:=[.t 6,.t 7]
theorem enter122:EnT Tryd.prog 122 17 ac122 rs122:=Ent pl122 mixed Tryd.func122
def ac124:ACode:=Js [Jo 2 (.mov (.k (.str ⟨#[]⟩)))] [0] (Js [Jo 3 (.mov (.k (.seq 0 [] true)))] [0,3] (.seq (Js [Jm 14 0,Jo 15 (Jc 127 [.t 14]),Jm 4 15] [3,4] (.block 0 (.loop (.seq (Js [Jm 16 4,Jv 17 16,Jo 18 (.bin .gtr (.t 17) (Jk 0))] [3,4,18] (.cond (.t 18) .skip (.exit 0))) (.block 1 (Js [Jm 20 4,Jo 21 (Jc 147 [.t 20,.k (.int .u32 ((1000000000:Nat):Int))]),Jm 19 21,Je 22 19 0,Je 23 19 1,Je 24 19 2,Jm 5 22,Jm 6 23,Jm 7 24] [3,5,6] (Js [Jm 25 3,Jm 26 6,Jo 27 (.bsl [.int .u32 ((0:Nat):Int)] 1 1 [(0,1,.t 26)]),Jo 28 (.app 149 1 4 (.t 25) (.t 27)),Jm 3 28] [3,5] (.reg [Jm 29 5,Jm 4 29] [3,4])))))))) (.seq (Js [Jm 30 3,Jv 31 30,Jo 32 (.bin .eql (.t 31) (Jk 0))] [3,32] (.cond (.t 32) (Js [Jo 2 (.mov (.k (.str ⟨#[48]⟩)))] [2] .ret) .skip)) (Js [Jo 8 (.alloc 183 0 [.nilP,.seq 0 [] true])] [3,8] (.seq (Js [Jm 33 3,Jv 34 33,Jo 35 (.bin .sub (.t 34) (Jk 1)),Jm 9 35] [3,8,9] (.block 2 (.loop (.seq (Js [Jm 36 9,Jo 37 (.bin .geq (.t 36) (Jk 0))] [3,8,9,37] (.cond (.t 37) .skip (.exit 2))) (.seq (.block 3 (Js [Jo 10 (.alloc 192 1 [.int .u8 ((0:Nat):Int),.int .u8 ((0:Nat):Int),.int .u8 ((0:Nat):Int),.int .u8 ((0:Nat):Int),.int .u8 ((0:Nat):Int),.int .u8 ((0:Nat):Int),.int .u8 ((0:Nat):Int),.int .u8 ((0:Nat):Int),.int .u8 ((0:Nat):Int)])] [3,8,9,10] (Js [Jm 40 3,Jm 41 9,Ji 42 1 40 41,Jl 43 42,Jm 11 43] [3,8,9,10,11] (.seq (Js [Jo 12 (.mov (Jk 8))] [3,8,9,10,11,12] (.block 4 (.loop (.seq (Js [Jm 44 12,Jo 45 (.bin .geq (.t 44) (Jk 0))] [3,8,9,10,11,12,45] (.cond (.t 45) .skip (.exit 4))) (.seq (.block 5 (Js [Jm 48 12,Jm 49 11,Jo 50 (.bin .rem (.t 49) (.k (.int .u32 ((10:Nat):Int)))),Jo 51 (.bin .add (.k (.int .u32 ((48:Nat):Int))) (.t 50)),Jo 52 (.conv .u8 (.t 51)),Jo 53 (.prim (.idxP 9 1) [.t 10,.t 48]),⟨none,none,.store 1 (.t 53) (.t 52)⟩] [3,8,9,10,11,12] (.reg [Jm 54 11,Jo 55 (.bin .quo (.t 54) (.k (.int .u32 ((10:Nat):Int)))),Jm 11 55] [3,8,9,10,11,12]))) (.reg [Jm 46 12,Jo 47 (.bin .sub (.t 46) (Jk 1)),Jm 12 47] [3,8,9,10,11,12])))))) (Js [Jo 56 (.prim (.slcP 9 1) [.t 10]),Jo 57 (.prim .b2s [.t 56]),Jm 13 57] [3,8,9,13] (.seq (Js [Jm 58 9,Jm 59 3,Jv 60 59,Jo 61 (.bin .sub (.t 60) (Jk 1)),Jb 62 .eql 58 61] [3,8,9,13,62] (.cond (.t 62) (.reg [Jm 63 13,Jo 64 (Jc 148 [.t 63,.k (.str ⟨#[48]⟩)]),Jm 13 64] [3,8,9,13]) .skip)) (.reg [Jm 65 13,Jo 66 (Jc 141 [.t 8,.t 65])] [3,8,9]))))))) (.reg [Jm 38 9,Jo 39 (.bin .sub (.t 38) (Jk 1)),Jm 9 39] [3,8,9])))))) (Js [Jo 67 (Jc 142 [.t 8]),Jm 2 67] [2] .ret))))))
def rs124:List RV:=[.t 2]
theorem enter124:EnT Tryd.prog 124 68 ac124 rs124:=Ent pl124 mixed Tryd.func124
def ac125:ACode:=Js [Jl 5 1,Jo 6 (.rng (.t 5))] [0,6] (.block 0 (.loop (Js [Jo 7 (.nxt (.t 6)),Je 8 7 0] [0,6,7,8] (.seq (.cond (.t 8) .skip (.exit 0)) (.block 1 (Js [Je 9 7 2,Jm 4 9] [0,4,6] (Js [Jm 10 0,Jm 11 4,Jo 12 (.bin .sub (.t 11) (.k (.int .i32 ((48:Nat):Int)))),Jo 13 (.conv .i64 (.t 12)),Jo 14 (.call (.t 10) [.t 13]),Jo 15 (.un .not (.t 14))] [0,6,15] (.cond (.t 15) .ret .skip))))))))
def rs125:List RV:=[]
theorem enter125:EnT Tryd.prog 125 16 ac125 rs125:=Ent pl125 mixed Tryd.func125
def ac126:ACode:=Js [Jo 2 (.mov (Jk 0))] [0] (.seq (.cond (.k (.bool false)) (Js [Jm 3 0,Jo 4 (.conv .u32 (.t 3)),Jo 5 (Jc 149 [.t 4]),Jm 2 5] [2] .ret) .skip) (Js [Jm 6 0,Jo 7 (Jc 150 [.t 6]),Jm 2 7] [2] .ret))
def rs126:List RV:=[.t 2]
theorem enter126:EnT Tryd.prog 126 8 ac126 rs126:=Ent pl126 mixed Tryd.func126
def ac127:ACode:=Js [Jo 2 (.mov (.k (.seq 0 [] true)))] [0] (Js [Jm 4 0,Jo 5 (Jc 88 [.t 4]),Jm 0 5] [0] (Js [Jm 6 0,Jv 7 6,Jo 8 (.mks 149 1 4 [.int .u32 ((0:Nat):Int)] (.t 7) (.t 7)),Jm 3 8] [0,3] (Js [Jm 9 3,Jm 10 0,Jo 11 (.cpy 1 (.t 9) (.t 10))] [3] (Js [Jm 12 3,Jm 2 12] [2] .ret))))
def rs127:List RV:=[.t 2]
theorem enter127:EnT Tryd.prog 127 13 ac127 rs127:=Ent pl127 mixed Tryd.func127
def ac129:ACode:=Js [Jo 2 (.mov (.k (.bool false)))] [0] (Js [Jm 3 0,Jo 4 (.bin .eql (.t 3) (Jk 3)),Jm 5 4,⟨some 6,some (5,false),.mov (.t 0)⟩,⟨some 7,some (5,false),.bin .eql (.t 6) (Jk 4)⟩,Jo 8 (.pick (.t 5) (.k (.bool true)) (.t 7)),Jm 2 8] [2] .ret)
def rs129:List RV:=[.t 2]
theorem enter129:EnT Tryd.prog 129 9 ac129 rs129:=Ent pl129 mixed Tryd.func129
def ac130:ACode:=Js [Jo 1 (.box 88 0 (.t 0)),Jo 2 (.mov (.k (.bool false)))] [1] (.seq (Js [Jf 3 0 1,Jl 4 3] [1,4] (.block 0 (.seq (Js [Jo 6 (.bin .eql (.t 4) (Jk 5)),Jm 5 6] [1,4,5] (.cond (.t 5) .skip (.reg [Jo 7 (.bin .eql (.t 4) (Jk 6)),Jm 5 7] [1,4,5]))) (.cond (.t 5) (Js [Jf 8 4 1,Jl 9 8,Jo 10 (.bin .neq (.t 9) (Jk 0)),Jm 11 10,⟨some 12,some (11,true),.fldA 4 (.t 1)⟩,⟨some 13,some (11,true),.load none (.t 12)⟩,⟨some 14,some (11,true),.bin .geq (.t 13) (.k (.int .i64 (-512)))⟩,Jo 15 (.pick (.t 11) (.t 14) (.k (.bool false))),Jm 16 15,⟨some 17,some (16,true),.fldA 4 (.t 1)⟩,⟨some 18,some (16,true),.load none (.t 17)⟩,⟨some 19,some (16,true),.bin .leq (.t 18) (Jk 512)⟩,Jo 20 (.pick (.t 16) (.t 19) (.k (.bool false))),Jm 2 20] [2] .ret) (.seq (Js [Jo 22 (.bin .eql (.t 4) (Jk 7)),Jm 21 22] [1,4,21] (.cond (.t 21) .skip (.reg [Jo 23 (.bin .eql (.t 4) (Jk 8)),Jm 21 23] [1,21]))) (.cond (.t 21) (Js [Jf 24 4 1,Jl 25 24,Jo 26 (.bin .geq (.t 25) (Jk 1)),Jm 27 26,⟨some 28,some (27,true),.fldA 4 (.t 1)⟩,⟨some 29,some (27,true),.load none (.t 28)⟩,⟨some 30,some (27,true),.bin .leq (.t 29) (Jk 64)⟩,Jo 31 (.pick (.t 27) (.t 30) (.k (.bool false))),Jm 2 31] [2] .ret) .skip)))))) (Js [Jf 32 4 1,Jl 33 32,Jo 34 (.bin .eql (.t 33) (Jk 0)),Jm 2 34] [2] .ret))
def rs130:List RV:=[.t 2]
theorem enter130:EnT Tryd.prog 130 35 ac130 rs130:=Ent pl130 mixed Tryd.func130
def ac131:ACode:=Js [Jo 1 (.box 88 0 (.t 0)),Jo 2 (.mov (.k (.seq 0 [] true)))] [1] (.seq (Js [Jf 3 0 1,Jl 4 3] [1,4] (.block 0 (.seq (Js [Jo 6 (.bin .eql (.t 4) (Jk 3)),Jm 5 6] [1,4,5] (.cond (.t 5) .skip (.reg [Jo 7 (.bin .eql (.t 4) (Jk 4)),Jm 5 7] [1,4,5]))) (.cond (.t 5) (Js [Jf 8 2 1,Jl 9 8,Jf 10 3 1,Jl 11 10,Jo 12 (.bsl [Jn 0] 2 1 [(0,1,.t 9),(1,1,.t 11)]),Jm 2 12] [2] .ret) (.seq (Js [Jo 14 (.bin .eql (.t 4) (Jk 1)),Jm 13 14] [1,4,13] (.cond (.t 13) .skip (Js [Jo 15 (.bin .eql (.t 4) (Jk 2)),Jm 13 15] [1,4,13] (.cond (.t 13) .skip (Js [Jo 16 (.bin .eql (.t 4) (Jk 5)),Jm 13 16] [1,4,13] (.cond (.t 13) .skip (Js [Jo 17 (.bin .eql (.t 4) (Jk 6)),Jm 13 17] [1,4,13] (.cond (.t 13) .skip (Js [Jo 18 (.bin .eql (.t 4) (Jk 7)),Jm 13 18] [1,4,13] (.cond (.t 13) .skip (.reg [Jo 19 (.bin .eql (.t 4) (Jk 8)),Jm 13 19] [1,13]))))))))))) (.cond (.t 13) (Js [Jf 20 2 1,Jl 21 20,Jo 22 (.bsl [Jn 0] 1 1 [(0,1,.t 21)]),Jm 2 22] [2] .ret) .skip)))))) (Js [Jo 2 (.mov (.k (.seq 0 [] true)))] [2] .ret))
def rs131:List RV:=[.t 2]
theorem enter131:EnT Tryd.prog 131 23 ac131 rs131:=Ent pl131 mixed Tryd.func131
def ac132:ACode:=Js [Jo 4 (.mov (.k (.seq 0 [] true))),Jo 5 (.mov (.k (.seq 0 [] true))),Jo 6 (.mov (Jk 0))] [0,1] (Js [Jm 20 1,Jo 21 (Jc 88 [.t 20]),Jm 1 21] [0,1] (.seq (Js [Jm 22 1,Jv 23 22,Jo 24 (.bin .eql (.t 23) (Jk 0))] [0,1,24] (.cond (.t 24) (Js [Jo 4 (.mov (.k (.seq 0 [] true))),Jo 5 (.mov (.k (.seq 0 [] true))),Jo 6 (.mov (Jk 2))] [4,5,6] .ret) .skip)) (.seq (Js [Jm 25 0,Jm 26 1,Jo 27 (Jc 53 [.t 25,.t 26]),Jo 28 (.bin .lss (.t 27) (Jk 0))] [0,1,28] (.cond (.t 28) (Js [Jm 29 0,Jo 30 (Jc 127 [.t 29]),Jo 4 (.mov (.k (.seq 0 [] true))),Jm 5 30,Jo 6 (.mov (Jk 0))] [4,5,6] .ret) .skip)) (.seq (Js [Jm 31 1,Jv 32 31,Jo 33 (.bin .eql (.t 32) (Jk 1))] [0,1,33] (.cond (.t 33) (Js [Jm 35 0,Jm 36 1,Jo 37 (.idxA 1 (.t 36) (Jk 0)),Jl 38 37,Jo 39 (Jc 147 [.t 35,.t 38]),Jm 34 39,Je 40 34 0,Je 41 34 1,Je 42 34 2,Jm 7 40,Jm 8 41,Jm 9 42] [7,8] (Js [Jm 43 7,Jm 44 8,Jo 45 (.bsl [.int .u32 ((0:Nat):Int)] 1 1 [(0,1,.t 44)]),Jo 46 (Jc 127 [.t 45]),Jm 4 43,Jm 5 46,Jo 6 (.mov (Jk 0))] [4,5,6] .ret)) .skip)) (Js [Jm 47 1,Jm 48 1,Jv 49 48,Jo 50 (.bin .sub (.t 49) (Jk 1)),Ji 51 1 47 50,Jl 52 51,Jo 53 (Jc 152 [.t 52]),Jm 10 53] [0,1,10] (Js [Jm 55 1,Jm 56 10,Jo 57 (Jc 133 [.t 55,.t 56]),Jm 54 57,Je 58 54 0,Je 59 54 1,Jm 11 58,Jm 12 59] [0,10,11] (Js [Jm 61 0,Jm 62 10,Jo 63 (Jc 133 [.t 61,.t 62]),Jm 60 63,Je 64 60 0,Je 65 60 1,Jm 13 64,Jm 14 65] [10,11,13] (Js [Jm 66 13,Jo 67 (.bsl [.int .u32 ((0:Nat):Int)] 1 1 [(0,1,.k (.int .u32 ((0:Nat):Int)))]),Jo 68 (.app 149 1 4 (.t 66) (.t 67)),Jm 13 68] [10,11,13] (Js [Jm 69 11,Jv 70 69,Jm 15 70] [10,11,13,15] (Js [Jm 71 13,Jv 72 71,Jm 73 15,Jb 74 .sub 72 73,Jo 75 (.mks 149 1 4 [.int .u32 ((0:Nat):Int)] (.t 74) (.t 74)),Jm 16 75] [10,11,13,15,16] (.seq (Js [Jm 76 13,Jv 77 76,Jm 78 15,Jb 79 .sub 77 78,Jo 80 (.bin .sub (.t 79) (Jk 1)),Jm 17 80] [10,11,13,15,16,17] (.block 0 (.loop (.seq (Js [Jm 81 17,Jo 82 (.bin .geq (.t 81) (Jk 0))] [10,11,13,15,16,17,82] (.cond (.t 82) .skip (.exit 0))) (.seq (.block 1 (.reg [Jm 85 16,Jm 86 17,Jm 87 13,Jm 88 17,Jm 89 17,Jm 90 15,Jb 91 .add 89 90,Jo 92 (.bin .add (.t 91) (Jk 1)),Jo 93 (.slc 1 (.t 87) (some (.t 88)) (some (.t 92)) none),Jm 94 11,Jo 95 (Jc 153 [.t 93,.t 94]),Ji 96 1 85 86,⟨none,none,.store 1 (.t 96) (.t 95)⟩] [10,11,13,15,16,17])) (.reg [Jm 83 17,Jo 84 (.bin .sub (.t 83) (Jk 1)),Jm 17 84] [10,11,13,15,16,17])))))) (Js [Jm 98 13,Jm 99 10,Jo 100 (Jc 135 [.t 98,.t 99]),Jm 97 100,Je 101 97 0,Je 102 97 1,Jm 18 101,Jm 19 102] [16,18] (Js [Jm 103 16,Jo 104 (Jc 88 [.t 103]),Jm 105 18,Jm 4 104,Jm 5 105,Jo 6 (.mov (Jk 0))] [4,5,6] .ret)))))))))))))
def rs132:List RV:=[.t 4,.t 5,.t 6]
theorem enter132:EnT Tryd.prog 132 106 ac132 rs132:=Ent pl132 mixed Tryd.func132
def ac133:ACode:=Js [Jo 4 (.mov (.k (.seq 0 [] true))),Jo 5 (.mov (Jk 0))] [0,1] (.seq (Js [Jm 11 1,Jo 12 (.bin .lss (.t 11) (Jk 0))] [0,1,12] (.cond (.t 12) (Js [Jo 4 (.mov (.k (.seq 0 [] true))),Jo 5 (.mov (Jk 2))] [4,5] .ret) .skip)) (.seq (Js [Jm 13 1,Jo 14 (.bin .gtr (.t 13) (Jk 65536))] [0,1,14] (.cond (.t 14) (Js [Jo 4 (.mov (.k (.seq 0 [] true))),Jo 5 (.mov (Jk 3))] [4,5] .ret) .skip)) (Js [Jm 15 0,Jv 16 15,Jm 17 1,Jo 18 (.bin .quo (.t 17) (Jk 32)),Jb 19 .add 16 18,Jo 20 (.bin .add (.t 19) (Jk 1)),Jo 21 (.mks 149 1 4 [.int .u32 ((0:Nat):Int)] (.t 20) (.t 20)),Jm 6 21] [0,1,6] (Js [Jm 22 1,Jo 23 (.bin .rem (.t 22) (Jk 32)),Jm 7 23] [0,1,6,7] (.seq (Js [Jm 24 0,Jv 25 24,Jo 26 (.mov (Jk 0))] [1,6,7,24,25,26] (.block 0 (.loop (Js [Jb 27 .lss 26 25] [1,6,7,24,25,26,27] (.seq (.cond (.t 27) .skip (.exit 0)) (.seq (.block 1 (Js [Jm 28 26,Ji 29 1 24 26,Jl 30 29,Jm 8 28,Jm 9 30] [1,6,7,8,9,24,25,26] (Js [Jm 31 9,Jo 32 (.conv .u64 (.t 31)),Jm 33 7,Jb 34 .shl 32 33,Jm 10 34] [1,6,7,8,10,24,25,26] (Js [Jm 35 6,Jm 36 8,Jm 37 1,Jo 38 (.bin .quo (.t 37) (Jk 32)),Jb 39 .add 36 38,Ji 40 1 35 39,Jl 41 40,Jm 42 10,Jo 43 (.conv .u32 (.t 42)),Jb 44 .or 41 43,Ji 45 1 35 39,⟨none,none,.store 1 (.t 45) (.t 44)⟩] [1,6,7,8,10,24,25,26] (.reg [Jm 46 6,Jm 47 8,Jm 48 1,Jo 49 (.bin .quo (.t 48) (Jk 32)),Jb 50 .add 47 49,Jo 51 (.bin .add (.t 50) (Jk 1)),Ji 52 1 46 51,Jl 53 52,Jm 54 10,Jo 55 (.bin .shr (.t 54) (.k (.int .u64 ((32:Nat):Int)))),Jo 56 (.conv .u32 (.t 55)),Jb 57 .or 53 56,Ji 58 1 46 51,⟨none,none,.store 1 (.t 58) (.t 57)⟩] [1,6,7,24,25,26]))))) (.reg [Jo 59 (.bin .add (.t 26) (Jk 1)),Jm 26 59] [1,6,7,24,25,26]))))))) (Js [Jm 60 6,Jo 61 (Jc 88 [.t 60]),Jm 4 61,Jo 5 (.mov (Jk 0))] [4,5] .ret))))))
def rs133:List RV:=[.t 4,.t 5]
theorem enter133:EnT Tryd.prog 133 62 ac133 rs133:=Ent pl133 mixed Tryd.func133
def ac134:ACode:=Js [Jo 1 (.box 34 0 (.t 0)),Jo 2 (.mov (Jk 0))] [1] (.seq (Js [Jo 3 (.load (some 2) (.t 1)),Jo 4 (Jc 87 [.t 3]),Jo 5 (.bin .eql (.t 4) (Jk 0))] [1,5] (.cond (.t 5) (Js [Jo 2 (.mov (.k (.int .i64 (-1))))] [2] .ret) .skip)) (Js [Jf 6 1 1,Jl 7 6,Jo 8 (Jc 154 [.t 7]),Jm 2 8] [2] .ret))
def rs134:List RV:=[.t 2]
theorem enter134:EnT Tryd.prog 134 9 ac134 rs134:=Ent pl134 mixed Tryd.func134
def ac135:ACode:=Js [Jo 4 (.mov (.k (.seq 0 [] true))),Jo 5 (.mov (Jk 0))] [0,1] (.seq (Js [Jm 11 1,Jo 12 (.bin .lss (.t 11) (Jk 0))] [0,1,12] (.cond (.t 12) (Js [Jo 4 (.mov (.k (.seq 0 [] true))),Jo 5 (.mov (Jk 2))] [4,5] .ret) .skip)) (Js [Jm 13 0,Jo 14 (Jc 88 [.t 13]),Jm 0 14] [0,1] (.seq (Js [Jm 15 1,Jo 16 (.bin .quo (.t 15) (Jk 32)),Jm 17 0,Jv 18 17,Jb 19 .geq 16 18] [0,1,19] (.cond (.t 19) (Js [Jo 4 (.mov (.k (.seq 0 [] true))),Jo 5 (.mov (Jk 0))] [4,5] .ret) .skip)) (Js [Jm 20 0,Jm 21 1,Jo 22 (.bin .quo (.t 21) (Jk 32)),Jo 23 (.slc 1 (.t 20) (some (.t 22)) none none),Jm 0 23] [0,1] (Js [Jm 24 1,Jo 25 (.bin .rem (.t 24) (Jk 32)),Jm 6 25] [0,6] (Js [Jm 26 0,Jv 27 26,Jo 28 (.mks 149 1 4 [.int .u32 ((0:Nat):Int)] (.t 27) (.t 27)),Jm 7 28] [0,6,7] (.seq (Js [Jm 29 0,Jv 30 29,Jo 31 (.mov (Jk 0))] [0,6,7,29,30,31] (.block 0 (.loop (Js [Jb 32 .lss 31 30] [0,6,7,29,30,31,32] (.seq (.cond (.t 32) .skip (.exit 0)) (.seq (.block 1 (Js [Jm 33 31,Ji 34 1 29 31,Jl 35 34,Jm 8 33,Jm 9 35] [0,6,7,8,9,29,30,31] (Js [Jm 36 9,Jo 37 (.conv .u64 (.t 36)),Jm 10 37] [0,6,7,8,10,29,30,31] (.seq (Js [Jm 38 8,Jo 39 (.bin .add (.t 38) (Jk 1)),Jm 40 0,Jv 41 40,Jb 42 .lss 39 41] [0,6,7,8,10,29,30,31,42] (.cond (.t 42) (.reg [Jm 43 10,Jm 44 0,Jm 45 8,Jo 46 (.bin .add (.t 45) (Jk 1)),Ji 47 1 44 46,Jl 48 47,Jo 49 (.conv .u64 (.t 48)),Jo 50 (.bin .shl (.t 49) (.k (.int .u64 ((32:Nat):Int)))),Jb 51 .or 43 50,Jm 10 51] [0,6,7,8,10,29,30,31]) .skip)) (.reg [Jm 52 7,Jm 53 8,Jm 54 10,Jm 55 6,Jb 56 .shr 54 55,Jo 57 (.conv .u32 (.t 56)),Ji 58 1 52 53,⟨none,none,.store 1 (.t 58) (.t 57)⟩] [0,6,7,29,30,31]))))) (.reg [Jo 59 (.bin .add (.t 31) (Jk 1)),Jm 31 59] [0,6,7,29,30,31]))))))) (Js [Jm 60 7,Jo 61 (Jc 88 [.t 60]),Jm 4 61,Jo 5 (.mov (Jk 0))] [4,5] .ret))))))))
def rs135:List RV:=[.t 4,.t 5]
theorem enter135:EnT Tryd.prog 135 62 ac135 rs135:=Ent pl135 mixed Tryd.func135
def ac141:ACode:=Js [Jo 4 (.mov (Jk 0)),Jo 5 (.mov (.k .nilI))] [0,1] (Js [Jm 6 0,Jo 7 (Jc 155 [.t 6])] [0,1] (Js [Jm 8 0,Jm 9 0,Jo 10 (.prim .nck [.t 9]),Jf 11 1 10,Jl 12 11,Jm 13 1,Jo 14 (.app 5 1 1 (.t 12) (.t 13)),Jo 15 (.prim .nck [.t 8]),Jf 16 1 15,⟨none,none,.store 1 (.t 16) (.t 14)⟩] [1] (Js [Jm 17 1,Jo 18 (.len true (.t 17)),Jm 4 18,Jo 5 (.mov (.k .nilI))] [4,5] .ret)))
def rs141:List RV:=[.t 4,.t 5]
theorem enter141:EnT Tryd.prog 141 19 ac141 rs141:=Ent pl141 mixed Tryd.func141
def ac142:ACode:=Js [Jo 2 (.mov (.k (.str ⟨#[]⟩)))] [0] (.seq (.draw [Jm 3 0,Jo 4 (.prim .nck [.t 3]),Jf 5 1 4,Jl 6 5,Jo 7 (.prim .usd [.t 6]),Jm 8 0,Jo 9 (.prim .nck [.t 8]),Jf 10 1 9,Jl 11 10,Jv 12 11] [Jo 13 (.ust 5 (.t 7) (.t 12)),Jm 2 13] [0,0,0,0,0,31,31,31,31,31] [2]) .ret)
def rs142:List RV:=[.t 2]
theorem enter142:EnT Tryd.prog 142 14 ac142 rs142:=Ent pl142 mixed Tryd.func142
def ac143:ACode:=Js [Jo 2 (.alloc 34 0 [.bool false,.seq 0 [] true])] [0,2] (Js [Jo 6 (Jc 49 [Jk 1]),Jm 7 0,Jo 8 (Jc 103 [.t 6,.t 7]),Jm 5 8,Je 9 5 0,Je 10 5 1,Jo 3 (.alloc 34 0 [.bool false,.seq 0 [] true]),⟨none,none,.store 2 (.t 3) (.t 9)⟩,Jm 4 10] [2,3] (Js [Jo 11 (.load (some 2) (.t 3)),⟨none,none,.store 2 (.t 2) (.t 11)⟩] [2] .ret))
def rs143:List RV:=[.cell 2 (some 2)]
theorem enter143:EnT Tryd.prog 143 12 ac143 rs143:=Ent pl143 mixed Tryd.func143
def ac144:ACode:=Js [Jo 1 (.box 34 0 (.t 0)),Jo 2 (.alloc 34 0 [.bool false,.seq 0 [] true])] [1,2] (Js [Jf 3 1 1,Jl 4 3,Jo 5 (Jc 51 [.k (.bool false),.t 4]),⟨none,none,.store 2 (.t 2) (.t 5)⟩] [2] .ret)
def rs144:List RV:=[.cell 2 (some 2)]
theorem enter144:EnT Tryd.prog 144 6 ac144 rs144:=Ent pl144 mixed Tryd.func144
def ac145:ACode:=Js [Jo 4 (.mov (.k (.seq 0 [] true)))] [0,1] (Js [Jo 5 (.mov (.k (.seq 0 [] true)))] [0,1,5] (.seq (Js [Jm 8 0,Jv 9 8,Jo 10 (.mov (Jk 0))] [1,5,8,9,10] (.block 0 (.loop (Js [Jb 11 .lss 10 9] [1,5,8,9,10,11] (.seq (.cond (.t 11) .skip (.exit 0)) (.seq (.block 1 (Js [Ji 12 2 8 10,Jo 13 (.load (some 2) (.t 12)),Jo 7 (.alloc 34 0 [.bool false,.seq 0 [] true]),⟨none,none,.store 2 (.t 7) (.t 13)⟩] [1,5,7,8,9,10] (.reg [Jm 14 5,Jm 15 1,Jo 16 (.load (some 2) (.t 7)),Jo 17 (.call (.t 15) [.t 16]),Jo 18 (.bsl [.bool false,.seq 0 [] true] 1 2 [(0,2,.t 17)]),Jo 19 (.app 34 2 32 (.t 14) (.t 18)),Jm 5 19] [1,5,8,9,10]))) (.reg [Jo 20 (.bin .add (.t 10) (Jk 1)),Jm 10 20] [1,5,8,9,10]))))))) (Js [Jm 21 5,Jm 4 21] [4] .ret)))
def rs145:List RV:=[.t 4]
theorem enter145:EnT Tryd.prog 145 22 ac145 rs145:=Ent pl145 mixed Tryd.func145
def ac146:ACode:=Js [Jo 4 (.box 34 0 (.t 0)),Jo 5 (.alloc 34 0 [.bool false,.seq 0 [] true])] [1,2,3,4,5] (Js [Jl 6 1,Jo 7 (.bin .add (.t 6) (Jk 1)),⟨none,none,.store 1 (.t 1) (.t 7)⟩] [1,2,3,4,5] (.seq (.draw [Jl 8 2,Jo 9 (.load (some 2) (.t 4)),Jl 10 3,Jl 11 1,Ji 12 2 10 11,Jo 13 (.load (some 2) (.t 12))] [Jo 14 (.call (.t 8) [.t 9,.t 13]),⟨none,none,.store 2 (.t 5) (.t 14)⟩] [0,1,3,7,3,3] [5]) .ret))
def rs146:List RV:=[.cell 5 (some 2)]
theorem enter146:EnT Tryd.prog 146 15 ac146 rs146:=Ent pl146 mixed Tryd.func146
def ac147:ACode:=Js [Jo 4 (.mov (.k (.seq 0 [] true))),Jo 5 (.mov (.k (.int .u32 ((0:Nat):Int)))),Jo 6 (.mov (Jk 0))] [0,1] (.seq (Js [Jm 10 1,Jo 11 (.bin .eql (.t 10) (.k (.int .u32 ((0:Nat):Int))))] [0,1,11] (.cond (.t 11) (Js [Jo 4 (.mov (.k (.seq 0 [] true))),Jo 5 (.mov (.k (.int .u32 ((0:Nat):Int)))),Jo 6 (.mov (Jk 2))] [4,5,6] .ret) .skip)) (Js [Jm 12 0,Jv 13 12,Jo 14 (.mks 149 1 4 [.int .u32 ((0:Nat):Int)] (.t 13) (.t 13)),Jm 7 14] [0,1,7] (Js [Jo 8 (.mov (.k (.int .u64 ((0:Nat):Int))))] [0,1,7,8] (.seq (Js [Jm 15 0,Jv 16 15,Jo 17 (.bin .sub (.t 16) (Jk 1)),Jm 9 17] [0,1,7,8,9] (.block 0 (.loop (.seq (Js [Jm 18 9,Jo 19 (.bin .geq (.t 18) (Jk 0))] [0,1,7,8,9,19] (.cond (.t 19) .skip (.exit 0))) (.seq (.block 1 (Js [Jm 22 8,Jo 23 (.bin .shl (.t 22) (.k (.int .u64 ((32:Nat):Int)))),Jm 24 0,Jm 25 9,Ji 26 1 24 25,Jl 27 26,Jo 28 (.conv .u64 (.t 27)),Jb 29 .or 23 28,Jm 8 29] [0,1,7,8,9] (Js [Jm 30 7,Jm 31 9,Jm 32 8,Jm 33 1,Jo 34 (.conv .u64 (.t 33)),Jb 35 .quo 32 34,Jo 36 (.conv .u32 (.t 35)),Ji 37 1 30 31,⟨none,none,.store 1 (.t 37) (.t 36)⟩] [0,1,7,8,9] (.reg [Jm 38 8,Jm 39 1,Jo 40 (.conv .u64 (.t 39)),Jb 41 .rem 38 40,Jm 8 41] [0,1,7,8,9])))) (.reg [Jm 20 9,Jo 21 (.bin .sub (.t 20) (Jk 1)),Jm 9 21] [0,1,7,8,9])))))) (Js [Jm 42 7,Jo 43 (Jc 88 [.t 42]),Jm 44 8,Jo 45 (.conv .u32 (.t 44)),Jm 4 43,Jm 5 45,Jo 6 (.mov (Jk 0))] [4,5,6] .ret)))))
def rs147:List RV:=[.t 4,.t 5,.t 6]
theorem enter147:EnT Tryd.prog 147 46 ac147 rs147:=Ent pl147 mixed Tryd.func147
def ac148:ACode:=Js [Jo 4 (.mov (.k (.str ⟨#[]⟩)))] [0,1] (.seq (Js [Jm 7 0,Jo 8 (.bin .eql (.t 7) (.k (.str ⟨#[]⟩))),Jm 9 8,⟨some 10,some (9,false),.mov (.t 1)⟩,⟨some 11,some (9,false),.bin .eql (.t 10) (.k (.str ⟨#[]⟩))⟩,Jo 12 (.pick (.t 9) (.k (.bool true)) (.t 11))] [0,1,12] (.cond (.t 12) (Js [Jm 13 0,Jm 4 13] [4] .ret) .skip)) (.seq (Js [Jm 14 1,Jo 15 (.len true (.t 14)),Jo 16 (.bin .eql (.t 15) (Jk 1)),Jm 17 16,⟨some 18,some (17,true),.mov (.t 1)⟩,⟨some 19,some (17,true),.idxS (.t 18) (Jk 0)⟩,⟨some 20,some (17,true),.bin .lss (.t 19) (.k (.int .u8 ((128:Nat):Int)))⟩,Jo 21 (.pick (.t 17) (.t 20) (.k (.bool false)))] [0,1,21] (.cond (.t 21) (Js [Jm 22 0,Jm 23 1,Jo 24 (.idxS (.t 23) (Jk 0)),Jo 25 (Jc 157 [.t 22,.t 24]),Jm 4 25] [4] .ret) .skip)) (.seq (Js [Jm 27 1,Jo 28 (Jc 158 [.t 27]),Jm 26 28,Je 29 26 0,Je 30 26 1,Jo 5 (.alloc 200 1 [.bool false,.bool false,.bool false,.bool false,.bool false,.bool false,.bool false,.bool false,.bool false,.bool false,.bool false,.bool false,.bool false,.bool false,.bool false,.bool false,.bool false,.bool false,.bool false,.bool false,.bool false,.bool false,.bool false,.bool false,.bool false,.bool false,.bool false,.bool false,.bool false,.bool false,.bool false,.bool false,.bool false,.bool false,.bool false,.bool false,.bool false,.bool false,.bool false,.bool false,.bool false,.bool false,.bool false,.bool false,.bool false,.bool false,.bool false,.bool false,.bool false,.bool false,.bool false,.bool false,.bool false,.bool false,.bool false,.bool false,.bool false,.bool false,.bool false,.bool false,.bool false,.bool false,.bool false,.bool false,.bool false,.bool false,.bool false,.bool false,.bool false,.bool false,.bool false,.bool false,.bool false,.bool false,.bool false,.bool false,.bool false,.bool false,.bool false,.bool false,.bool false,.bool false,.bool false,.bool false,.bool false,.bool false,.bool false,.bool false,.bool false,.bool false,.bool false,.bool false,.bool false,.bool false,.bool false,.bool false,.bool false,.bool false,.bool false,.bool false,.bool false,.bool false,.bool false,.bool false,.bool false,.bool false,.bool false,.bool false,.bool false,.bool false,.bool false,.bool false,.bool false,.bool false,.bool false,.bool false,.bool false,.bool false,.bool false,.bool false,.bool false,.bool false,.bool false,.bool false,.bool false,.bool false,.bool false,.bool false,.bool false,.bool false,.bool false,.bool false,.bool false,.bool false,.bool false,.bool false,.bool false,.bool false,.bool false,.bool false,.bool false,.bool false,.bool false,.bool false,.bool false,.bool false,.bool false,.bool false,.bool false,.bool false,.bool false,.bool false,.bool false,.bool false,.bool false,.bool false,.bool false,.bool false,.bool false,.bool false,.bool false,.bool false,.bool false,.bool false,.bool false,.bool false,.bool false,.bool false,.bool false,.bool false,.bool false,.bool false,.bool false,.bool false,.bool false,.bool false,.bool false,.bool false,.bool false,.bool false,.bool false,.bool false,.bool false,.bool false,.bool false,.bool false,.bool false,.bool false,.bool false,.bool false,.bool false,.bool false,.bool false,.bool false,.bool false,.bool false,.bool false,.bool false,.bool false,.bool false,.bool false,.bool false,.bool false,.bool false,.bool false,.bool false,.bool false,.bool false,.bool false,.bool false,.bool false,.bool false,.bool false,.bool false,.bool false,.bool false,.bool false,.bool false,.bool false,.bool false,.bool false,.bool false,.bool false,.bool false,.bool false,.bool false,.bool false,.bool false,.bool false,.bool false,.bool false,.bool false,.bool false,.bool false,.bool false,.bool false,.bool false,.bool false,.bool false,.bool false,.bool false,.bool false,.bool false,.bool false,.bool false,.bool false,.bool false,.bool false,.bool false,.bool false,.bool false,.bool false,.bool false,.bool false,.bool false,.bool false]),⟨none,none,.store 256 (.t 5) (.t 29)⟩,Jm 6 30] [0,1,5,6] (Js [Jm 31 6] [0,1,5,31] (.cond (.t 31) (Js [Jm 32 0,Jo 33 (Jc 159 [.t 32,.t 5]),Jm 4 33] [4] .ret) .skip))) (Js [Jm 34 0,Jm 35 1,Jo 36 (Jc 160 [.t 34,.t 35]),Jm 4 36] [4] .ret))))
def rs148:List RV:=[.t 4]
theorem enter148:EnT Tryd.prog 148 37 ac148 rs148:=Ent pl148 mixed Tryd.func148
def ac149:ACode:=Js [Jo 2 (.mov (Jk 0))] [0] (.seq (Js [Jm 3 0,Jo 4 (.bin .eql (.t 3) (.k (.int .u32 ((0:Nat):Int))))] [0,4] (.cond (.t 4) (Js [Jo 2 (.mov (Jk 32))] [2] .ret) .skip)) (Js [Jm 5 0,Jm 6 0,Jo 7 (.un .neg (.t 6)),Jb 8 .and 5 7,Jo 9 (.bin .mul (.t 8) (.k (.int .u32 ((125613361:Nat):Int)))),Jo 10 (.bin .shr (.t 9) (.k (.int .u64 ((27:Nat):Int)))),Jo 11 (.prim (.gix 0 32 1) [.t 10]),Jl 12 11,Jo 13 (.conv .i64 (.t 12)),Jm 2 13] [2] .ret))
def rs149:List RV:=[.t 2]
theorem enter149:EnT Tryd.prog 149 14 ac149 rs149:=Ent pl149 mixed Tryd.func149
def ac150:ACode:=Js [Jo 2 (.mov (Jk 0))] [0] (.seq (Js [Jm 3 0,Jo 4 (.bin .eql (.t 3) (.k (.int .u64 ((0:Nat):Int))))] [0,4] (.cond (.t 4) (Js [Jo 2 (.mov (Jk 64))] [2] .ret) .skip)) (Js [Jm 5 0,Jm 6 0,Jo 7 (.un .neg (.t 6)),Jb 8 .and 5 7,Jo 9 (.bin .mul (.t 8) (.k (.int .u64 ((285870213051353865:Nat):Int)))),Jo 10 (.bin .shr (.t 9) (.k (.int .u64 ((58:Nat):Int)))),Jo 11 (.prim (.gix 1 64 1) [.t 10]),Jl 12 11,Jo 13 (.conv .i64 (.t 12)),Jm 2 13] [2] .ret))
def rs150:List RV:=[.t 2]
theorem enter150:EnT Tryd.prog 150 14 ac150 rs150:=Ent pl150 mixed Tryd.func150
def ac151:ACode:=Js [Jo 2 (.mov (Jk 0))] [0,2] (.seq (Js [Jm 3 0,Jo 4 (.bin .geq (.t 3) (.k (.int .u32 ((65536:Nat):Int))))] [0,2,4] (.cond (.t 4) (Js [Jm 5 0,Jo 6 (.bin .shr (.t 5) (.k (.int .u64 ((16:Nat):Int)))),Jm 0 6] [0] (.reg [Jo 2 (.mov (Jk 16))] [0,2])) .skip)) (.seq (Js [Jm 7 0,Jo 8 (.bin .geq (.t 7) (.k (.int .u32 ((256:Nat):Int))))] [0,2,8] (.cond (.t 8) (Js [Jm 9 0,Jo 10 (.bin .shr (.t 9) (.k (.int .u64 ((8:Nat):Int)))),Jm 0 10] [0,2] (.reg [Jm 11 2,Jo 12 (.bin .add (.t 11) (Jk 8)),Jm 2 12] [0,2])) .skip)) (Js [Jm 13 2,Jm 14 0,Jo 15 (.conv .u8 (.t 14)),Jo 16 (.idxS (.k (.str ⟨#[0,1,2,2,3,3,3,3,4,4,4,4,4,4,4,4,5,5,5,5,5,5,5,5,5,5,5,5,5,5,5,5,6,6,6,6,6,6,6,6,6,6,6,6,6,6,6,6,6,6,6,6,6,6,6,6,6,6,6,6,6,6,6,6,7,7,7,7,7,7,7,7,7,7,7,7,7,7,7,7,7,7,7,7,7,7,7,7,7,7,7,7,7,7,7,7,7,7,7,7,7,7,7,7,7,7,7,7,7,7,7,7,7,7,7,7,7,7,7,7,7,7,7,7,7,7,7,7,8,8,8,8,8,8,8,8,8,8,8,8,8,8,8,8,8,8,8,8,8,8,8,8,8,8,8,8,8,8,8,8,8,8,8,8,8,8,8,8,8,8,8,8,8,8,8,8,8,8,8,8,8,8,8,8,8,8,8,8,8,8,8,8,8,8,8,8,8,8,8,8,8,8,8,8,8,8,8,8,8,8,8,8,8,8,8,8,8,8,8,8,8,8,8,8,8,8,8,8,8,8,8,8,8,8,8,8,8,8,8,8,8,8,8,8,8,8,8,8,8,8,8,8,8,8,8,8]⟩)) (.t 15)),Jo 17 (.conv .i64 (.t 16)),Jb 18 .add 13 17,Jm 2 18] [2] .ret)))
def rs151:List RV:=[.t 2]
theorem enter151:EnT Tryd.prog 151 19 ac151 rs151:=Ent pl151 mixed Tryd.func151
def ac152:ACode:=Js [Jo 2 (.mov (Jk 0))] [0] (Js [Jm 3 0,Jo 4 (Jc 151 [.t 3]),Jo 5 (.bin .sub (Jk 32) (.t 4)),Jm 2 5] [2] .ret)
def rs152:List RV:=[.t 2]
theorem enter152:EnT Tryd.prog 152 6 ac152 rs152:=Ent pl152 mixed Tryd.func152
def ac153:ACode:=Js [Jo 4 (.mov (.k (.int .u32 ((0:Nat):Int))))] [0,1] (.scope0 (Js [Jm 11 1,Jv 12 11,Jm 5 12] [0,1,5] (.seq (.draw [Jm 13 0,Jm 14 5,Ji 15 1 13 14,Jl 16 15,Jo 17 (.conv .u64 (.t 16)),Jo 18 (.bin .shl (.t 17) (.k (.int .u64 ((32:Nat):Int)))),Jm 19 0,Jm 20 5,Jo 21 (.bin .sub (.t 20) (Jk 1)),Ji 22 1 19 21,Jl 23 22,Jo 24 (.conv .u64 (.t 23))] [Jb 25 .or 18 24,Jm 6 25] [0,1,0,0,0,0,63,127,127,63,63,63] [0,1,5,6]) (.seq (.draw [Jm 26 6,Jm 27 1,Jm 28 5,Jo 29 (.bin .sub (.t 28) (Jk 1)),Ji 30 1 27 29,Jl 31 30,Jo 32 (.conv .u64 (.t 31)),Jb 33 .quo 26 32,Jm 34 6,Jm 35 1,Jm 36 5,Jo 37 (.bin .sub (.t 36) (Jk 1)),Ji 38 1 35 37,Jl 39 38,Jo 40 (.conv .u64 (.t 39)),Jb 41 .rem 34 40,Jm 7 33] [Jm 8 41] [0,1,3,3,1,1,1,0,255,511,1023,1023,511,511,511,255,65280] [0,1,5,7,8]) (.seq .skip (.seq (.block 0 (.loop (Jq (.draw [Jm 42 7,Jo 43 (.bin .shr (.t 42) (.k (.int .u64 ((32:Nat):Int)))),Jo 44 (.bin .gtr (.t 43) (.k (.int .u64 ((0:Nat):Int)))),Jm 45 44,⟨some 46,some (45,false),.mov (.t 7)⟩,⟨some 47,some (45,false),.mov (.t 1)⟩,⟨some 48,some (45,false),.mov (.t 5)⟩,⟨some 49,some (45,false),.bin .sub (.t 48) (Jk 2)⟩,⟨some 50,some (45,false),.idxA 1 (.t 47) (.t 49)⟩,⟨some 51,some (45,false),.load none (.t 50)⟩,⟨some 52,some (45,false),.conv .u64 (.t 51)⟩,⟨some 53,some (45,false),.bin .mul (.t 46) (.t 52)⟩,⟨some 54,some (45,false),.mov (.t 8)⟩,⟨some 55,some (45,false),.bin .shl (.t 54) (.k (.int .u64 ((32:Nat):Int)))⟩,⟨some 56,some (45,false),.mov (.t 0)⟩,⟨some 57,some (45,false),.mov (.t 5)⟩,⟨some 58,some (45,false),.bin .sub (.t 57) (Jk 2)⟩,⟨some 59,some (45,false),.idxA 1 (.t 56) (.t 58)⟩,⟨some 60,some (45,false),.load none (.t 59)⟩,⟨some 61,some (45,false),.conv .u64 (.t 60)⟩,⟨some 62,some (45,false),.bin .or (.t 55) (.t 61)⟩] [⟨some 63,some (45,false),.bin .gtr (.t 53) (.t 62)⟩,Jo 64 (.pick (.t 45) (.k (.bool true)) (.t 63))] [0,0,0,0,0,16,48,48,16,16,16,0,4080,4080,16368,32752,32752,16368,16368,16368,4080] [0,1,5,7,8,64]) (.cond (.t 64) .skip (.exit 0)) (.block 1 (Js [Jm 65 7,Jo 66 (.bin .sub (.t 65) (.k (.int .u64 ((1:Nat):Int)))),Jm 7 66] [0,1,5,7,8] (Js [Jm 67 8,Jm 68 1,Jm 69 5,Jo 70 (.bin .sub (.t 69) (Jk 1)),Ji 71 1 68 70,Jl 72 71,Jo 73 (.conv .u64 (.t 72)),Jb 74 .add 67 73,Jm 8 74] [0,1,5,7,8] (Js [Jm 75 8,Jo 76 (.bin .shr (.t 75) (.k (.int .u64 ((32:Nat):Int)))),Jo 77 (.bin .gtr (.t 76) (.k (.int .u64 ((0:Nat):Int))))] [0,1,5,7,8,77] (.cond (.t 77) (.exit 0) .skip)))))))) (.seq (Js [Jm 78 0,Jm 79 1,Jm 80 7,Jo 81 (Jc 161 [.t 78,.t 79,.t 80]),Jo 82 (.un .not (.t 81))] [0,1,5,7,82] (.cond (.t 82) (Js [Jm 83 7,Jo 84 (.conv .u32 (.t 83)),Jm 4 84] [4] .ret) .skip)) (Js [Jm 85 7,Jo 86 (.bin .sub (.t 85) (.k (.int .u64 ((1:Nat):Int)))),Jm 7 86] [0,1,5,7] (Js [Jo 9 (.mov (.k (.int .u64 ((0:Nat):Int))))] [0,1,5,7,9] (.seq (Js [Jm 87 0,Jv 88 87,Jo 89 (.mov (Jk 0))] [0,1,5,7,9,88,89] (.block 2 (.loop (Js [Jb 90 .lss 89 88] [0,1,5,7,9,88,89,90] (.seq (.cond (.t 90) .skip (.exit 2)) (.seq (.block 3 (Js [Jm 91 89,Jm 10 91] [0,1,5,7,9,10,88,89] (Js [Jm 92 9,Jm 93 0,Jm 94 10,Ji 95 1 93 94,Jl 96 95,Jo 97 (.conv .u64 (.t 96)),Jb 98 .add 92 97,Jm 9 98] [0,1,5,7,9,10,88,89] (.seq (Js [Jm 99 10,Jm 100 5,Jb 101 .lss 99 100] [0,1,5,7,9,10,88,89,101] (.cond (.t 101) (.reg [Jm 102 9,Jm 103 1,Jm 104 10,Ji 105 1 103 104,Jl 106 105,Jo 107 (.conv .u64 (.t 106)),Jb 108 .add 102 107,Jm 9 108] [0,1,5,7,9,10,88,89]) .skip)) (Js [Jm 109 0,Jm 110 10,Jm 111 9,Jo 112 (.conv .u32 (.t 111)),Ji 113 1 109 110,⟨none,none,.store 1 (.t 113) (.t 112)⟩] [0,1,5,7,9,88,89] (.reg [Jm 114 9,Jo 115 (.bin .shr (.t 114) (.k (.int .u64 ((32:Nat):Int)))),Jm 9 115] [0,1,5,7,9,88,89])))))) (.reg [Jo 116 (.bin .add (.t 89) (Jk 1)),Jm 89 116] [0,1,5,7,9,88,89]))))))) (Js [Jm 117 7,Jo 118 (.conv .u32 (.t 117)),Jm 4 118] [4] .ret)))))))))))
def rs153:List RV:=[.t 4]
theorem enter153:EnT Tryd.prog 153 119 ac153 rs153:=Ent pl153 mixed Tryd.func153
def ac154:ACode:=Js [Jo 2 (.mov (Jk 0))] [0] (.seq (Js [Jm 5 0,Jv 6 5,Jo 7 (.mov (Jk 0))] [5,6,7] (.block 0 (.loop (Js [Jb 8 .lss 7 6] [5,6,7,8] (.seq (.cond (.t 8) .skip (.exit 0)) (.seq (.block 1 (Js [Jm 9 7,Ji 10 1 5 7,Jl 11 10,Jm 3 9,Jm 4 11] [3,4,5,6,7] (Js [Jm 12 4,Jo 13 (.bin .gtr (.t 12) (.k (.int .u32 ((0:Nat):Int))))] [3,4,5,6,7,13] (.cond (.t 13) (Js [Jm 14 3,Jo 15 (.bin .mul (Jk 32) (.t 14)),Jm 16 4,Jo 17 (Jc 149 [.t 16]),Jb 18 .add 15 17,Jm 2 18] [2] .ret) .skip)))) (.reg [Jo 19 (.bin .add (.t 7) (Jk 1)),Jm 7 19] [5,6,7]))))))) (Js [Jo 2 (.mov (Jk 0))] [2] .ret))
def rs154:List RV:=[.t 2]
theorem enter154:EnT Tryd.prog 154 20 ac154 rs154:=Ent pl154 mixed Tryd.func154
def ac155:ACode:=Js [Jm 2 0,Jo 3 (.prim .nck [.t 2]),Jf 4 0 3,Jl 5 4,Jo 6 (.prim (.peq false) [.t 5,.k .nilP])] [0,6] (.cond (.t 6) (.reg [Jm 7 0,Jm 8 0,Jo 9 (.prim .toU [.t 8]),Jm 10 9,Jo 11 (.prim (.fromU 183 2) [.t 10]),Jo 12 (.prim .nck [.t 7]),Jf 13 0 12,⟨none,none,.store 1 (.t 13) (.t 11)⟩] []) (Js [Jm 14 0,Jo 15 (.prim .nck [.t 14]),Jf 16 0 15,Jl 17 16,Jm 18 0,Jo 19 (.prim (.peq true) [.t 17,.t 18])] [19] (.cond (.t 19) .refuse .skip)))
def rs155:List RV:=[]
theorem enter155:EnT Tryd.prog 155 20 ac155 rs155:=Ent pl155 mixed Tryd.func155
def ac157:ACode:=Js [Jo 4 (.mov (.k (.str ⟨#[]⟩)))] [0,1] (.seq (.block 0 (.loop (.seq (Js [Jm 5 0,Jo 6 (.len true (.t 5)),Jo 7 (.bin .gtr (.t 6) (Jk 0)),Jm 8 7,⟨some 9,some (8,true),.mov (.t 0)⟩,⟨some 10,some (8,true),.idxS (.t 9) (Jk 0)⟩,⟨some 11,some (8,true),.mov (.t 1)⟩,⟨some 12,some (8,true),.bin .eql (.t 10) (.t 11)⟩,Jo 13 (.pick (.t 8) (.t 12) (.k (.bool false)))] [0,1,13] (.cond (.t 13) .skip (.exit 0))) (.block 1 (.reg [Jm 14 0,Jo 15 (.slcS (.t 14) (some (Jk 1)) none),Jm 0 15] [0,1]))))) (Js [Jm 16 0,Jm 4 16] [4] .ret))
def rs157:List RV:=[.t 4]
theorem enter157:EnT Tryd.prog 157 17 ac157 rs157:=Ent pl157 mixed Tryd.func157
def ac161:ACode:=Js [Jo 6 (.mov (.k (.bool false)))] [0,1,2] (Js [Jo 7 (.mov (.k (.int .u64 ((0:Nat):Int)))),Jo 8 (.mov (.k (.int .u64 ((0:Nat):Int))))] [0,1,2,7,8] (.seq (Js [Jm 11 0,Jv 12 11,Jo 13 (.mov (Jk 0))] [0,1,2,7,8,12,13] (.block 0 (.loop (Js [Jb 14 .lss 13 12] [0,1,2,7,8,12,13,14] (.seq (.cond (.t 14) .skip (.exit 0)) (.seq (.block 1 (Js [Jm 15 13,Jm 9 15] [0,1,2,7,8,9,12,13] (.seq (Js [Jm 16 9,Jm 17 1,Jv 18 17,Jb 19 .lss 16 18] [0,1,2,7,8,9,12,13,19] (.cond (.t 19) (.reg [Jm 20 7,Jm 21 1,Jm 22 9,Ji 23 1 21 22,Jl 24 23,Jo 25 (.conv .u64 (.t 24)),Jm 26 2,Jb 27 .mul 25 26,Jb 28 .add 20 27,Jm 7 28] [0,1,2,7,8,9,12,13]) .skip)) (Js [Jm 29 0,Jm 30 9,Ji 31 1 29 30,Jl 32 31,Jo 33 (.conv .u64 (.t 32)),Jm 34 7,Jo 35 (.bin .and (.t 34) (.k (.int .u64 ((4294967295:Nat):Int)))),Jb 36 .sub 33 35,Jm 37 8,Jb 38 .sub 36 37,Jm 10 38] [0,1,2,7,9,10,12,13] (Js [Jm 39 7,Jo 40 (.bin .shr (.t 39) (.k (.int .u64 ((32:Nat):Int)))),Jm 7 40] [0,1,2,7,9,10,12,13] (Js [Jm 41 0,Jm 42 9,Jm 43 10,Jo 44 (.conv .u32 (.t 43)),Ji 45 1 41 42,⟨none,none,.store 1 (.t 45) (.t 44)⟩] [0,1,2,7,10,12,13] (.reg [Jm 46 10,Jo 47 (.bin .shr (.t 46) (.k (.int .u64 ((32:Nat):Int)))),Jo 48 (.bin .and (.t 47) (.k (.int .u64 ((1:Nat):Int)))),Jm 8 48] [0,1,2,7,8,12,13]))))))) (.reg [Jo 49 (.bin .add (.t 13) (Jk 1)),Jm 13 49] [0,1,2,7,8,12,13]))))))) (Js [Jm 50 8,Jo 51 (.bin .gtr (.t 50) (.k (.int .u64 ((0:Nat):Int)))),Jm 6 51] [6] .ret)))
def rs161:List RV:=[.t 6]
theorem enter161:EnT Tryd.prog 161 52 ac161 rs161:=Ent pl161 mixed Tryd.func161
end Go.Proofs.YtmndejlpfmmaiaaDoor.Fw
namespace Go.Proofs.YtmndejlpfmmaiaaDoor.Fw
open Go Go.Proofs.YtmndejlpfmmaiaaDoor.Ma
theorem load_LS0{H:AHeap}{K:AV→Prop}{l:List Nat}(h:0<l.length):loadW H none (.cptr (U l)) K=K (.int .u32 ((l.getD 0 0:Nat):Int)):=by
 have:=load_LS (H:=H) (K:=K) (l:=l) (i:=0) h
 rwa[List.drop_zero]at this
theorem digs_len0{B n:Nat}(hB:2≤B):((digs B n).length=0)=(n=0):=by
 rw[List.length_eq_zero_iff];exact propext (digs_nil hB)
theorem digs_pos_len{B n:Nat}(hB:2≤B):(0<(digs B n).length)=(0<n):=by
 apply propext
 have:=digs_nil (n:=n) hB
 cases h:digs B n with
 |nil=>have:=this.1 h;simp[this]
 |cons x l=>rcases Nat.eq_zero_or_pos n with e|e
            ·rw[e,digs_zero]at h;cases h
            ·simp[e]
theorem trim_fn(l:List Nat)(t:Bool):PFn Tryd.prog 88 [LS l t] (LS (tr l) true):=by
 intro H Q hq
 refine enter88 (by simp) ?_
 simp(disch:=first|exact Xe|fail)only[ac88,len_LS,len_own,↓Xa,Xb,Xc,↓reduceIte,Nat.reduceLT,Nat.reduceEqDiff,Nat.reduceBEq,Nat.reduceLeDiff,Nat.reduceAdd,Nat.reduceMul]
 intro hl
 refine W_loop (fun n:Nat=>⟨[],[(0,LS l t),(3,.int .i64 n)],H⟩) (fun n=>n≤l.length∧∀i,n≤i→i<l.length→l.getD i 0=0) id l.length (Settle.now rfl) ⟨Nat.le_refl _,fun i h1 h2=>absurd h1 (by omega)⟩ ?_
 rintro n ⟨hn,hz⟩
 have fin:(n=0∨l.getD (n-1) 0≠0)→SetR Q (LS (l.take n) true) H:=fun h=>by rw[tr_take hn hz h];exact SetR.now hq
 by_cases h0:0<n
 ·by_cases h1:l.getD (n-1) 0=0
  ·simp(disch:=first|exact Xe|fail)only[h0,h1,len_LS,len_own,↓Xa,Xb,Xc,↓reduceIte,Nat.reduceLT,Nat.reduceEqDiff,Nat.reduceBEq,Nat.reduceLeDiff,Nat.reduceAdd,Nat.reduceMul]
   refine Settle.now ⟨n-1,?_,⟨by omega,fun i hi hl'=>?_⟩,rfl⟩
   ·show n-1<n;omega
   ·rcases Nat.lt_or_ge i n with h|h
    ·rw[show i=n-1 by omega];exact h1
    ·exact hz i h hl'
  ·simp(disch:=first|exact Xe|fail)only[h0,h1,len_LS,len_own,↓Xa,Xb,Xc,↓reduceIte,Nat.reduceLT,Nat.reduceEqDiff,Nat.reduceBEq,Nat.reduceLeDiff,Nat.reduceAdd,Nat.reduceMul]
   refine Settle.now ?_
   simp(disch:=first|exact Xe|fail)only[rs88,len_LS,len_own,↓Xa,Xb,Xc,↓reduceIte,Nat.reduceLT,Nat.reduceEqDiff,Nat.reduceBEq,Nat.reduceLeDiff,Nat.reduceAdd,Nat.reduceMul]
   exact fin (.inr h1)
 ·simp(disch:=first|exact Xe|fail)only[h0,len_LS,len_own,↓Xa,Xb,Xc,↓reduceIte,Nat.reduceLT,Nat.reduceEqDiff,Nat.reduceBEq,Nat.reduceLeDiff,Nat.reduceAdd,Nat.reduceMul]
  refine Settle.now ?_
  simp(disch:=first|exact Xe|fail)only[rs88,len_LS,len_own,↓Xa,Xb,Xc,↓reduceIte,Nat.reduceLT,Nat.reduceEqDiff,Nat.reduceBEq,Nat.reduceLeDiff,Nat.reduceAdd,Nat.reduceMul]
  exact fin (.inl (by omega))
theorem trim_own{l:List Nat}{b ty n:Nat}{t:Bool}{H:AHeap}{Q:AV→AHeap→Prop}(hH:H b=some (.row ty 1 (U l)))(hn:l.length=n)(hq:Q (.own b n 0 (tr l).length true) H):Run Tryd.prog 88 [.own b n 0 n t] H Q:=by
 subst hn
 refine enter88 (by simp) ?_
 simp(disch:=first|exact Xe|fail)only[ac88,len_LS,len_own,↓Xa,Xb,Xc,↓reduceIte,Nat.reduceLT,Nat.reduceEqDiff,Nat.reduceBEq,Nat.reduceLeDiff,Nat.reduceAdd,Nat.reduceMul]
 intro hl
 refine W_loop (fun n:Nat=>⟨[],[(0,.own b l.length 0 l.length t),(3,.int .i64 n)],H⟩) (fun n=>n≤l.length∧∀i,n≤i→i<l.length→l.getD i 0=0) id l.length (Settle.now rfl) ⟨Nat.le_refl _,fun i h1 h2=>absurd h1 (by omega)⟩ ?_
 rintro n ⟨hn,hz⟩
 have fin:(n=0∨l.getD (n-1) 0≠0)→SetR Q (.own b l.length 0 n true) H:=fun h=>by
  have:=congrArg List.length (tr_take hn hz h)
  rw[List.length_take,Nat.min_eq_left hn]at this
  rw[this];exact SetR.now hq
 by_cases h0:0<n
 ·by_cases h1:l.getD (n-1) 0=0
  ·simp(disch:=first|exact Xe|fail)only[h0,h1,hH,len_LS,len_own,↓Xa,Xb,Xc,↓reduceIte,Nat.reduceLT,Nat.reduceEqDiff,Nat.reduceBEq,Nat.reduceLeDiff,Nat.reduceAdd,Nat.reduceMul]
   refine Settle.now ⟨n-1,?_,⟨by omega,fun i hi hl'=>?_⟩,rfl⟩
   ·show n-1<n;omega
   ·rcases Nat.lt_or_ge i n with h|h
    ·rw[show i=n-1 by omega];exact h1
    ·exact hz i h hl'
  ·simp(disch:=first|exact Xe|fail)only[h0,h1,hH,len_LS,len_own,↓Xa,Xb,Xc,↓reduceIte,Nat.reduceLT,Nat.reduceEqDiff,Nat.reduceBEq,Nat.reduceLeDiff,Nat.reduceAdd,Nat.reduceMul]
   refine Settle.now ?_
   simp(disch:=first|exact Xe|fail)only[rs88,hH,len_LS,len_own,↓Xa,Xb,Xc,↓reduceIte,Nat.reduceLT,Nat.reduceEqDiff,Nat.reduceBEq,Nat.reduceLeDiff,Nat.reduceAdd,Nat.reduceMul]
   exact fin (.inr h1)
 ·simp(disch:=first|exact Xe|fail)only[h0,hH,len_LS,len_own,↓Xa,Xb,Xc,↓reduceIte,Nat.reduceLT,Nat.reduceEqDiff,Nat.reduceBEq,Nat.reduceLeDiff,Nat.reduceAdd,Nat.reduceMul]
  refine Settle.now ?_
  simp(disch:=first|exact Xe|fail)only[rs88,hH,len_LS,len_own,↓Xa,Xb,Xc,↓reduceIte,Nat.reduceLT,Nat.reduceEqDiff,Nat.reduceBEq,Nat.reduceLeDiff,Nat.reduceAdd,Nat.reduceMul]
  exact fin (.inl (by omega))
theorem trim_call{l:List Nat}{b ty n:Nat}{t:Bool}{H:AHeap}{K:AV→AHeap→Prop}(hH:H b=some (.row ty 1 (U l)))(hn:l.length=n)(k:K (.own b n 0 (tr l).length true) H):callW Tryd.prog (.fn (.func 88) [] []) [.own b n 0 n t] H K:=by
 simpa[callW]using trim_own (t:=t) hH hn k
theorem frz_tr{l:List Nat}{b n:Nat}(hn:l.length=n):frz b 1 (U l) (.own b n 0 (tr l).length true)=LS (tr l) true:=by
 subst hn
 have h1:=tr_len l
 obtain⟨k,h2⟩:=tr_pre l
 have h3:(U l).take (tr l).length=U (tr l):=by
  rw[← U_take];congr 1
  generalize tr l=x at*
  rw[h2];simp
 simp[frz,frz2,frz1,LS,h1,h3]
theorem fin_tr{l:List Nat}{b ty n:Nat}{H:AHeap}{Q:AV→AHeap→Prop}(hb:H b=none)(hn:l.length=n)(hq:Q (LS (tr l) true) H):SetR Q (.own b n 0 (tr l).length true) (H.upd b (some (.row ty 1 (U l)))):=by
 refine SetR.frz b (upd_same _ _ _) ?_
 rw[frz_tr hn,upd_upd,upd_back _ hb]
 exact SetR.now hq
theorem frz2_tr{l:List Nat}{b n:Nat}(hn:l.length=n):frz2 b 1 (U l) (.own b n 0 (tr l).length true)=LS (tr l) true:=frz_tr hn
theorem frz2_int{b es:Nat}{c:List AV}{k:IntKind}{n:Int}:frz2 b es c (.int k n)=.int k n:=rfl
theorem fin_tr2{l:List Nat}{b ty n:Nat}{H:AHeap}{Q:AV→AHeap→Prop}{k:IntKind}{m:Int}(hb:H b=none)(hn:l.length=n)(hq:Q (.tup [LS (tr l) true,.int k m]) H):SetR Q (.tup [.own b n 0 (tr l).length true,.int k m]) (H.upd b (some (.row ty 1 (U l)))):=by
 refine SetR.frz b (upd_same _ _ _) ?_
 rw[upd_upd,upd_back _ hb,frz,List.map_cons,List.map_cons,List.map_nil,frz2_tr hn,frz2_int]
 exact SetR.now hq
theorem fin_tr3{l:List Nat}{b ty n:Nat}{H:AHeap}{Q:AV→AHeap→Prop}{k k':IntKind}{m m':Int}(hb:H b=none)(hn:l.length=n)(hq:Q (.tup [LS (tr l) true,.int k m,.int k' m']) H):SetR Q (.tup [.own b n 0 (tr l).length true,.int k m,.int k' m']) (H.upd b (some (.row ty 1 (U l)))):=by
 refine SetR.frz b (upd_same _ _ _) ?_
 rw[upd_upd,upd_back _ hb,frz,List.map_cons,List.map_cons,List.map_cons,List.map_nil,frz2_tr hn,frz2_int,frz2_int]
 exact SetR.now hq
theorem norm_fn{l:List Nat}(t:Bool)(hl:l.length≤70368744177664):PFn Tryd.prog 127 [LS l t] (LS (tr l) true):=by
 intro H Q hq
 refine enter127 (by simp) ?_
 simp(disch:=first|exact Xe|fail)only[ac127,len_LS,len_own,↓Xa,Xb,Xc,↓reduceIte,Nat.reduceLT,Nat.reduceEqDiff,Nat.reduceBEq,Nat.reduceLeDiff,Nat.reduceAdd,Nat.reduceMul]
 refine(trim_fn l t).call ?_
 have h1:=tr_len l
 simp(disch:=first|exact Xe|fail)only[len_LS,len_own,↓Xa,Xb,Xc,↓reduceIte,Nat.reduceLT,Nat.reduceEqDiff,Nat.reduceBEq,Nat.reduceLeDiff,Nat.reduceAdd,Nat.reduceMul]
 intro h2
 refine newU_i fun b hb=>?_
 simp(disch:=first|exact Xe|fail)only[len_LS,len_own,↓Xa,Xb,Xc,↓reduceIte,Nat.reduceLT,Nat.reduceEqDiff,Nat.reduceBEq,Nat.reduceLeDiff,Nat.reduceAdd,Nat.reduceMul]
 refine cpy_U (upd_same _ _ _) (by simp) rfl ?_
 simp(disch:=first|exact Xe|fail)only[rs127,len_LS,len_own,↓Xa,Xb,Xc,↓reduceIte,Nat.reduceLT,Nat.reduceEqDiff,Nat.reduceBEq,Nat.reduceLeDiff,Nat.reduceAdd,Nat.reduceMul]
 refine SetR.frz b (upd_same _ _ _) ?_
 rw[upd_upd,upd_back _ hb]
 have e:frz b 1 (U (tr l)) (.own b (tr l).length 0 (tr l).length true)=LS (tr l) true:=by simp[frz,frz2,frz1,LS,List.take_of_length_le]
 rw[e];exact SetR.now hq
def cmpZ(a b:Nat):Int:=if a<b then -1 else if b<a then((1:Nat):Int)else((0:Nat):Int)
theorem cmp_fn{a b:List Nat}(ta tb:Bool)(ha:Lim 4294967296 a)(hb:Lim 4294967296 b):PFn Tryd.prog 53 [LS a ta,LS b tb] (.int .i64 (cmpZ (val 4294967296 a) (val 4294967296 b))):=by
 intro H Q hq
 refine enter53 (by simp) ?_
 simp(disch:=first|exact Xe|fail)only[ac53,len_LS,len_own,↓Xa,Xb,Xc,↓reduceIte,Nat.reduceLT,Nat.reduceEqDiff,Nat.reduceBEq,Nat.reduceLeDiff,Nat.reduceAdd,Nat.reduceMul]
 refine(trim_fn a ta).call ?_
 simp(disch:=first|exact Xe|fail)only[len_LS,len_own,↓Xa,Xb,Xc,↓reduceIte,Nat.reduceLT,Nat.reduceEqDiff,Nat.reduceBEq,Nat.reduceLeDiff,Nat.reduceAdd,Nat.reduceMul]
 refine(trim_fn b tb).call ?_
 rw[tr_digs (by omega) ha,tr_digs (by omega) hb]
 generalize val 4294967296 a=m at*
 generalize val 4294967296 b=n at*
 have hx:=lim_digs (B:=4294967296) (by omega) m
 have hy:=lim_digs (B:=4294967296) (by omega) n
 have vx:=val_digs (B:=4294967296) (by omega) m
 have vy:=val_digs (B:=4294967296) (by omega) n
 have lt1:=digs_lt_len (B:=4294967296) (a:=m) (b:=n) (by omega)
 have lt2:=digs_lt_len (B:=4294967296) (a:=n) (b:=m) (by omega)
 generalize digs 4294967296 m=x at*
 generalize digs 4294967296 n=y at*
 have less:m<n→SetR Q (.int .i64 (-1)) H:=fun h=>by
  have:cmpZ m n= -1:=by simp[cmpZ,h]
  rw[← this];exact SetR.now hq
 have more:n<m→SetR Q (.int .i64 ((1:Nat):Int)) H:=fun h=>by
  have:cmpZ m n=((1:Nat):Int):=by simp[cmpZ,h,Nat.not_lt_of_lt h]
  rw[← this];exact SetR.now hq
 by_cases c1:x.length<y.length
 ·simp(disch:=first|exact Xe|fail)only[c1,rs53,len_LS,len_own,↓Xa,Xb,Xc,↓reduceIte,Nat.reduceLT,Nat.reduceEqDiff,Nat.reduceBEq,Nat.reduceLeDiff,Nat.reduceAdd,Nat.reduceMul]
  intro _ _
  exact less (lt1 c1)
 by_cases c2:y.length<x.length
 ·simp(disch:=first|exact Xe|fail)only[c1,c2,rs53,len_LS,len_own,↓Xa,Xb,Xc,↓reduceIte,Nat.reduceLT,Nat.reduceEqDiff,Nat.reduceBEq,Nat.reduceLeDiff,Nat.reduceAdd,Nat.reduceMul]
  intro _ _ _ _
  exact more (lt2 c2)
 simp(disch:=first|exact Xe|fail)only[c1,c2,len_LS,len_own,↓Xa,Xb,Xc,↓reduceIte,Nat.reduceLT,Nat.reduceEqDiff,Nat.reduceBEq,Nat.reduceLeDiff,Nat.reduceAdd,Nat.reduceMul]
 intro l1 l2
 intros
 simp(disch:=first|exact Xe|fail)only[len_LS,len_own,↓Xa,Xb,Xc,↓reduceIte,Nat.reduceLT,Nat.reduceEqDiff,Nat.reduceBEq,Nat.reduceLeDiff,Nat.reduceAdd,Nat.reduceMul]
 have hlen:x.length=y.length:=by omega
 refine W_loop (fun k:Nat=>⟨[],[(0,LS x true),(1,LS y true),(5,.int .i64 (dn k))],H⟩) (fun k=>k≤x.length∧x.drop k=y.drop k) id x.length (Settle.now rfl) ⟨Nat.le_refl _,by rw[List.drop_of_length_le (Nat.le_refl _),List.drop_of_length_le (by omega)]⟩ ?_
 rintro k ⟨hk,hd⟩
 cases k with
 |zero=>
  simp(disch:=first|exact Xe|fail)only[len_LS,len_own,↓Xa,Xb,Xc,↓reduceIte,Nat.reduceLT,Nat.reduceEqDiff,Nat.reduceBEq,Nat.reduceLeDiff,Nat.reduceAdd,Nat.reduceMul]
  refine Settle.now ?_
  simp(disch:=first|exact Xe|fail)only[rs53,len_LS,len_own,↓Xa,Xb,Xc,↓reduceIte,Nat.reduceLT,Nat.reduceEqDiff,Nat.reduceBEq,Nat.reduceLeDiff,Nat.reduceAdd,Nat.reduceMul]
  have e:m=n:=by rw[← vx,← vy];rw[List.drop_zero,List.drop_zero]at hd;rw[hd]
  have:cmpZ m n=((0:Nat):Int):=by simp[cmpZ,e]
  rw[← this];exact SetR.now hq
 |succ k=>
  by_cases d1:x.getD k 0<y.getD k 0
  ·simp(disch:=first|exact Xe|fail)only[d1,rs53,len_LS,len_own,↓Xa,Xb,Xc,↓reduceIte,Nat.reduceLT,Nat.reduceEqDiff,Nat.reduceBEq,Nat.reduceLeDiff,Nat.reduceAdd,Nat.reduceMul]
   exact less (by rw[← vx,← vy];exact val_lt_high hx (by omega) k (by omega) hlen hd d1)
  by_cases d2:y.getD k 0<x.getD k 0
  ·simp(disch:=first|exact Xe|fail)only[d1,d2,rs53,len_LS,len_own,↓Xa,Xb,Xc,↓reduceIte,Nat.reduceLT,Nat.reduceEqDiff,Nat.reduceBEq,Nat.reduceLeDiff,Nat.reduceAdd,Nat.reduceMul]
   exact more (by rw[← vx,← vy];exact val_lt_high hy (by omega) k (by omega) hlen.symm hd.symm d2)
  simp(disch:=first|exact Xe|fail)only[d1,d2,len_LS,len_own,↓Xa,Xb,Xc,↓reduceIte,Nat.reduceLT,Nat.reduceEqDiff,Nat.reduceBEq,Nat.reduceLeDiff,Nat.reduceAdd,Nat.reduceMul]
  refine Settle.now ⟨k,Nat.lt_succ_self k,⟨by omega,?_⟩,rfl⟩
  rw[List.drop_eq_getElem_cons (by omega),List.drop_eq_getElem_cons (i:=k) (l:=y) (by omega),hd]
  congr 1
  have e1:x.getD k 0=x[k]:=by simp[List.getD_eq_getElem?_getD,List.getElem?_eq_getElem (show k<x.length by omega)]
  have e2:y.getD k 0=y[k]:=by simp[List.getD_eq_getElem?_getD,List.getElem?_eq_getElem (show k<y.length by omega)]
  omega
end Go.Proofs.YtmndejlpfmmaiaaDoor.Fw
namespace Go.Proofs.YtmndejlpfmmaiaaDoor.Fw
open Go Go.Proofs.YtmndejlpfmmaiaaDoor.Ma
set_option maxRecDepth 20000
theorem add_tail{a b:List Nat}{ta tb:Bool}{H:AHeap}{Q:AV→AHeap→Prop}(hab:b.length≤a.length)(ha:Lim 4294967296 a)(hb:Lim 4294967296 b)(hl:a.length≤1099511627776)
 (hq:Q (LS (digs 4294967296 (val 4294967296 a+val 4294967296 b)) true) H):W Tryd.prog (hold (sndC (sndC ac52))) (retN rs52 Q) ⟨[],[(0,LS a ta),(1,LS b tb)],H⟩:=by
 simp(disch:=first|exact Xe|fail)only[ac52,hold,sndC,↓Xa,Xb,Xc,↓reduceIte,Nat.reduceLT,Nat.reduceEqDiff,Nat.reduceBEq,Nat.reduceLeDiff,Nat.reduceAdd,Nat.reduceMul]
 refine newU_i fun o ho=>?_
 simp(disch:=first|exact Xe|fail)only[↓Xa,Xb,Xc,↓reduceIte,Nat.reduceLT,Nat.reduceEqDiff,Nat.reduceBEq,Nat.reduceLeDiff,Nat.reduceAdd,Nat.reduceMul]
 refine W_loop (fun p:Nat×Nat×List Nat=>⟨[],[(0,LS a ta),(1,LS b tb),(5,.own o (a.length+1) 0 (a.length+1) true),(6,.int .u64 p.2.1),(20,LS a ta),(21,.int .i64 a.length),(22,.int .i64 p.1)],
  H.upd o (some (.row 149 1 (U (p.2.2++List.replicate (a.length+1-p.1) 0))))⟩)
  (fun p=>p.1≤a.length∧AddI a b p.1 p.2.1 p.2.2) (fun p=>a.length-p.1) (0,0,[]) (Settle.now rfl) ⟨by simp,AddI.zero a b⟩ ?_
 rintro⟨i,c,done⟩ ⟨h1,h2⟩
 dsimp only at h1 h2 ⊢
 have hdl:=h2.1
 have hc:=h2.2.2.1
 by_cases hi:i<a.length
 ·have hx:=ha.getD (by omega) i
  have hy:=hb.getD (by omega) i
  by_cases hj:i<b.length
  ·simp(disch:=first|exact Xe|fail)only[hi,hj,↓Xa,Xb,Xc,↓reduceIte,Nat.reduceLT,Nat.reduceEqDiff,Nat.reduceBEq,Nat.reduceLeDiff,Nat.reduceAdd,Nat.reduceMul]
   refine Settle.now ⟨(i+1,_,done++[_]),by dsimp only;omega,⟨by dsimp only;omega,h2.step ha hb rfl⟩,?_⟩
   rw[set_zeros' _ _ _ _ hdl (by omega)]
  ·simp(disch:=first|exact Xe|fail)only[hi,hj,↓Xa,Xb,Xc,↓reduceIte,Nat.reduceLT,Nat.reduceEqDiff,Nat.reduceBEq,Nat.reduceLeDiff,Nat.reduceAdd,Nat.reduceMul]
   have:=getD_beyond (show b.length≤i by omega)
   refine Settle.now ⟨(i+1,_,done++[_]),by dsimp only;omega,⟨by dsimp only;omega,h2.step ha hb (s:=c+a.getD i 0) (by omega)⟩,?_⟩
   rw[set_zeros' _ _ _ _ hdl (by omega)]
 ·obtain rfl:i=a.length:=by omega
  simp(disch:=first|exact Xe|fail)only[hi,↓Xa,Xb,Xc,↓reduceIte,Nat.reduceLT,Nat.reduceEqDiff,Nat.reduceBEq,Nat.reduceLeDiff,Nat.reduceAdd,Nat.reduceMul]
  refine Settle.now ?_
  simp(disch:=first|exact Xe|fail)only[↓Xa,Xb,Xc,↓reduceIte,Nat.reduceLT,Nat.reduceEqDiff,Nat.reduceBEq,Nat.reduceLeDiff,Nat.reduceAdd,Nat.reduceMul]
  rw[set_zeros _ _ _ _ hdl (by omega),show a.length+1-a.length-1=0 by omega,List.replicate_zero,List.append_nil]
  refine trim_call (upd_same _ _ _) (by simp[hdl]) ?_
  simp(disch:=first|exact Xe|fail)only[rs52,↓Xa,Xb,Xc,↓reduceIte,Nat.reduceLT,Nat.reduceEqDiff,Nat.reduceBEq,Nat.reduceLeDiff,Nat.reduceAdd,Nat.reduceMul]
  exact fin_tr ho (by simp[hdl]) (by rw[h2.end hab];exact hq)
theorem add_fn{a b:List Nat}(ta tb:Bool)(ha:Lim 4294967296 a)(hb:Lim 4294967296 b)(hla:a.length≤1099511627776)(hlb:b.length≤1099511627776):PFn Tryd.prog 52 [LS a ta,LS b tb] (LS (digs 4294967296 (val 4294967296 a+val 4294967296 b)) true):=by
 intro H Q hq
 refine enter52 (by simp) ?_
 rw[show ac52=.seq (fstC ac52) (.seq (fstC (sndC ac52)) (hold (sndC (sndC ac52))))from rfl]
 by_cases c:a.length<b.length
 ·simp(disch:=first|exact Xe|fail)only[c,fstC,sndC,ac52,↓Xa,Xb,Xc,↓reduceIte,Nat.reduceLT,Nat.reduceEqDiff,Nat.reduceBEq,Nat.reduceLeDiff,Nat.reduceAdd,Nat.reduceMul]
  exact add_tail (by omega) hb ha hlb (by rw[Nat.add_comm];exact hq)
 ·simp(disch:=first|exact Xe|fail)only[c,fstC,sndC,ac52,↓Xa,Xb,Xc,↓reduceIte,Nat.reduceLT,Nat.reduceEqDiff,Nat.reduceBEq,Nat.reduceLeDiff,Nat.reduceAdd,Nat.reduceMul]
  exact add_tail (by omega) ha hb hla hq
theorem sub_fn{a b:List Nat}(ta tb:Bool)(ha:Lim 4294967296 a)(hb:Lim 4294967296 b)(hab:val 4294967296 b≤val 4294967296 a)(hl:a.length≤1099511627776)(hlb:b.length≤1099511627776):
 PFn Tryd.prog 54 [LS a ta,LS b tb] (.tup [LS (digs 4294967296 (val 4294967296 a-val 4294967296 b)) true,.int .i64 ((0:Nat):Int)]):=by
 intro H Q hq
 refine enter54 (by simp) ?_
 simp(disch:=first|exact Xe|fail)only[ac54,↓Xa,Xb,Xc,↓reduceIte,Nat.reduceLT,Nat.reduceEqDiff,Nat.reduceBEq,Nat.reduceLeDiff,Nat.reduceAdd,Nat.reduceMul]
 refine(cmp_fn ta tb ha hb).call ?_
 have hc: ∃n:Nat,cmpZ (val 4294967296 a) (val 4294967296 b)=(n:Int):=by
  by_cases e:val 4294967296 b<val 4294967296 a
  ·exact⟨1,by simp[cmpZ,e,Nat.not_lt_of_lt e]⟩
  ·exact⟨0,by simp[cmpZ,show val 4294967296 a=val 4294967296 b by omega]⟩
 obtain⟨n,hc⟩:=hc
 simp(disch:=first|exact Xe|fail)only[hc,↓Xa,Xb,Xc,↓reduceIte,Nat.reduceLT,Nat.reduceEqDiff,Nat.reduceBEq,Nat.reduceLeDiff,Nat.reduceAdd,Nat.reduceMul]
 refine newU_i fun o ho=>?_
 simp(disch:=first|exact Xe|fail)only[↓Xa,Xb,Xc,↓reduceIte,Nat.reduceLT,Nat.reduceEqDiff,Nat.reduceBEq,Nat.reduceLeDiff,Nat.reduceAdd,Nat.reduceMul]
 refine W_loop (fun p:Nat×Nat×List Nat=>⟨[],[(1,LS b tb),(6,.own o a.length 0 a.length true),(7,.int .u64 p.2.1),(19,LS a ta),(20,.int .i64 a.length),(21,.int .i64 p.1)],
  H.upd o (some (.row 149 1 (U (p.2.2++List.replicate (a.length-p.1) 0))))⟩)
  (fun p=>p.1≤a.length∧SubI a b p.1 p.2.1 p.2.2) (fun p=>a.length-p.1) (0,0,[]) (Settle.now rfl) ⟨by simp,SubI.zero a b⟩ ?_
 rintro⟨i,c,done⟩ ⟨h1,h2⟩
 dsimp only at h1 h2 ⊢
 have hdl:=h2.1
 have hc:=h2.2.2.1
 by_cases hi:i<a.length
 ·have hx:=ha.getD (by omega) i
  have hy:=hb.getD (by omega) i
  by_cases hj:i<b.length
  ·simp(disch:=first|exact Xe|fail)only[hi,hj,↓Xa,Xb,Xc,↓reduceIte,Nat.reduceLT,Nat.reduceEqDiff,Nat.reduceBEq,Nat.reduceLeDiff,Nat.reduceAdd,Nat.reduceMul]
   refine Settle.now ⟨(i+1,_,done++[_]),by dsimp only;omega,⟨by dsimp only;omega,h2.step ha hb rfl rfl⟩,?_⟩
   rw[set_zeros' _ _ _ _ hdl (by omega)]
  ·simp(disch:=first|exact Xe|fail)only[hi,hj,↓Xa,Xb,Xc,↓reduceIte,Nat.reduceLT,Nat.reduceEqDiff,Nat.reduceBEq,Nat.reduceLeDiff,Nat.reduceAdd,Nat.reduceMul]
   have:=getD_beyond (show b.length≤i by omega)
   refine Settle.now ⟨(i+1,_,done++[_]),by dsimp only;omega,⟨by dsimp only;omega,h2.step ha hb (y:=c) (by omega) rfl⟩,?_⟩
   rw[set_zeros' _ _ _ _ hdl (by omega)]
 ·obtain rfl:i=a.length:=by omega
  simp(disch:=first|exact Xe|fail)only[hi,↓Xa,Xb,Xc,↓reduceIte,Nat.reduceLT,Nat.reduceEqDiff,Nat.reduceBEq,Nat.reduceLeDiff,Nat.reduceAdd,Nat.reduceMul]
  refine Settle.now ?_
  simp(disch:=first|exact Xe|fail)only[Nat.sub_self,List.replicate_zero,↓Xa,Xb,Xc,↓reduceIte,Nat.reduceLT,Nat.reduceEqDiff,Nat.reduceBEq,Nat.reduceLeDiff,Nat.reduceAdd,Nat.reduceMul]
  refine trim_call (upd_same _ _ _) hdl ?_
  simp(disch:=first|exact Xe|fail)only[rs54,↓Xa,Xb,Xc,↓reduceIte,Nat.reduceLT,Nat.reduceEqDiff,Nat.reduceBEq,Nat.reduceLeDiff,Nat.reduceAdd,Nat.reduceMul]
  exact fin_tr2 ho hdl (by rw[h2.end ha hab];exact hq)
theorem mul_fn{a b:List Nat}(ta tb:Bool)(ha:Lim 4294967296 a)(hb:Lim 4294967296 b)(hla:a.length≤1099511627776)(hlb:b.length≤1099511627776):
 PFn Tryd.prog 77 [LS a ta,LS b tb] (LS (digs 4294967296 (val 4294967296 a*val 4294967296 b)) true):=by
 intro H Q hq
 refine enter77 (by simp) ?_
 simp(disch:=first|exact Xe|fail)only[ac77,↓Xa,Xb,Xc,↓reduceIte,Nat.reduceLT,Nat.reduceEqDiff,Nat.reduceBEq,Nat.reduceLeDiff,Nat.reduceAdd,Nat.reduceMul]
 refine newU_i fun o ho=>?_
 simp(disch:=first|exact Xe|fail)only[↓Xa,Xb,Xc,↓reduceIte,Nat.reduceLT,Nat.reduceEqDiff,Nat.reduceBEq,Nat.reduceLeDiff,Nat.reduceAdd,Nat.reduceMul]
 refine W_loop (fun p:Nat×List Nat=>⟨[],[(1,LS b tb),(5,.own o (a.length+b.length) 0 (a.length+b.length) true),(17,LS a ta),(18,.int .i64 a.length),(19,.int .i64 p.1)],
  H.upd o (some (.row 149 1 (U p.2)))⟩)
  (fun p=>p.1≤a.length∧MulI a b p.1 p.2) (fun p=>a.length-p.1) (0,List.replicate (a.length+b.length) 0) (Settle.now rfl) ⟨by simp,MulI.zero a b⟩ ?_
 rintro⟨i,out⟩ ⟨h1,h2⟩
 dsimp only at h1 h2 ⊢
 have hol:=h2.1
 by_cases hi:i<a.length
 ·simp(disch:=first|exact Xe|fail)only[hi,↓Xa,Xb,Xc,↓reduceIte,Nat.reduceLT,Nat.reduceEqDiff,Nat.reduceBEq,Nat.reduceLeDiff,Nat.reduceAdd,Nat.reduceMul]
  refine W_loop (fun p:Nat×Nat×List Nat=>⟨[],[(1,LS b tb),(5,.own o (a.length+b.length) 0 (a.length+b.length) true),(6,.int .i64 i),(7,.int .u32 (a.getD i 0:Nat)),(8,.int .u64 p.2.1),(17,LS a ta),(18,.int .i64 a.length),(19,.int .i64 i),(24,LS b tb),(25,.int .i64 b.length),(26,.int .i64 p.1)],
   H.upd o (some (.row 149 1 (U p.2.2)))⟩)
   (fun p=>p.1≤b.length∧MulK a b i p.1 p.2.1 p.2.2) (fun p=>b.length-p.1) (0,0,out) (Settle.now rfl) ⟨by simp,MulK.start h2⟩ ?_
  rintro⟨k,c,out⟩ ⟨g1,g2⟩
  dsimp only at g1 g2 ⊢
  have gol:=g2.1
  have gc:=g2.2.2.1
  have hx:=ha.getD (by omega) i
  by_cases hk:k<b.length
  ·have hy:=hb.getD (by omega) k
   have ho:=g2.2.1.getD (by omega) (i+k)
   have hm:a.getD i 0*b.getD k 0≤4294967295*4294967295:=Nat.mul_le_mul (by omega) (by omega)
   simp(disch:=first|exact Xe|fail)only[hk,↓Xa,Xb,Xc,↓reduceIte,Nat.reduceLT,Nat.reduceEqDiff,Nat.reduceBEq,Nat.reduceLeDiff,Nat.reduceAdd,Nat.reduceMul]
   refine Settle.now ⟨(k+1,_,_),by dsimp only;omega,⟨by dsimp only;omega,g2.step hi hk ha hb rfl⟩,rfl⟩
  ·obtain rfl:k=b.length:=by omega
   simp(disch:=first|exact Xe|fail)only[hk,↓Xa,Xb,Xc,↓reduceIte,Nat.reduceLT,Nat.reduceEqDiff,Nat.reduceBEq,Nat.reduceLeDiff,Nat.reduceAdd,Nat.reduceMul]
   refine Settle.now ?_
   simp(disch:=first|exact Xe|fail)only[↓Xa,Xb,Xc,↓reduceIte,Nat.reduceLT,Nat.reduceEqDiff,Nat.reduceBEq,Nat.reduceLeDiff,Nat.reduceAdd,Nat.reduceMul]
   refine Settle.now ⟨(i+1,_),by dsimp only;omega,⟨by dsimp only;omega,g2.end hi⟩,rfl⟩
 ·obtain rfl:i=a.length:=by omega
  simp(disch:=first|exact Xe|fail)only[hi,↓Xa,Xb,Xc,↓reduceIte,Nat.reduceLT,Nat.reduceEqDiff,Nat.reduceBEq,Nat.reduceLeDiff,Nat.reduceAdd,Nat.reduceMul]
  refine Settle.now ?_
  simp(disch:=first|exact Xe|fail)only[↓Xa,Xb,Xc,↓reduceIte,Nat.reduceLT,Nat.reduceEqDiff,Nat.reduceBEq,Nat.reduceLeDiff,Nat.reduceAdd,Nat.reduceMul]
  refine trim_call (upd_same _ _ _) hol ?_
  simp(disch:=first|exact Xe|fail)only[rs77,↓Xa,Xb,Xc,↓reduceIte,Nat.reduceLT,Nat.reduceEqDiff,Nat.reduceBEq,Nat.reduceLeDiff,Nat.reduceAdd,Nat.reduceMul]
  exact fin_tr ho hol (by rw[h2.end];exact hq)
theorem divsmall_fn{a:List Nat}{d:Nat}(ta:Bool)(ha:Lim 4294967296 a)(hd:0<d)(hd':d<4294967296)(hla:a.length≤1099511627776):
 PFn Tryd.prog 147 [LS a ta,.int .u32 (d:Nat)] (.tup [LS (digs 4294967296 (val 4294967296 a / d)) true,.int .u32 ((val 4294967296 a%d:Nat):Int),.int .i64 ((0:Nat):Int)]):=by
 intro H Q hq
 refine enter147 (by simp) ?_
 have hne:(d=0)=False:=by simp;omega
 simp(disch:=first|exact Xe|fail)only[ac147,hne,↓Xa,Xb,Xc,↓reduceIte,Nat.reduceLT,Nat.reduceEqDiff,Nat.reduceBEq,Nat.reduceLeDiff,Nat.reduceAdd,Nat.reduceMul]
 refine newU_i fun o ho=>?_
 simp(disch:=first|exact Xe|fail)only[↓Xa,Xb,Xc,↓reduceIte,Nat.reduceLT,Nat.reduceEqDiff,Nat.reduceBEq,Nat.reduceLeDiff,Nat.reduceAdd,Nat.reduceMul]
 refine W_loop (fun p:Nat×Nat×List Nat=>⟨[],[(0,LS a ta),(1,.int .u32 (d:Nat)),(7,.own o a.length 0 a.length true),(8,.int .u64 p.2.1),(9,.int .i64 (dn p.1))],
  H.upd o (some (.row 149 1 (U p.2.2)))⟩)
  (fun p=>p.1≤a.length∧DivI a d p.1 p.2.1 p.2.2) (fun p=>p.1) (a.length,0,List.replicate a.length 0) (Settle.now rfl) ⟨by simp,DivI.zero a hd⟩ ?_
 rintro⟨k,r,out⟩ ⟨h1,h2⟩
 dsimp only at h1 h2 ⊢
 have hol:=h2.1
 have hr:=h2.2.2.1
 cases k with
 |zero=>
  simp(disch:=first|exact Xe|fail)only[↓Xa,Xb,Xc,↓reduceIte,Nat.reduceLT,Nat.reduceEqDiff,Nat.reduceBEq,Nat.reduceLeDiff,Nat.reduceAdd,Nat.reduceMul]
  refine Settle.now ?_
  simp(disch:=first|exact Xe|fail)only[↓Xa,Xb,Xc,↓reduceIte,Nat.reduceLT,Nat.reduceEqDiff,Nat.reduceBEq,Nat.reduceLeDiff,Nat.reduceAdd,Nat.reduceMul]
  refine trim_call (upd_same _ _ _) hol ?_
  simp(disch:=first|exact Xe|fail)only[rs147,↓Xa,Xb,Xc,↓reduceIte,Nat.reduceLT,Nat.reduceEqDiff,Nat.reduceBEq,Nat.reduceLeDiff,Nat.reduceAdd,Nat.reduceMul]
  rw[h2.end.2]
  exact fin_tr3 ho hol (by rw[h2.end.1];exact hq)
 |succ k=>
  have hx:=ha.getD (by omega) k
  have hs:r*2^32+a.getD k 0<18446744073709551616:=by omega
  have hq:(r*2^32+a.getD k 0) / d<18446744073709551616:=Nat.lt_of_le_of_lt (Nat.div_le_self _ _) hs
  simp(disch:=first|exact Xe|fail)only[hne,ne_eq,↓Xa,Xb,Xc,↓reduceIte,Nat.reduceLT,Nat.reduceEqDiff,Nat.reduceBEq,Nat.reduceLeDiff,Nat.reduceAdd,Nat.reduceMul]
  refine Settle.now ⟨(k,_,_),by dsimp only;omega,⟨by dsimp only;omega,h2.step (by omega) ha hd' rfl⟩,rfl⟩
theorem lss_f{n:Nat}{K:AV→Prop}:binW .lss (.int .i64 (n:Int)) (.int .i64 ((0:Nat):Int)) K↔K (.bool false):=by rw[bin_lss];simp
theorem idxS_nat{s:ByteArray}{k:IntKind}{j:Nat}{K:AV→Prop}(h:j<s.size):idxSW (.str s) (.int k (j:Int)) K=K (.int .u8 ((byteAt s j:Nat):Int)):=by
 simp[idxSW,h]
theorem len8: ∀j,j<256→byteAt ⟨#[0,1,2,2,3,3,3,3,4,4,4,4,4,4,4,4,5,5,5,5,5,5,5,5,5,5,5,5,5,5,5,5,6,6,6,6,6,6,6,6,6,6,6,6,6,6,6,6,6,6,6,6,6,6,6,6,6,6,6,6,6,6,6,6,7,7,7,7,7,7,7,7,7,7,7,7,7,7,7,7,7,7,7,7,7,7,7,7,7,7,7,7,7,7,7,7,7,7,7,7,7,7,7,7,7,7,7,7,7,7,7,7,7,7,7,7,7,7,7,7,7,7,7,7,7,7,7,7,8,8,8,8,8,8,8,8,8,8,8,8,8,8,8,8,8,8,8,8,8,8,8,8,8,8,8,8,8,8,8,8,8,8,8,8,8,8,8,8,8,8,8,8,8,8,8,8,8,8,8,8,8,8,8,8,8,8,8,8,8,8,8,8,8,8,8,8,8,8,8,8,8,8,8,8,8,8,8,8,8,8,8,8,8,8,8,8,8,8,8,8,8,8,8,8,8,8,8,8,8,8,8,8,8,8,8,8,8,8,8,8,8,8,8,8,8,8,8,8,8,8,8,8,8,8,8,8]⟩ j=blen j:=by decide+kernel
theorem idx8{k:IntKind}{j:Nat}{K:AV→Prop}(h:j<256):idxSW (.str ⟨#[0,1,2,2,3,3,3,3,4,4,4,4,4,4,4,4,5,5,5,5,5,5,5,5,5,5,5,5,5,5,5,5,6,6,6,6,6,6,6,6,6,6,6,6,6,6,6,6,6,6,6,6,6,6,6,6,6,6,6,6,6,6,6,6,7,7,7,7,7,7,7,7,7,7,7,7,7,7,7,7,7,7,7,7,7,7,7,7,7,7,7,7,7,7,7,7,7,7,7,7,7,7,7,7,7,7,7,7,7,7,7,7,7,7,7,7,7,7,7,7,7,7,7,7,7,7,7,7,8,8,8,8,8,8,8,8,8,8,8,8,8,8,8,8,8,8,8,8,8,8,8,8,8,8,8,8,8,8,8,8,8,8,8,8,8,8,8,8,8,8,8,8,8,8,8,8,8,8,8,8,8,8,8,8,8,8,8,8,8,8,8,8,8,8,8,8,8,8,8,8,8,8,8,8,8,8,8,8,8,8,8,8,8,8,8,8,8,8,8,8,8,8,8,8,8,8,8,8,8,8,8,8,8,8,8,8,8,8,8,8,8,8,8,8,8,8,8,8,8,8,8,8,8,8,8,8]⟩) (.int k (j:Int)) K=K (.int .u8 ((blen j:Nat):Int)):=by
 have sz:(⟨#[0,1,2,2,3,3,3,3,4,4,4,4,4,4,4,4,5,5,5,5,5,5,5,5,5,5,5,5,5,5,5,5,6,6,6,6,6,6,6,6,6,6,6,6,6,6,6,6,6,6,6,6,6,6,6,6,6,6,6,6,6,6,6,6,7,7,7,7,7,7,7,7,7,7,7,7,7,7,7,7,7,7,7,7,7,7,7,7,7,7,7,7,7,7,7,7,7,7,7,7,7,7,7,7,7,7,7,7,7,7,7,7,7,7,7,7,7,7,7,7,7,7,7,7,7,7,7,7,8,8,8,8,8,8,8,8,8,8,8,8,8,8,8,8,8,8,8,8,8,8,8,8,8,8,8,8,8,8,8,8,8,8,8,8,8,8,8,8,8,8,8,8,8,8,8,8,8,8,8,8,8,8,8,8,8,8,8,8,8,8,8,8,8,8,8,8,8,8,8,8,8,8,8,8,8,8,8,8,8,8,8,8,8,8,8,8,8,8,8,8,8,8,8,8,8,8,8,8,8,8,8,8,8,8,8,8,8,8,8,8,8,8,8,8,8,8,8,8,8,8,8,8,8,8,8,8]⟩:ByteArray).size=256:=by decide+kernel
 rw[idxS_nat (by rw[sz];exact h),len8 j h]
theorem len32_fn{x:Nat}(hx:x<4294967296):PFn Tryd.prog 151 [.int .u32 (x:Int)] (.int .i64 ((blen x:Nat):Int)):=by
 intro H Q hq
 have hb:blen x≤32:=blen_le.2 (by omega)
 refine enter151 (by simp) ?_
 by_cases h1:65536≤x
 ·have e1:=blen_shift (n:=x) (s:=16) h1
  by_cases h2:256≤x / 2^16
  ·have e2:=blen_shift (n:=x / 2^16) (s:=8) h2
   have h3:x / 2^16 / 2^8<256:=by omega
   have hl:blen (x / 2^16 / 2^8)≤8:=blen_le.2 h3
   simp(disch:=first|exact Xe|fail)only[ac151,h1,h2,idx8,rs151,↓Xa,Xb,Xc,↓reduceIte,Nat.reduceLT,Nat.reduceEqDiff,Nat.reduceBEq,Nat.reduceLeDiff,Nat.reduceAdd,Nat.reduceMul]
   refine SetR.now ?_
   rwa[show 16+8+blen (x / 2^16 / 2^8)=blen x by omega]
  ·have h3:x / 2^16<256:=by omega
   have hl:blen (x / 2^16)≤8:=blen_le.2 h3
   simp(disch:=first|exact Xe|fail)only[ac151,h1,h2,idx8,rs151,↓Xa,Xb,Xc,↓reduceIte,Nat.reduceLT,Nat.reduceEqDiff,Nat.reduceBEq,Nat.reduceLeDiff,Nat.reduceAdd,Nat.reduceMul]
   refine SetR.now ?_
   rwa[show 16+blen (x / 2^16)=blen x by omega]
 ·by_cases h2:256≤x
  ·have e2:=blen_shift (n:=x) (s:=8) h2
   have h3:x / 2^8<256:=by omega
   have hl:blen (x / 2^8)≤8:=blen_le.2 h3
   simp(disch:=first|exact Xe|fail)only[ac151,h1,h2,idx8,rs151,↓Xa,Xb,Xc,↓reduceIte,Nat.reduceLT,Nat.reduceEqDiff,Nat.reduceBEq,Nat.reduceLeDiff,Nat.reduceAdd,Nat.reduceMul]
   refine SetR.now ?_
   rwa[show 0+8+blen (x / 2^8)=blen x by omega]
  ·have hl:blen x≤8:=blen_le.2 (by omega)
   simp(disch:=first|exact Xe|fail)only[ac151,h1,h2,idx8,rs151,↓Xa,Xb,Xc,↓reduceIte,Nat.reduceLT,Nat.reduceEqDiff,Nat.reduceBEq,Nat.reduceLeDiff,Nat.reduceAdd,Nat.reduceMul]
   refine SetR.now ?_
   exact hq
theorem lz_fn{x:Nat}(hx:x<4294967296):PFn Tryd.prog 152 [.int .u32 (x:Int)] (.int .i64 ((32-blen x:Nat):Int)):=by
 intro H Q hq
 have hb:blen x≤32:=blen_le.2 (by omega)
 refine enter152 (by simp) ?_
 simp(disch:=first|exact Xe|fail)only[ac152,↓Xa,Xb,Xc,↓reduceIte,Nat.reduceLT,Nat.reduceEqDiff,Nat.reduceBEq,Nat.reduceLeDiff,Nat.reduceAdd,Nat.reduceMul]
 refine(len32_fn hx).call ?_
 simp(disch:=first|exact Xe|fail)only[rs152,↓Xa,Xb,Xc,↓reduceIte,Nat.reduceLT,Nat.reduceEqDiff,Nat.reduceBEq,Nat.reduceLeDiff,Nat.reduceAdd,Nat.reduceMul]
 exact SetR.now hq
theorem shl_fn{a:List Nat}{s:Nat}(t:Bool)(ha:Lim 4294967296 a)(hs:s≤65536)(hn:a.length≤1099511627776):PFn Tryd.prog 133 [LS a t,.int .i64 (s:Int)] (.tup [LS (digs 4294967296 (val 4294967296 a*2^s)) true,.int .i64 ((0:Nat):Int)]):=by
 intro H Q hq
 have hnl: ¬65536<s:=by omega
 refine enter133 (by simp) ?_
 simp(disch:=first|exact Xe|fail)only[ac133,lss_f,hnl,ne_eq,Nat.reduceEqDiff,↓Xa,Xb,Xc,↓reduceIte,Nat.reduceLT,Nat.reduceEqDiff,Nat.reduceBEq,Nat.reduceLeDiff,Nat.reduceAdd,Nat.reduceMul]
 refine newU_i fun o ho=>?_
 simp(disch:=first|exact Xe|fail)only[ne_eq,Nat.reduceEqDiff,↓Xa,Xb,Xc,↓reduceIte,Nat.reduceLT,Nat.reduceEqDiff,Nat.reduceBEq,Nat.reduceLeDiff,Nat.reduceAdd,Nat.reduceMul]
 have hr:s%32<32:=Nat.mod_lt _ (by omega)
 have hse:32*(s / 32)+s%32=s:=Nat.div_add_mod s 32
 generalize hq32:s / 32=q at*
 generalize hp32:s%32=p at*
 refine W_loop (fun x:Nat×Nat×List Nat=>⟨[],[(1,.int .i64 s),(6,.own o (a.length+q+1) 0 (a.length+q+1) true),(7,.int .i64 p),(24,LS a t),(25,.int .i64 a.length),(26,.int .i64 x.1)],
  H.upd o (some (.row 149 1 (U (rowS q x.2.2 x.2.1 (a.length-x.1)))))⟩)
  (fun x=>x.1≤a.length∧ShlI a p x.1 x.2.1 x.2.2) (fun x=>a.length-x.1) (0,0,[]) (Settle.now (by rw[Nat.sub_zero,rowS_zero,show q+(a.length+1)=a.length+q+1 by omega])) ⟨by simp,ShlI.zero a p⟩ ?_
 rintro⟨i,c,done⟩ ⟨h1,h2⟩
 dsimp only at h1 h2 ⊢
 have hd:=h2.1
 by_cases hi:i<a.length
 ·have hx:=ha.getD (by omega) i
  subst hd
  obtain⟨k1,k2,k3⟩:=h2.step hr ha rfl
  have hc:=h2.2.2.1
  obtain⟨m,hm⟩: ∃m,a.length-done.length=m+1:=⟨a.length-done.length-1,by omega⟩
  have hy:a.getD done.length 0*2^p<18446744073709551616:=by
   have:a.getD done.length 0*2^p≤4294967295*2^31:=Nat.mul_le_mul (by omega) (Nat.pow_le_pow_right (by omega) (by omega))
   omega
  have hp64:p≤64:=by omega
  have hpl:(2:Nat)^p≤2^31:=Nat.pow_le_pow_right (by omega) (by omega)
  have lo:=or_low (m:=a.getD done.length 0*2^p%4294967296) hc (shl_low hr)
  generalize hY:a.getD done.length 0*2^p=y at*
  have len1: ∀c,(rowS q done c (m+1)).length=a.length+q+1:=fun c=>by rw[rowS_len];omega
  have len2:=len1 c
  have len3:=len1 (c+y%4294967296)
  have or1: ∀K,binW .or (.int .u32 (c:Int)) (.int .u32 ((y%4294967296:Nat):Int)) K↔K (.int .u32 ((c+y%4294967296:Nat):Int)):=fun K=>by
   rw[bin_or .u32 (by simp only[IntKind.bits];omega) (by simp only[IntKind.bits];omega),lo,wn_u32 k1]
  have or2: ∀K,binW .or (.int .u32 ((0:Nat):Int)) (.int .u32 ((y / 2^32:Nat):Int)) K↔K (.int .u32 ((y / 2^32:Nat):Int)):=fun K=>by
   rw[bin_or .u32 (by simp[IntKind.bits]) (by simp only[IntKind.bits];omega),Nat.zero_or,wn_u32 (by omega)]
  rw[hm]
  simp(disch:=first|exact Xe|fail)only[hi,hq32,hp32,hY,bin_shl64,rowS_get,rowS_set,rowS_get1,rowS_set1,or1,or2,ne_eq,Nat.reduceEqDiff,↓Xa,Xb,Xc,↓reduceIte,Nat.reduceLT,Nat.reduceEqDiff,Nat.reduceBEq,Nat.reduceLeDiff,Nat.reduceAdd,Nat.reduceMul]
  refine Settle.now ⟨(done.length+1,_,_),by dsimp only;omega,⟨by dsimp only;omega,k3⟩,?_⟩
  rw[show a.length-(done.length+1)=m by omega]
 ·obtain rfl:i=a.length:=by omega
  simp(disch:=first|exact Xe|fail)only[hi,Nat.sub_self,↓Xa,Xb,Xc,↓reduceIte,Nat.reduceLT,Nat.reduceEqDiff,Nat.reduceBEq,Nat.reduceLeDiff,Nat.reduceAdd,Nat.reduceMul]
  refine Settle.now ?_
  have len0:(rowS q done c 0).length=a.length+q+1:=by rw[rowS_len];omega
  simp(disch:=first|exact Xe|fail)only[↓Xa,Xb,Xc,↓reduceIte,Nat.reduceLT,Nat.reduceEqDiff,Nat.reduceBEq,Nat.reduceLeDiff,Nat.reduceAdd,Nat.reduceMul]
  refine trim_call (upd_same _ _ _) len0 ?_
  simp(disch:=first|exact Xe|fail)only[rs133,↓Xa,Xb,Xc,↓reduceIte,Nat.reduceLT,Nat.reduceEqDiff,Nat.reduceBEq,Nat.reduceLeDiff,Nat.reduceAdd,Nat.reduceMul]
  have e:=h2.end (q:=q) hr
  rw[hse]at e
  exact fin_tr2 ho len0 (by rw[e];exact hq)
theorem shr_fn{a:List Nat}{s:Nat}(t:Bool)(ha:Lim 4294967296 a)(hs:s<9223372036854775808)(hn:a.length≤1099511627776):PFn Tryd.prog 135 [LS a t,.int .i64 (s:Int)] (.tup [LS (digs 4294967296 (val 4294967296 a / 2^s)) true,.int .i64 ((0:Nat):Int)]):=by
 intro H Q hq
 refine enter135 (by simp) ?_
 simp(disch:=first|exact Xe|fail)only[ac135,lss_f,ne_eq,Nat.reduceEqDiff,↓Xa,Xb,Xc,↓reduceIte,Nat.reduceLT,Nat.reduceEqDiff,Nat.reduceBEq,Nat.reduceLeDiff,Nat.reduceAdd,Nat.reduceMul]
 refine(trim_fn a t).call ?_
 have ht:=tr_len a
 rw[tr_digs (by omega) ha]at ht ⊢
 generalize val 4294967296 a=N at*
 have hse:32*(s / 32)+s%32=s:=Nat.div_add_mod s 32
 have hr:s%32<32:=Nat.mod_lt _ (by omega)
 have hsq:s / 32<9223372036854775808:=by omega
 generalize hq32:s / 32=q at*
 generalize hp32:s%32=p at*
 have hN:=val_digs (B:=4294967296) (by omega) N
 have hX:=lim_digs (B:=4294967296) (by omega) N
 have hpow:(2:Nat)^s=4294967296^q*2^p:=by rw[← hse,Nat.pow_add,Nat.pow_mul]
 by_cases hql:(digs 4294967296 N).length≤q
 ·simp(disch:=first|exact Xe|fail)only[hq32,hql,ne_eq,Nat.reduceEqDiff,rs135,↓Xa,Xb,Xc,↓reduceIte,Nat.reduceLT,Nat.reduceEqDiff,Nat.reduceBEq,Nat.reduceLeDiff,Nat.reduceAdd,Nat.reduceMul]
  have h0:N / 2^s=0:=by
   apply Nat.div_eq_of_lt
   have h1:=val_lt hX
   rw[hN]at h1
   have h2:(4294967296:Nat)^(digs 4294967296 N).length≤4294967296^q:=Nat.pow_le_pow_right (by omega) hql
   have h3:4294967296^q*1≤4294967296^q*2^p:=Nat.mul_le_mul_left _ (Nat.pow_pos (by omega))
   omega
  rw[h0,digs_zero]at hq
  exact SetR.now hq
 ·have hvd:=val_drop_div (B:=4294967296) (by omega) hX (q:=q) (by omega)
  rw[hN]at hvd
  have hXd:=hX.drop q
  have hdl:((digs 4294967296 N).drop q).length≤a.length:=by rw[List.length_drop];omega
  simp(disch:=first|exact Xe|fail)only[hq32,hql,ne_eq,Nat.reduceEqDiff,↓Xa,Xb,Xc,↓reduceIte,Nat.reduceLT,Nat.reduceEqDiff,Nat.reduceBEq,Nat.reduceLeDiff,Nat.reduceAdd,Nat.reduceMul]
  generalize(digs 4294967296 N).drop q=x at*
  simp(disch:=first|exact Xe|fail)only[hq32,hp32,ne_eq,Nat.reduceEqDiff,↓Xa,Xb,Xc,↓reduceIte,Nat.reduceLT,Nat.reduceEqDiff,Nat.reduceBEq,Nat.reduceLeDiff,Nat.reduceAdd,Nat.reduceMul]
  refine newU_i fun o ho=>?_
  simp(disch:=first|exact Xe|fail)only[↓Xa,Xb,Xc,↓reduceIte,Nat.reduceLT,Nat.reduceEqDiff,Nat.reduceBEq,Nat.reduceLeDiff,Nat.reduceAdd,Nat.reduceMul]
  refine W_loop (fun z:Nat×List Nat=>⟨[],[(0,LS x true),(6,.int .i64 p),(7,.own o x.length 0 x.length true),(29,LS x true),(30,.int .i64 x.length),(31,.int .i64 z.1)],
   H.upd o (some (.row 149 1 (U (z.2++List.replicate (x.length-z.1) 0))))⟩)
   (fun z=>z.1≤x.length∧ShrI (val 4294967296 x) p z.1 z.2) (fun z=>x.length-z.1) (0,[]) (Settle.now rfl) ⟨by simp,rfl,Lim.nil _,by simp[val,Nat.mod_one]⟩ ?_
  rintro⟨i,done⟩ ⟨h1,h2⟩
  dsimp only at h1 h2 ⊢
  have hd:=h2.1
  by_cases hi:i<x.length
  ·have hx0:=hXd.getD (by omega) i
   have hx1:=hXd.getD (by omega) (i+1)
   have hp64:p≤64:=by omega
   by_cases hj:i+1<x.length
   ·have hyb:(x.getD i 0+x.getD (i+1) 0*2^32) / 2^p<18446744073709551616:=Nat.lt_of_le_of_lt (Nat.div_le_self _ _) (by omega)
    simp(disch:=first|exact Xe|fail)only[hi,hj,↓Xa,Xb,Xc,↓reduceIte,Nat.reduceLT,Nat.reduceEqDiff,Nat.reduceBEq,Nat.reduceLeDiff,Nat.reduceAdd,Nat.reduceMul]
    refine Settle.now ⟨(i+1,done++[_]),by dsimp only;omega,⟨by dsimp only;omega,h2.step hr hXd hi rfl⟩,?_⟩
    rw[set_zeros' _ _ _ _ hd hi]
   ·have h0:=getD_beyond (show x.length≤i+1 by omega)
    have e0:x.getD i 0 / 2^p<18446744073709551616:=Nat.lt_of_le_of_lt (Nat.div_le_self _ _) (by omega)
    simp(disch:=first|exact Xe|fail)only[hi,hj,↓Xa,Xb,Xc,↓reduceIte,Nat.reduceLT,Nat.reduceEqDiff,Nat.reduceBEq,Nat.reduceLeDiff,Nat.reduceAdd,Nat.reduceMul]
    refine Settle.now ⟨(i+1,done++[_]),by dsimp only;omega,⟨by dsimp only;omega,h2.step hr hXd hi (y:=x.getD i 0) (by rw[h0];omega)⟩,?_⟩
    rw[set_zeros' _ _ _ _ hd hi]
  ·obtain rfl:i=x.length:=by omega
   simp(disch:=first|exact Xe|fail)only[hi,Nat.sub_self,List.replicate_zero,↓Xa,Xb,Xc,↓reduceIte,Nat.reduceLT,Nat.reduceEqDiff,Nat.reduceBEq,Nat.reduceLeDiff,Nat.reduceAdd,Nat.reduceMul]
   refine Settle.now ?_
   simp(disch:=first|exact Xe|fail)only[↓Xa,Xb,Xc,↓reduceIte,Nat.reduceLT,Nat.reduceEqDiff,Nat.reduceBEq,Nat.reduceLeDiff,Nat.reduceAdd,Nat.reduceMul]
   refine trim_call (upd_same _ _ _) hd ?_
   simp(disch:=first|exact Xe|fail)only[rs135,↓Xa,Xb,Xc,↓reduceIte,Nat.reduceLT,Nat.reduceEqDiff,Nat.reduceBEq,Nat.reduceLeDiff,Nat.reduceAdd,Nat.reduceMul]
   refine fin_tr2 ho hd ?_
   rw[h2.end hXd,hvd,Nat.div_div_eq_div_mul,← hpow];exact hq
section
variable {H:AHeap} {b ty off L n:Nat} {ti:Bool} {pre u post:List Nat}
theorem less_run{v:List Nat}{t:Nat}(tv:Bool){Q:AV→AHeap→Prop}(hH:H b=some (.row ty 1 (U (pre++(u++post)))))(hL:L=pre.length+(u.length+post.length))(ho:off=pre.length)(hn:n=u.length)
 (hu:Lim 4294967296 u) (hv:Lim 4294967296 v) (ht:t<4294967296) (hvu:v.length<u.length) (hul:L≤2199023255552)
 (hq: ∀(w:List Nat)(bo:Nat),w.length=u.length→Lim 4294967296 w→bo≤1→val 4294967296 u+4294967296^u.length*bo=val 4294967296 w+t*val 4294967296 v→Q (.bool (decide (0<bo))) (H.upd b (some (.row ty 1 (U (pre++(w++post))))))):
 Run Tryd.prog 161 [.own b L off n ti,LS v tv,.int .u64 (t:Int)] H Q:=by
 subst hL;subst ho;subst hn
 refine enter161 (by simp) ?_
 simp(disch:=first|exact Xe|fail)only[ac161,↓Xa,Xb,Xc,↓reduceIte,Nat.reduceLT,Nat.reduceEqDiff,Nat.reduceBEq,Nat.reduceLeDiff,Nat.reduceAdd,Nat.reduceMul]
 refine W_loop (fun s:Nat×Nat×Nat×List Nat=>⟨[],[(0,.own b (pre.length+(u.length+post.length)) pre.length u.length ti),(1,LS v tv),(2,.int .u64 t),(7,.int .u64 s.2.1),(8,.int .u64 s.2.2.1),(12,.int .i64 u.length),(13,.int .i64 s.1)],
  H.upd b (some (.row ty 1 (U (pre++((s.2.2.2++u.drop s.1)++post)))))⟩)
  (fun s=>s.1≤u.length∧LessI u v t s.1 s.2.1 s.2.2.1 s.2.2.2) (fun s=>u.length-s.1) (0,0,0,[]) (Settle.now (by simp[upd_back _ hH])) ⟨by simp,LessI.zero u v t⟩ ?_
 rintro⟨i,c,bo,done⟩ ⟨h1,h2⟩
 dsimp only at h1 h2 ⊢
 have hd:=h2.1
 have hc:=h2.2.2.1
 have hbo:=h2.2.2.2.1
 by_cases hi:i<u.length
 ·have hx:=hu.getD (by omega) i
  have hy:=hv.getD (by omega) i
  have hm:v.getD i 0*t≤4294967295*4294967295:=Nat.mul_le_mul (by omega) (by omega)
  have hcl:(done++u.drop i).length=u.length:=by simp[hd];omega
  have len1:(pre++((done++u.drop i)++post)).length=pre.length+(u.length+post.length):=by simp only[List.length_append,hd,List.length_drop];omega
  have g1:(pre++((done++u.drop i)++post)).getD (pre.length+i) 0=u.getD i 0:=by rw[mid_get (by omega),part_get hd hi]
  have s1: ∀x,(pre++((done++u.drop i)++post)).set (pre.length+i) x=pre++(((done++[x])++u.drop (i+1))++post):=fun x=>by rw[mid_set (by omega),part_set hd hi]
  generalize hrow:pre++((done++u.drop i)++post)=row at*
  by_cases hj:i<v.length
  ·simp(disch:=first|exact Xe|fail)only[hi,hj,g1,↓Xa,Xb,Xc,↓reduceIte,Nat.reduceLT,Nat.reduceEqDiff,Nat.reduceBEq,Nat.reduceLeDiff,Nat.reduceAdd,Nat.reduceMul]
   rw[s1]
   refine Settle.now ⟨(i+1,_,_,_),by dsimp only;omega,⟨by dsimp only;omega,h2.step hu hv ht rfl rfl⟩,rfl⟩
  ·have h0:=getD_beyond (show v.length≤i by omega)
   simp(disch:=first|exact Xe|fail)only[hi,hj,g1,↓Xa,Xb,Xc,↓reduceIte,Nat.reduceLT,Nat.reduceEqDiff,Nat.reduceBEq,Nat.reduceLeDiff,Nat.reduceAdd,Nat.reduceMul]
   rw[s1]
   refine Settle.now ⟨(i+1,_,_,_),by dsimp only;omega,⟨by dsimp only;omega,h2.step hu hv ht (c1:=c) (by rw[h0];omega) rfl⟩,rfl⟩
 ·obtain rfl:i=u.length:=by omega
  simp(disch:=first|exact Xe|fail)only[hi,↓Xa,Xb,Xc,↓reduceIte,Nat.reduceLT,Nat.reduceEqDiff,Nat.reduceBEq,Nat.reduceLeDiff,Nat.reduceAdd,Nat.reduceMul]
  refine Settle.now ?_
  simp(disch:=first|exact Xe|fail)only[rs161,↓Xa,Xb,Xc,↓reduceIte,Nat.reduceLT,Nat.reduceEqDiff,Nat.reduceBEq,Nat.reduceLeDiff,Nat.reduceAdd,Nat.reduceMul]
  refine SetR.now ?_
  rw[List.drop_of_length_le (Nat.le_refl _),List.append_nil]
  exact hq done bo hd h2.2.1 hbo (h2.end hvu)
def scC:ACode→ACode
 |.scope0 c=>c
 |x=>x
theorem digit_run{v:List Nat}{m:Nat}(tv:Bool){Q:AV→AHeap→Prop}(h:DigI u v m)(hH:H b=some (.row ty 1 (U (pre++(u++post)))))(hL:L=pre.length+(u.length+post.length))(ho:off=pre.length)(hn:n=u.length)(hul:L≤2199023255552)
 (hq: ∀(w:List Nat),w.length=u.length→Lim 4294967296 w→val 4294967296 w=val 4294967296 u%val 4294967296 v→Q (.int .u32 ((val 4294967296 u / val 4294967296 v:Nat):Int)) (H.upd b (some (.row ty 1 (U (pre++(w++post))))))):
 Run Tryd.prog 153 [.own b L off n ti,LS v tv] H Q:=by
 subst hL;subst ho;subst hn
 have hlu:=h.hu
 have hlv:=h.hv
 have hq1:=h.q_lt
 have hl:=h.lims
 have htop:=h.top
 have hqm:val 4294967296 u / val 4294967296 v*val 4294967296 v+val 4294967296 u%val 4294967296 v=val 4294967296 u:=Nat.div_add_mod' _ _
 have hml:=Nat.mod_lt (val 4294967296 u) h.vpos
 have hvl:=val_lt h.lu
 refine enter153 (by simp) ?_
 have fin: ∀g,val 4294967296 u / val 4294967296 v≤g→g≤val 4294967296 u / val 4294967296 v+1→g<4294967296→W Tryd.prog (sndC (sndC (sndC (sndC (sndC (scC (sndC ac153))))))) (scopeA (retN rs153 Q)) ⟨[],[(0,.own b (pre.length+(u.length+post.length)) pre.length u.length ti),(1,LS v tv),(5,.int .i64 v.length),(7,.int .u64 g)],H⟩:=by
  intro g g1 g2 g3
  simp(disch:=first|exact Xe|fail)only[ac153,sndC,scC,↓Xa,Xb,Xc,↓reduceIte,Nat.reduceLT,Nat.reduceEqDiff,Nat.reduceBEq,Nat.reduceLeDiff,Nat.reduceAdd,Nat.reduceMul]
  refine run_call (less_run tv hH rfl rfl rfl h.lu h.lv g3 (by omega) hul fun w bo hw1 hw2 hb e=>?_)
  have hwl:=val_lt hw2
  rw[hw1]at hwl
  generalize val 4294967296 u / val 4294967296 v=q at*
  have hgv:g=q∨g=q+1:=by omega
  have hgm:g*val 4294967296 v=q*val 4294967296 v∨g*val 4294967296 v=q*val 4294967296 v+val 4294967296 v:=by
   rcases hgv with e|e
   ·left;rw[e]
   ·right;rw[e,Nat.add_mul,Nat.one_mul]
  have hbc:bo=0∨bo=1:=by omega
  rcases hbc with rfl|rfl
  ·have hg:g=q:=by
    rcases hgv with e1|e1
    ·exact e1
    ·rw[e1,Nat.add_mul,Nat.one_mul]at e;omega
   simp(disch:=first|exact Xe|fail)only[rs153,↓Xa,Xb,Xc,↓reduceIte,Nat.reduceLT,Nat.reduceEqDiff,Nat.reduceBEq,Nat.reduceLeDiff,Nat.reduceAdd,Nat.reduceMul]
   refine SetR.now ?_
   rw[hg]
   exact hq w hw1 hw2 (by rw[hg]at e;omega)
  ·have hg:g=q+1:=by
    rcases hgv with e1|e1
    ·rw[e1]at e;omega
    ·exact e1
   subst hg
   simp(disch:=first|exact Xe|fail)only[↓Xa,Xb,Xc,↓reduceIte,Nat.reduceLT,Nat.reduceEqDiff,Nat.reduceBEq,Nat.reduceLeDiff,Nat.reduceAdd,Nat.reduceMul]
   refine W_loop (fun s:Nat×Nat×List Nat=>⟨[],[(0,.own b (pre.length+(u.length+post.length)) pre.length u.length ti),(1,LS v tv),(5,.int .i64 v.length),(7,.int .u64 q),(9,.int .u64 s.2.1),(88,.int .i64 u.length),(89,.int .i64 s.1)],
    H.upd b (some (.row ty 1 (U (pre++((s.2.2++w.drop s.1)++post)))))⟩)
    (fun s=>s.1≤u.length∧AddI w v s.1 s.2.1 s.2.2) (fun s=>u.length-s.1) (0,0,[]) (Settle.now rfl) ⟨by simp,AddI.zero w v⟩ ?_
   rintro⟨i,c,done⟩ ⟨h1,h2⟩
   dsimp only at h1 h2 ⊢
   have hd:=h2.1
   have hc:=h2.2.2.1
   by_cases hi:i<u.length
   ·have hiw:i<w.length:=by omega
    have hx:=hw2.getD (by omega) i
    have hy:=h.lv.getD (by omega) i
    have len1:(pre++((done++w.drop i)++post)).length=pre.length+(u.length+post.length):=by simp only[List.length_append,hd,List.length_drop];omega
    have hcl:i<(done++w.drop i).length:=by simp only[List.length_append,hd,List.length_drop];omega
    have g1:(pre++((done++w.drop i)++post)).getD (pre.length+i) 0=w.getD i 0:=by rw[mid_get hcl,part_get hd hiw]
    have s1: ∀x,(pre++((done++w.drop i)++post)).set (pre.length+i) x=pre++(((done++[x])++w.drop (i+1))++post):=fun x=>by rw[mid_set hcl,part_set hd hiw]
    generalize hrow:pre++((done++w.drop i)++post)=row at*
    by_cases hj:i<v.length
    ·simp(disch:=first|exact Xe|fail)only[hi,hj,g1,↓Xa,Xb,Xc,↓reduceIte,Nat.reduceLT,Nat.reduceEqDiff,Nat.reduceBEq,Nat.reduceLeDiff,Nat.reduceAdd,Nat.reduceMul]
     rw[s1]
     refine Settle.now ⟨(i+1,_,_),by dsimp only;omega,⟨by dsimp only;omega,h2.step hw2 h.lv rfl⟩,rfl⟩
    ·have h0:=getD_beyond (show v.length≤i by omega)
     simp(disch:=first|exact Xe|fail)only[hi,hj,g1,↓Xa,Xb,Xc,↓reduceIte,Nat.reduceLT,Nat.reduceEqDiff,Nat.reduceBEq,Nat.reduceLeDiff,Nat.reduceAdd,Nat.reduceMul]
     rw[s1]
     refine Settle.now ⟨(i+1,_,_),by dsimp only;omega,⟨by dsimp only;omega,h2.step hw2 h.lv (s:=c+w.getD i 0) (by omega)⟩,rfl⟩
   ·obtain rfl:i=u.length:=by omega
    simp(disch:=first|exact Xe|fail)only[hi,↓Xa,Xb,Xc,↓reduceIte,Nat.reduceLT,Nat.reduceEqDiff,Nat.reduceBEq,Nat.reduceLeDiff,Nat.reduceAdd,Nat.reduceMul]
    refine Settle.now ?_
    simp(disch:=first|exact Xe|fail)only[rs153,↓Xa,Xb,Xc,↓reduceIte,Nat.reduceLT,Nat.reduceEqDiff,Nat.reduceBEq,Nat.reduceLeDiff,Nat.reduceAdd,Nat.reduceMul]
    refine SetR.now ?_
    rw[List.drop_of_length_le (by omega),List.append_nil]
    refine hq done hd h2.2.1 ?_
    have e2:=h2.2.2.2
    rw[List.take_of_length_le (by omega),List.take_of_length_le (by omega)]at e2
    have hdl:=val_lt h2.2.1
    rw[hd]at hdl
    rw[Nat.add_mul,Nat.one_mul]at e
    have hcc:c=0∨c=1:=by omega
    rcases hcc with rfl|rfl<;>omega
 have gl: ∀i,i<u.length→(pre++(u++post)).getD (pre.length+i) 0=u.getD i 0:=fun i hi=>mid_get hi
 have hul2:(pre++(u++post)).length=pre.length+(u.length+post.length):=by simp
 have g1:=gl (m+2) (by omega)
 have g2:=gl (m+1) (by omega)
 have g3:=gl m (by omega)
 have e1:m+2-1=m+1:=by omega
 have e2:m+2-2=m:=by omega
 have hst:=h.start
 have hU2:U2 u m=u.getD (m+2) 0*2^32+u.getD (m+1) 0:=rfl
 have hne:(v.getD (m+1) 0=0)=False:=eq_false (by omega)
 have hrl:U2 u m%v.getD (m+1) 0<v.getD (m+1) 0:=Nat.mod_lt _ (by omega)
 have hgl:U2 u m / v.getD (m+1) 0<18446744073709551616:=Nat.lt_of_le_of_lt (Nat.div_le_self _ _) (by rw[hU2];omega)
 generalize hrow:pre++(u++post)=row at*
 simp(disch:=first|exact Xe|fail)only[ac153,hH,hlv,e1,e2,g1,g2,← hU2,hne,ne_eq,↓Xa,Xb,Xc,↓reduceIte,Nat.reduceLT,Nat.reduceEqDiff,Nat.reduceBEq,Nat.reduceLeDiff,Nat.reduceAdd,Nat.reduceMul]
 simp only[hlv]at fin
 refine W_loop (fun s:Nat×Nat=>⟨[],[(0,.own b (pre.length+(u.length+post.length)) pre.length u.length ti),(1,LS v tv),(5,.int .i64 ((m+2:Nat):Int)),(7,.int .u64 s.1),(8,.int .u64 s.2)],H⟩)
  (fun s=>GuessI u v m s.1 s.2∧s.2<4294967296) (fun s=>s.1) (U2 u m / v.getD (m+1) 0,U2 u m%v.getD (m+1) 0) (Settle.now rfl) ⟨hst,by dsimp only;omega⟩ ?_
 rintro⟨g,r⟩ ⟨hg,hr⟩
 dsimp only at hg hr ⊢
 have hgm:=hg.2.2
 have next:(4294967296≤g∨r*2^32+u.getD m 0<g*v.getD m 0)→0<g∧GuessI u v m (g-1) (r+v.getD (m+1) 0):=fun hc=>hg.step h hc
 have leave:(4294967296≤g∨r*2^32+u.getD m 0<g*v.getD m 0)→4294967296≤r+v.getD (m+1) 0→val 4294967296 u / val 4294967296 v≤g-1∧g-1≤val 4294967296 u / val 4294967296 v+1∧g-1<4294967296:=fun hc hr'=>by
  have h1:=next hc
  have h2:=h1.2.endB h hr' (by omega)
  have h3:=h1.2.2.1
  exact⟨h3,by omega,Nat.lt_of_le_of_lt h2 hq1⟩
 by_cases hgB:4294967296≤g
 ·have c1:0<g / 2^32:=by omega
  have hp:=(next (.inl hgB)).1
  by_cases hr':4294967296≤r+v.getD (m+1) 0
  ·have c2:0<(r+v.getD (m+1) 0) / 2^32:=by omega
   obtain⟨f1,f2,f3⟩:=leave (.inl hgB) hr'
   simp(disch:=first|exact Xe|fail)only[hH,e1,e2,g1,g2,g3,c1,c2,↓Xa,Xb,Xc,↓reduceIte,Nat.reduceLT,Nat.reduceEqDiff,Nat.reduceBEq,Nat.reduceLeDiff,Nat.reduceAdd,Nat.reduceMul]
   exact Settle.keep [0,1,5,7] (fin (g-1) f1 f2 f3)
  ·have c2: ¬0<(r+v.getD (m+1) 0) / 2^32:=by omega
   simp(disch:=first|exact Xe|fail)only[hH,e1,e2,g1,g2,g3,c1,c2,↓Xa,Xb,Xc,↓reduceIte,Nat.reduceLT,Nat.reduceEqDiff,Nat.reduceBEq,Nat.reduceLeDiff,Nat.reduceAdd,Nat.reduceMul]
   exact Settle.keep [0,1,5,7,8] ⟨(g-1,r+v.getD (m+1) 0),by dsimp only;omega,⟨(next (.inl hgB)).2,by dsimp only;omega⟩,rfl⟩
 ·have c1: ¬0<g / 2^32:=by omega
  have hm2:g*v.getD m 0≤4294967295*4294967295:=Nat.mul_le_mul (by omega) (by omega)
  by_cases hc:r*2^32+u.getD m 0<g*v.getD m 0
  ·have hp:=(next (.inr hc)).1
   by_cases hr':4294967296≤r+v.getD (m+1) 0
   ·have c2:0<(r+v.getD (m+1) 0) / 2^32:=by omega
    obtain⟨f1,f2,f3⟩:=leave (.inr hc) hr'
    simp(disch:=first|exact Xe|fail)only[hH,e1,e2,g1,g2,g3,c1,c2,hc,↓Xa,Xb,Xc,↓reduceIte,Nat.reduceLT,Nat.reduceEqDiff,Nat.reduceBEq,Nat.reduceLeDiff,Nat.reduceAdd,Nat.reduceMul]
    exact Settle.keep [0,1,5,7] (fin (g-1) f1 f2 f3)
   ·have c2: ¬0<(r+v.getD (m+1) 0) / 2^32:=by omega
    simp(disch:=first|exact Xe|fail)only[hH,e1,e2,g1,g2,g3,c1,c2,hc,↓Xa,Xb,Xc,↓reduceIte,Nat.reduceLT,Nat.reduceEqDiff,Nat.reduceBEq,Nat.reduceLeDiff,Nat.reduceAdd,Nat.reduceMul]
    exact Settle.keep [0,1,5,7,8] ⟨(g-1,r+v.getD (m+1) 0),by dsimp only;omega,⟨(next (.inr hc)).2,by dsimp only;omega⟩,rfl⟩
  ·simp(disch:=first|exact Xe|fail)only[hH,e1,e2,g1,g2,g3,c1,hc,↓Xa,Xb,Xc,↓reduceIte,Nat.reduceLT,Nat.reduceEqDiff,Nat.reduceBEq,Nat.reduceLeDiff,Nat.reduceAdd,Nat.reduceMul]
   exact Settle.keep [0,1,5,7] (fin g hg.2.1 (hg.endA h (by omega) (by omega)) (by omega))
end
theorem LS_0(B:Nat):AV.seq 0 [] true=LS (digs B 0) true:=by rw[digs_zero];rfl
theorem lss_cmp{m n:Nat}{K:AV→Prop}:binW .lss (.int .i64 (cmpZ m n)) (.int .i64 ((0:Nat):Int)) K↔K (.bool (decide (m<n))):=by
 have:(cmpZ m n<((0:Nat):Int))↔m<n:=by unfold cmpZ;split<;>simp_all;split<;>omega
 simp only[binW,binInt,true_and,this]
theorem fin_trL{l x:List Nat}{b ty n:Nat}{t:Bool}{H:AHeap}{Q:AV→AHeap→Prop}{k:IntKind}{m:Int}(hb:H b=none)(hn:l.length=n)(hq:Q (.tup [LS (tr l) true,LS x t,.int k m]) H):SetR Q (.tup [.own b n 0 (tr l).length true,LS x t,.int k m]) (H.upd b (some (.row ty 1 (U l)))):=by
 refine SetR.frz b (upd_same _ _ _) ?_
 rw[upd_upd,upd_back _ hb,frz,List.map_cons,List.map_cons,List.map_cons,List.map_nil,frz2_tr hn,frz2_int]
 exact SetR.now hq
theorem app_LS{H:AHeap}{ty n:Nat}{l m:List Nat}{t:Bool}{K:AV→AHeap→Prop}(hn:n=m.length)(hm:m≠[])(hb:l.length+m.length≤17592186044416)
 (k: ∀b,H b=none→K (.own b (l.length+m.length) 0 (l.length+m.length) false) (H.upd b (some (.row ty 1 (U (l++m)))))):appV H ty 1 4 (LS l true) (.seq n (U m) t) K:=by
 subst hn
 have hpos:0<m.length:=List.length_pos_iff.2 hm
 refine .inl ⟨by simp,U_cell m,rfl,by simp,by omega,by omega,fun e=>absurd e (by omega),fun _ b hb'=>?_⟩
 have:=k b hb'
 rw[U_app]at this
 simpa using this
theorem divmod_lt{a b:List Nat}(ta tb:Bool)(ha:Lim 4294967296 a)(hb:Lim 4294967296 b)(h0:0<val 4294967296 b)(hla:a.length≤549755813888)(hlb:b.length≤549755813888)(hlt:val 4294967296 a<val 4294967296 b):
 PFn Tryd.prog 132 [LS a ta,LS b tb] (.tup [LS (digs 4294967296 (val 4294967296 a / val 4294967296 b)) true,LS (digs 4294967296 (val 4294967296 a%val 4294967296 b)) true,.int .i64 ((0:Nat):Int)]):=by
 intro H Q hq
 refine enter132 (by simp) ?_
 simp(disch:=first|exact Xe|fail)only[ac132,↓Xa,Xb,Xc,↓reduceIte,Nat.reduceLT,Nat.reduceEqDiff,Nat.reduceBEq,Nat.reduceLeDiff,Nat.reduceAdd,Nat.reduceMul]
 refine(trim_fn b tb).call ?_
 have htb:=tr_len b
 rw[tr_digs (by omega) hb]at htb ⊢
 generalize val 4294967296 b=Bv at*
 have hY:=lim_digs (B:=4294967296) (by omega) Bv
 have hYv:=val_digs (B:=4294967296) (by omega) Bv
 have hYp:0<(digs 4294967296 Bv).length:=by rw[digs_pos (by omega) h0];simp
 generalize digs 4294967296 Bv=Y at*
 have hY0:(Y.length=0)=False:=eq_false (by omega)
 simp(disch:=first|exact Xe|fail)only[hY0,↓Xa,Xb,Xc,↓reduceIte,Nat.reduceLT,Nat.reduceEqDiff,Nat.reduceBEq,Nat.reduceLeDiff,Nat.reduceAdd,Nat.reduceMul]
 refine(cmp_fn ta true ha hY).call ?_
 rw[hYv]
 simp(disch:=first|exact Xe|fail)only[lss_cmp,hlt,↓Xa,Xb,Xc,↓reduceIte,Nat.reduceLT,Nat.reduceEqDiff,Nat.reduceBEq,Nat.reduceLeDiff,Nat.reduceAdd,Nat.reduceMul]
 refine(norm_fn ta (by omega)).call ?_
 rw[tr_digs (by omega) ha]
 simp(disch:=first|exact Xe|fail)only[rs132,↓Xa,Xb,Xc,↓reduceIte,Nat.reduceLT,Nat.reduceEqDiff,Nat.reduceBEq,Nat.reduceLeDiff,Nat.reduceAdd,Nat.reduceMul]
 rw[Nat.div_eq_of_lt hlt,Nat.mod_eq_of_lt hlt,← LS_0 4294967296]at hq
 exact SetR.now hq
theorem divmod_one{a b:List Nat}(ta tb:Bool)(ha:Lim 4294967296 a)(hb:Lim 4294967296 b)(h0:0<val 4294967296 b)(hla:a.length≤549755813888)(hlb:b.length≤549755813888)(hlt: ¬val 4294967296 a<val 4294967296 b)(h1:(digs 4294967296 (val 4294967296 b)).length=1):
 PFn Tryd.prog 132 [LS a ta,LS b tb] (.tup [LS (digs 4294967296 (val 4294967296 a / val 4294967296 b)) true,LS (digs 4294967296 (val 4294967296 a%val 4294967296 b)) true,.int .i64 ((0:Nat):Int)]):=by
 intro H Q hq
 refine enter132 (by simp) ?_
 simp(disch:=first|exact Xe|fail)only[ac132,↓Xa,Xb,Xc,↓reduceIte,Nat.reduceLT,Nat.reduceEqDiff,Nat.reduceBEq,Nat.reduceLeDiff,Nat.reduceAdd,Nat.reduceMul]
 refine(trim_fn b tb).call ?_
 rw[tr_digs (by omega) hb]
 generalize val 4294967296 b=Bv at*
 have hY:=lim_digs (B:=4294967296) (by omega) Bv
 have hYv:=val_digs (B:=4294967296) (by omega) Bv
 generalize digs 4294967296 Bv=Y at*
 simp(disch:=first|exact Xe|fail)only[h1,↓Xa,Xb,Xc,↓reduceIte,Nat.reduceLT,Nat.reduceEqDiff,Nat.reduceBEq,Nat.reduceLeDiff,Nat.reduceAdd,Nat.reduceMul]
 refine(cmp_fn ta true ha hY).call ?_
 rw[hYv]
 have hd:val 4294967296 Y=Y.getD 0 0:=by
  have:=val_take_all 4294967296 Y (0+1) (by omega)
  rw[← this,val_take];simp[val]
 rw[hYv]at hd
 have hBl:Bv<4294967296:=by rw[hd];exact hY.getD (by omega) 0
 simp(disch:=first|exact Xe|fail)only[lss_cmp,hlt,h1,load_LS0,← hd,↓Xa,Xb,Xc,↓reduceIte,Nat.reduceLT,Nat.reduceEqDiff,Nat.reduceBEq,Nat.reduceLeDiff,Nat.reduceAdd,Nat.reduceMul]
 refine(divsmall_fn ta ha h0 hBl (by omega)).call ?_
 simp(disch:=first|exact Xe|fail)only[↓Xa,Xb,Xc,↓reduceIte,Nat.reduceLT,Nat.reduceEqDiff,Nat.reduceBEq,Nat.reduceLeDiff,Nat.reduceAdd,Nat.reduceMul]
 have hm:val 4294967296 a%Bv<4294967296:=Nat.lt_trans (Nat.mod_lt _ h0) hBl
 refine(norm_fn (l:=[val 4294967296 a%Bv]) true (by simp)).call ?_
 rw[tr_digs (by omega) (Lim.one hm),val_one]
 simp(disch:=first|exact Xe|fail)only[rs132,↓Xa,Xb,Xc,↓reduceIte,Nat.reduceLT,Nat.reduceEqDiff,Nat.reduceBEq,Nat.reduceLeDiff,Nat.reduceAdd,Nat.reduceMul]
 exact SetR.now hq
theorem divmod_many{a b:List Nat}(ta tb:Bool)(ha:Lim 4294967296 a)(hb:Lim 4294967296 b)(h0:0<val 4294967296 b)(hla:a.length≤549755813888)(hlb:b.length≤549755813888)(hlt: ¬val 4294967296 a<val 4294967296 b)(h1: ¬(digs 4294967296 (val 4294967296 b)).length=1):
 PFn Tryd.prog 132 [LS a ta,LS b tb] (.tup [LS (digs 4294967296 (val 4294967296 a / val 4294967296 b)) true,LS (digs 4294967296 (val 4294967296 a%val 4294967296 b)) true,.int .i64 ((0:Nat):Int)]):=by
 intro H Q hq
 refine enter132 (by simp) ?_
 simp(disch:=first|exact Xe|fail)only[ac132,↓Xa,Xb,Xc,↓reduceIte,Nat.reduceLT,Nat.reduceEqDiff,Nat.reduceBEq,Nat.reduceLeDiff,Nat.reduceAdd,Nat.reduceMul]
 refine(trim_fn b tb).call ?_
 have htb:=tr_len b
 rw[tr_digs (by omega) hb]at htb ⊢
 generalize val 4294967296 b=Bv at*
 have hY:=lim_digs (B:=4294967296) (by omega) Bv
 have hYv:=val_digs (B:=4294967296) (by omega) Bv
 have hYp:0<(digs 4294967296 Bv).length:=by rw[digs_pos (by omega) h0];simp
 have hY0:((digs 4294967296 Bv).length=0)=False:=eq_false (by omega)
 simp(disch:=first|exact Xe|fail)only[hY0,↓Xa,Xb,Xc,↓reduceIte,Nat.reduceLT,Nat.reduceEqDiff,Nat.reduceBEq,Nat.reduceLeDiff,Nat.reduceAdd,Nat.reduceMul]
 refine(cmp_fn ta true ha hY).call ?_
 rw[hYv]
 have hn2:2≤(digs 4294967296 Bv).length:=by omega
 have htop:=hY.getD (by omega) ((digs 4294967296 Bv).length-1)
 have htl:blen ((digs 4294967296 Bv).getD ((digs 4294967296 Bv).length-1) 0)≤32:=blen_le.2 (by omega)
 simp(disch:=first|exact Xe|fail)only[lss_cmp,hlt,h1,↓Xa,Xb,Xc,↓reduceIte,Nat.reduceLT,Nat.reduceEqDiff,Nat.reduceBEq,Nat.reduceLeDiff,Nat.reduceAdd,Nat.reduceMul]
 refine(lz_fn htop).call ?_
 generalize hs:32-blen ((digs 4294967296 Bv).getD ((digs 4294967296 Bv).length-1) 0)=s at*
 have hs32:s≤32:=by omega
 obtain⟨w1,w2,w3⟩:=shifted h0 hs.symm
 simp(disch:=first|exact Xe|fail)only[↓Xa,Xb,Xc,↓reduceIte,Nat.reduceLT,Nat.reduceEqDiff,Nat.reduceBEq,Nat.reduceLeDiff,Nat.reduceAdd,Nat.reduceMul]
 refine(shl_fn true hY (by omega) (by omega)).call ?_
 rw[hYv]
 simp(disch:=first|exact Xe|fail)only[↓Xa,Xb,Xc,↓reduceIte,Nat.reduceLT,Nat.reduceEqDiff,Nat.reduceBEq,Nat.reduceLeDiff,Nat.reduceAdd,Nat.reduceMul]
 refine(shl_fn ta ha (by omega) (by omega)).call ?_
 have hV0:0<Bv*2^s:=Nat.mul_pos h0 (Nat.pow_pos (by omega))
 have hlv:=lim_digs (B:=4294967296) (by omega) (Bv*2^s)
 have hvv:=val_digs (B:=4294967296) (by omega) (Bv*2^s)
 have hlu:=lim_digs (B:=4294967296) (by omega) (val 4294967296 a*2^s)
 have hvu:=val_digs (B:=4294967296) (by omega) (val 4294967296 a*2^s)
 have hAB:Bv*2^s≤val 4294967296 a*2^s:=Nat.mul_le_mul_right _ (by omega)
 have hll:(digs 4294967296 (Bv*2^s)).length≤(digs 4294967296 (val 4294967296 a*2^s)).length:=by
  rcases Nat.lt_or_ge (digs 4294967296 (val 4294967296 a*2^s)).length (digs 4294967296 (Bv*2^s)).length with h|h
  ·have:=digs_lt_len (by omega) h;omega
  ·exact h
 have hul:(digs 4294967296 (val 4294967296 a*2^s)).length≤a.length+1:=digs_len (by omega) _ _ (by
  have h1:=val_lt ha
  have h2:(2:Nat)^s≤2^32:=Nat.pow_le_pow_right (by omega) hs32
  rw[Nat.pow_succ]
  exact Nat.mul_lt_mul_of_lt_of_le h1 h2 (by omega))
 rw[w1]at hll
 have hdiv:val 4294967296 a*2^s / (Bv*2^s)=val 4294967296 a / Bv:=Nat.mul_div_mul_right _ _ (Nat.pow_pos (by omega))
 have hmod:val 4294967296 a*2^s%(Bv*2^s) / 2^s=val 4294967296 a%Bv:=by
  rw[Nat.mul_mod_mul_right,Nat.mul_div_cancel _ (Nat.pow_pos (by omega))]
 generalize val 4294967296 a*2^s=T at*
 generalize Bv*2^s=V at*
 generalize digs 4294967296 V=v at*
 generalize hn:(digs 4294967296 Bv).length=n at*
 generalize digs 4294967296 T=u0 at*
 simp(disch:=first|exact Xe|fail)only[↓Xa,Xb,Xc,↓reduceIte,Nat.reduceLT,Nat.reduceEqDiff,Nat.reduceBEq,Nat.reduceLeDiff,Nat.reduceAdd,Nat.reduceMul]
 refine app_LS (l:=u0) (m:=[0]) rfl (by simp) (by simp;omega) fun bu hbu=>?_
 obtain⟨k0,hk0⟩: ∃k0,u0.length=n+k0:=⟨u0.length-n,by omega⟩
 have hum:u0.length+[0].length=n+k0+1:=by simp[hk0]
 rw[hum]
 have hdn:n+k0+1-n=k0+1:=by omega
 simp(disch:=first|exact Xe|fail)only[w1,hdn,↓Xa,Xb,Xc,↓reduceIte,Nat.reduceLT,Nat.reduceEqDiff,Nat.reduceBEq,Nat.reduceLeDiff,Nat.reduceAdd,Nat.reduceMul]
 refine newU_i fun bq hbq=>?_
 have nb:=hbq
 simp only[upd_none]at nb
 obtain⟨nbA,nbq⟩:=nb
 simp(disch:=first|exact Xe|fail)only[hdn,Nat.add_sub_cancel,↓Xa,Xb,Xc,↓reduceIte,Nat.reduceLT,Nat.reduceEqDiff,Nat.reduceBEq,Nat.reduceLeDiff,Nat.reduceAdd,Nat.reduceMul]
 have hlz:(u0++[0]).length=n+k0+1:=by simp[hk0]
 refine W_loop (fun z:Nat×List Nat×List Nat=>⟨[],[(10,.int .i64 s),(11,LS v true),(13,.own bu (n+k0+1) 0 (n+k0+1) false),(15,.int .i64 n),(16,.own bq (k0+1) 0 (k0+1) true),(17,.int .i64 (dn z.1))],
  (H.upd bu (some (.row 149 1 (U z.2.1)))).upd bq (some (.row 149 1 (U z.2.2)))⟩)
  (fun z=>DivK T V n k0 z.1 z.2.1 z.2.2) (fun z=>z.1) (k0+1,u0++[0],List.replicate (k0+1) 0) (Settle.now rfl) ?_ ?_
 ·refine⟨Nat.le_refl _,hlz,lim_snoc hlu (by omega),by simp,lim_zeros (by omega) _,?_,?_⟩
  ·
   have e:=val_append 4294967296 (u0.drop (k0+1)) [0]
   have h1:=val_lt (hlu.drop (k0+1))
   rw[List.length_drop]at h1
   have h2:(u0++[0]).drop (k0+1)=u0.drop (k0+1)++[0]:=by rw[List.drop_append_of_le_length (by omega)]
   rw[h2,e,val_one,Nat.mul_zero,Nat.add_zero]
   have h3:=val_top1 (B:=4294967296) (l:=v) (n:=n-1) (by omega)
   rw[hvv]at h3
   have h4:4294967296^(n-1)*1≤4294967296^(n-1)*v.getD (n-1) 0:=Nat.mul_le_mul_left _ (by omega)
   rw[show u0.length-(k0+1)=n-1 by omega]at h1
   omega
  ·have z:val 4294967296 []=0:=rfl
   show T=V*(4294967296^(k0+1)*val 4294967296 ((List.replicate (k0+1) 0).drop (k0+1)))+val 4294967296 (u0++[0])
   rw[List.drop_of_length_le (Nat.le_of_eq List.length_replicate),val_snoc,hvu,z,Nat.mul_zero,Nat.mul_zero,Nat.mul_zero,Nat.zero_add,Nat.add_zero]
 rintro⟨M,ul,ql⟩ hk
 dsimp only at hk ⊢
 have hu1:=hk.ulen
 have hq1:=hk.qlen
 cases M with
 |zero=>
  obtain⟨d1,d2⟩:=hk.end
  simp(disch:=first|exact Xe|fail)only[↓Xa,Xb,Xc,↓reduceIte,Nat.reduceLT,Nat.reduceEqDiff,Nat.reduceBEq,Nat.reduceLeDiff,Nat.reduceAdd,Nat.reduceMul]
  refine Settle.freeze 13 rfl (by rw[upd_otherA nbA.symm,upd_same]) (by simp[hu1]) (.inr (by simp)) ?_
  have e1:AV.seq (n+k0+1) (((U ul).drop 0).take ((n+k0+1)*1)) false=LS ul false:=by
   rw[List.drop_zero,Nat.mul_one,← hu1,List.take_of_length_le (by simp)];rfl
  rw[e1,upd_over nbA,upd_back H hbu]
  refine Settle.now ?_
  simp(disch:=first|exact Xe|fail)only[↓Xa,Xb,Xc,↓reduceIte,Nat.reduceLT,Nat.reduceEqDiff,Nat.reduceBEq,Nat.reduceLeDiff,Nat.reduceAdd,Nat.reduceMul]
  refine(shr_fn false hk.ulim (by omega) (by omega)).call ?_
  rw[d2,hmod]
  simp(disch:=first|exact Xe|fail)only[↓Xa,Xb,Xc,↓reduceIte,Nat.reduceLT,Nat.reduceEqDiff,Nat.reduceBEq,Nat.reduceLeDiff,Nat.reduceAdd,Nat.reduceMul]
  refine trim_call (upd_same _ _ _) hq1 ?_
  simp(disch:=first|exact Xe|fail)only[rs132,↓Xa,Xb,Xc,↓reduceIte,Nat.reduceLT,Nat.reduceEqDiff,Nat.reduceBEq,Nat.reduceLeDiff,Nat.reduceAdd,Nat.reduceMul]
  refine fin_trL nbq hq1 ?_
  rw[tr_digs (by omega) hk.qlim,d1,hdiv]
  exact hq
 |succ k=>
  have hM:=hk.hM
  have hkl:k≤k0:=by omega
  obtain⟨s1,s2,s3⟩:=hk.seg w2
  have hseg:((ul.drop k).take (n+1)).length=n+1:=by rw[List.length_take,List.length_drop];omega
  have hparts:ul=ul.take k++((ul.drop k).take (n+1)++ul.drop (k+(n+1))):=by
   rw[← List.drop_drop,List.take_append_drop,List.take_append_drop]
  have hD:DigI ((ul.drop k).take (n+1)) v (n-2):=by
   refine⟨by omega,by omega,(hk.ulim.drop k).take _,hlv,?_,?_⟩
   ·rw[show n-2+1=n-1 by omega];exact w3
   ·rw[s1,hvv];exact s2
  have hkn:k+n+1-k=n+1:=by omega
  have hpre:(ul.take k).length=k:=by rw[List.length_take];omega
  simp(disch:=first|exact Xe|fail)only[hkn,↓Xa,Xb,Xc,↓reduceIte,Nat.reduceLT,Nat.reduceEqDiff,Nat.reduceBEq,Nat.reduceLeDiff,Nat.reduceAdd,Nat.reduceMul]
  refine run_call (digit_run (pre:=ul.take k) (u:=(ul.drop k).take (n+1)) (post:=ul.drop (k+(n+1))) true hD (by rw[upd_otherA nbA.symm,upd_same,← hparts]) (by rw[hpre,hseg,List.length_drop];omega) hpre.symm hseg.symm (by omega) fun w g1 g2 g3=>?_)
  rw[hseg]at g1
  rw[hvv]at g3 ⊢
  have hqd:val 4294967296 ((ul.drop k).take (n+1)) / V<4294967296:=Nat.div_lt_of_lt_mul (by rw[s1,Nat.mul_comm];exact s2)
  have stp:=hk.step w2 hV0 g1 g2 g3 rfl
  rw[Nat.mod_eq_of_lt hqd]at stp
  generalize val 4294967296 ((ul.drop k).take (n+1)) / V=qd at*
  simp(disch:=first|exact Xe|fail)only[↓Xa,Xb,Xc,↓reduceIte,Nat.reduceLT,Nat.reduceEqDiff,Nat.reduceBEq,Nat.reduceLeDiff,Nat.reduceAdd,Nat.reduceMul]
  exact Settle.keep [10,11,13,15,16,17] ⟨(k,_,_),by dsimp only;omega,stp,rfl⟩
theorem divmod_fn{a b:List Nat}(ta tb:Bool)(ha:Lim 4294967296 a)(hb:Lim 4294967296 b)(h0:0<val 4294967296 b)(hla:a.length≤549755813888)(hlb:b.length≤549755813888):
 PFn Tryd.prog 132 [LS a ta,LS b tb] (.tup [LS (digs 4294967296 (val 4294967296 a / val 4294967296 b)) true,LS (digs 4294967296 (val 4294967296 a%val 4294967296 b)) true,.int .i64 ((0:Nat):Int)]):=by
 by_cases hlt:val 4294967296 a<val 4294967296 b
 ·exact divmod_lt ta tb ha hb h0 hla hlb hlt
 ·by_cases h1:(digs 4294967296 (val 4294967296 b)).length=1
  ·exact divmod_one ta tb ha hb h0 hla hlb hlt h1
  ·exact divmod_many ta tb ha hb h0 hla hlb hlt h1
def IntA(z:Int):AV:=.agg [.bool (decide (z<0)),LS (digs 4294967296 z.natAbs) true]
def sg(neg:Bool)(n:Nat):Int:=if neg then -(n:Int)else n
theorem sg_abs(neg:Bool)(n:Nat):(sg neg n).natAbs=n:=by cases neg<;>simp[sg]
theorem sg_neg(neg:Bool)(n:Nat):decide (sg neg n<0)=(neg&&decide (0<n)):=by cases neg<;>simp[sg]<;>omega
theorem sg_self(z:Int):sg (decide (z<0)) z.natAbs=z:=by unfold sg;by_cases h:z<0<;>simp[h];omega;omega
theorem abs_nn{z:Int}(h:0≤z):((z.natAbs:Nat):Int)=z:=by omega
theorem abs_np{z:Int}(h:z≤0): -((z.natAbs:Nat):Int)=z:=by omega
theorem IntA_sg(neg:Bool)(n:Nat):IntA (sg neg n)=.agg [.bool (neg&&decide (0<(digs 4294967296 n).length)),LS (digs 4294967296 n) true]:=by
 simp only[IntA,sg_abs,sg_neg,digs_pos_len (B:=4294967296) (n:=n) (by omega)]
def IntB(z:Int):AV:=.bool (decide (z<0))
def IntD(z:Int):AV:=LS (digs 4294967296 z.natAbs) true
theorem IntA_eq{z:Int}:IntA z=.agg [IntB z,IntD z]:=id rfl
theorem cells_IntA{z:Int}:(IntA z).cells=some [IntB z,IntD z]:=id rfl
theorem fold_IntA{z:Int}:AV.agg [IntB z,IntD z]=IntA z:=id rfl
theorem IntA_0:AV.agg [.bool false,.seq 0 [] true]=IntA 0:=by simp[IntA,digs_zero,LS,U]
theorem cell_IntB{z:Int}:(IntB z).cells=some [IntB z]:=id rfl
theorem cell_IntD{z:Int}:(IntD z).cells=some [IntD z]:=id rfl
theorem cell_Bool{z:Int}:(IntB z).cell=true:=id rfl
theorem cell_Dool{z:Int}:(IntD z).cell=true:=id rfl
theorem made_fn(neg:Bool)(n:Nat)(hl:(digs 4294967296 n).length≤1099511627776):PFn Tryd.prog 51 [.bool neg,LS (digs 4294967296 n) true] (IntA (sg neg n)):=by
 intro H Q hq
 refine enter51 (by simp) ?_
 rw[IntA_sg]at hq
 simp(disch:=first|exact Xe|fail)only[ac51,↓Xa,Xb,Xc,↓reduceIte,Nat.reduceLT,Nat.reduceEqDiff,Nat.reduceBEq,Nat.reduceLeDiff,Nat.reduceAdd,Nat.reduceMul]
 refine alloc_i fun p hp=>?_
 cases neg
 ·simp(disch:=first|exact Xe|fail)only[rs51,↓Xa,Xb,Xc,↓reduceIte,Nat.reduceLT,Nat.reduceEqDiff,Nat.reduceBEq,Nat.reduceLeDiff,Nat.reduceAdd,Nat.reduceMul]
  exact SetR.dropTo ((Le.refl H).upd hp) (SetR.now hq)
 ·simp(disch:=first|exact Xe|fail)only[rs51,↓Xa,Xb,Xc,↓reduceIte,Nat.reduceLT,Nat.reduceEqDiff,Nat.reduceBEq,Nat.reduceLeDiff,Nat.reduceAdd,Nat.reduceMul]
  exact SetR.dropTo ((Le.refl H).upd hp) (SetR.now hq)
def Bd(k:Nat)(z:Int):Prop:=z.natAbs<4294967296^k
theorem Bd.len{k:Nat}{z:Int}(h:Bd k z):(digs 4294967296 z.natAbs).length≤k:=digs_len (by omega) k _ h
theorem Bd.mono{k k':Nat}{z:Int}(h:Bd k z)(hk:k≤k'):Bd k' z:=Nat.lt_of_lt_of_le h (Nat.pow_le_pow_right (by omega) hk)
theorem Bd.neg{k:Nat}{z:Int}(h:Bd k z):Bd k (-z):=by unfold Bd at *; omega
theorem Bd.sgn{k n:Nat}{b:Bool}(h:n<4294967296^k):Bd k (sg b n):=by unfold Bd;rw[sg_abs];exact h
theorem Bd.abs{k:Nat}{z:Int}(h:Bd k z):Bd k (z.natAbs:Int):=by unfold Bd at *; omega
theorem Bd.add{k:Nat}{x y:Int}(h:Bd k x)(h':Bd k y):Bd (k+1) (x+y):=by
 unfold Bd at *; rw[Nat.pow_succ];omega
theorem Bd.sub{k:Nat}{x y:Int}(h:Bd k x)(h':Bd k y):Bd (k+1) (x-y):=by
 unfold Bd at *; rw[Nat.pow_succ];omega
theorem Bd.mul{k k':Nat}{x y:Int}(h:Bd k x)(h':Bd k' y):Bd (k+k') (x*y):=by
 unfold Bd at *; rw[Int.natAbs_mul,Nat.pow_add]
 exact Nat.mul_lt_mul_of_lt_of_lt h h'
theorem Bd.zero(k:Nat):Bd k 0:=by unfold Bd;exact Nat.pow_pos (by omega)
theorem Bd.i64{n:Int}(h: -9223372036854775808≤n∧n<9223372036854775808):Bd 2 n:=by unfold Bd;omega
theorem make_fn{l:List Nat}(neg t:Bool)(hl:Lim 4294967296 l)(hn:l.length≤1099511627776):PFn Tryd.prog 85 [.bool neg,LS l t] (IntA (sg neg (val 4294967296 l))):=by
 intro H Q hq
 refine enter85 (by simp) ?_
 simp(disch:=first|exact Xe|fail)only[ac85,↓Xa,Xb,Xc,↓reduceIte,Nat.reduceLT,Nat.reduceEqDiff,Nat.reduceBEq,Nat.reduceLeDiff,Nat.reduceAdd,Nat.reduceMul]
 refine alloc_i fun p hp=>?_
 simp(disch:=first|exact Xe|fail)only[↓Xa,Xb,Xc,↓reduceIte,Nat.reduceLT,Nat.reduceEqDiff,Nat.reduceBEq,Nat.reduceLeDiff,Nat.reduceAdd,Nat.reduceMul]
 refine(norm_fn t (by omega)).call ?_
 rw[tr_digs (by omega) hl]
 simp(disch:=first|exact Xe|fail)only[↓Xa,Xb,Xc,↓reduceIte,Nat.reduceLT,Nat.reduceEqDiff,Nat.reduceBEq,Nat.reduceLeDiff,Nat.reduceAdd,Nat.reduceMul]
 refine(made_fn neg _ (by have:=tr_len l;rw[tr_digs (by omega) hl]at this;omega)).call ?_
 simp(disch:=first|exact Xe|fail)only[rs85,IntA,↓Xa,Xb,Xc,↓reduceIte,Nat.reduceLT,Nat.reduceEqDiff,Nat.reduceBEq,Nat.reduceLeDiff,Nat.reduceAdd,Nat.reduceMul]
 exact SetR.dropTo ((Le.refl H).upd hp) (SetR.now hq)
theorem of_fn{n:Int}(hn: -9223372036854775808≤n∧n<9223372036854775808):PFn Tryd.prog 49 [.int .i64 n] (IntA n):=by
 intro H Q hq
 refine enter49 (by simp) ?_
 have v2: ∀u:Nat,u<18446744073709551616→val 4294967296 [u%4294967296,u / 2^32]=u:=by
  intro u hu;simp only[val];omega
 have l2: ∀u:Nat,u<18446744073709551616→Lim 4294967296 [u%4294967296,u / 2^32]:=fun u hu=>Lim.cons (Nat.mod_lt _ (by omega)) (Lim.one (by omega))
 simp(disch:=first|exact Xe|fail)only[ac49,↓Xa,Xb,Xc,↓reduceIte,Nat.reduceLT,Nat.reduceEqDiff,Nat.reduceBEq,Nat.reduceLeDiff,Nat.reduceAdd,Nat.reduceMul]
 refine alloc_i fun p hp=>?_
 have key': ∀(u:Nat)(neg:Bool),u<18446744073709551616→sg neg u=n→∀{H K},K (IntA n) H→callW Tryd.prog (.fn (.func 85) [] []) [.bool neg,.seq 2 [.int .u32 ((u%4294967296:Nat):Int),.int .u32 ((u / 2^32:Nat):Int)] true] H K:=by
  intro u neg hu hs H K hk
  have:=make_fn neg true (l2 u hu) (by simp)
  rw[v2 u hu,hs]at this
  exact this.call hk
 by_cases h0:n<0
 ·obtain⟨m,rfl⟩: ∃m:Nat,n= -(m:Int):=⟨n.natAbs,by omega⟩
  have c1: ∀K,convW .u64 (.int .i64 (-(m:Int))) K↔K (.int .u64 ((18446744073709551616-m:Nat):Int)):=fun K=>by
   simp only[convW,wmod_u64];rw[show(-(m:Int))%18446744073709551616=((18446744073709551616-m:Nat):Int) by omega]
  have c2: ∀K,unW .neg (.int .u64 ((18446744073709551616-m:Nat):Int)) K↔K (.int .u64 (m:Int)):=fun K=>by
   simp only[unW,wmod_u64];rw[show(0-((18446744073709551616-m:Nat):Int))%18446744073709551616=(m:Int) by omega]
  have c3: ∀K,binW .lss (.int .i64 (-(m:Int))) (.int .i64 ((0:Nat):Int)) K↔K (.bool true):=fun K=>by
   simp only[binW,binInt,true_and];rw[decide_eq_true (by omega)]
  simp(disch:=first|exact Xe|fail)only[c1,c2,c3,↓Xa,Xb,Xc,↓reduceIte,Nat.reduceLT,Nat.reduceEqDiff,Nat.reduceBEq,Nat.reduceLeDiff,Nat.reduceAdd,Nat.reduceMul]
  refine key' m true (by omega) (by simp[sg]) ?_
  simp(disch:=first|exact Xe|fail)only[rs49,IntA,↓Xa,Xb,Xc,↓reduceIte,Nat.reduceLT,Nat.reduceEqDiff,Nat.reduceBEq,Nat.reduceLeDiff,Nat.reduceAdd,Nat.reduceMul]
  exact SetR.dropTo ((Le.refl H).upd hp) (SetR.now hq)
 ·obtain⟨m,rfl⟩: ∃m:Nat,n=(m:Int):=⟨n.natAbs,by omega⟩
  simp(disch:=first|exact Xe|fail)only[↓Xa,Xb,Xc,↓reduceIte,Nat.reduceLT,Nat.reduceEqDiff,Nat.reduceBEq,Nat.reduceLeDiff,Nat.reduceAdd,Nat.reduceMul]
  refine key' m false (by omega) (by simp[sg]) ?_
  simp(disch:=first|exact Xe|fail)only[rs49,IntA,↓Xa,Xb,Xc,↓reduceIte,Nat.reduceLT,Nat.reduceEqDiff,Nat.reduceBEq,Nat.reduceLeDiff,Nat.reduceAdd,Nat.reduceMul]
  exact SetR.dropTo ((Le.refl H).upd hp) (SetR.now hq)
theorem neg_fn{x:Int}{k:Nat}(hx:Bd k x)(hk:k≤549755813888):PFn Tryd.prog 96 [IntA x] (IntA (-x)):=by
 intro H Q hq
 have hl:=hx.len
 have e: -x=sg (!decide (x<0)) x.natAbs:=by unfold sg;by_cases h:x<0<;>simp[h]<;>omega
 rw[e]at hq
 refine enter96 (by simp) ?_
 simp(disch:=first|exact Xe|fail)only[ac96,IntA,↓Xa,Xb,Xc,↓reduceIte,Nat.reduceLT,Nat.reduceEqDiff,Nat.reduceBEq,Nat.reduceLeDiff,Nat.reduceAdd,Nat.reduceMul]
 refine alloc_i fun p hp=>?_
 simp(disch:=first|exact Xe|fail)only[↓Xa,Xb,Xc,↓reduceIte,Nat.reduceLT,Nat.reduceEqDiff,Nat.reduceBEq,Nat.reduceLeDiff,Nat.reduceAdd,Nat.reduceMul]
 refine alloc_i fun p2 hp2=>?_
 have hne:=(upd_none.1 hp2).1
 simp(disch:=first|exact Xe|fail)only[↓Xa,Xb,Xc,↓reduceIte,Nat.reduceLT,Nat.reduceEqDiff,Nat.reduceBEq,Nat.reduceLeDiff,Nat.reduceAdd,Nat.reduceMul]
 refine(made_fn _ _ (by omega)).call ?_
 simp(disch:=first|exact Xe|fail)only[rs96,IntA,↓Xa,Xb,Xc,↓reduceIte,Nat.reduceLT,Nat.reduceEqDiff,Nat.reduceBEq,Nat.reduceLeDiff,Nat.reduceAdd,Nat.reduceMul]
 exact SetR.dropTo (((Le.refl H).upd hp).upd hp2) (SetR.now hq)
theorem abs_fn{x:Int}{k:Nat}(hx:Bd k x)(hk:k≤549755813888):PFn Tryd.prog 144 [IntA x] (IntA (x.natAbs:Int)):=by
 intro H Q hq
 have hl:=hx.len
 refine enter144 (by simp) ?_
 simp(disch:=first|exact Xe|fail)only[ac144,IntA,↓Xa,Xb,Xc,↓reduceIte,Nat.reduceLT,Nat.reduceEqDiff,Nat.reduceBEq,Nat.reduceLeDiff,Nat.reduceAdd,Nat.reduceMul]
 refine alloc_i fun p hp=>?_
 simp(disch:=first|exact Xe|fail)only[↓Xa,Xb,Xc,↓reduceIte,Nat.reduceLT,Nat.reduceEqDiff,Nat.reduceBEq,Nat.reduceLeDiff,Nat.reduceAdd,Nat.reduceMul]
 refine alloc_i fun p2 hp2=>?_
 have hne:=(upd_none.1 hp2).1
 simp(disch:=first|exact Xe|fail)only[↓Xa,Xb,Xc,↓reduceIte,Nat.reduceLT,Nat.reduceEqDiff,Nat.reduceBEq,Nat.reduceLeDiff,Nat.reduceAdd,Nat.reduceMul]
 refine(made_fn false _ (by omega)).call ?_
 simp(disch:=first|exact Xe|fail)only[rs144,IntA,↓Xa,Xb,Xc,↓reduceIte,Nat.reduceLT,Nat.reduceEqDiff,Nat.reduceBEq,Nat.reduceLeDiff,Nat.reduceAdd,Nat.reduceMul]
 exact SetR.dropTo (((Le.refl H).upd hp).upd hp2) (SetR.now (by simpa[IntA,sg]using hq))
def sgnI(x:Int):Int:=if x=0 then((0:Nat):Int)else if x<0 then -1 else((1:Nat):Int)
theorem sign_fn{x:Int}{k:Nat}(hx:Bd k x)(hk:k≤549755813888):PFn Tryd.prog 87 [IntA x] (.int .i64 (sgnI x)):=by
 intro H Q hq
 have hl:=hx.len
 have h0:=digs_len0 (B:=4294967296) (n:=x.natAbs) (by omega)
 refine enter87 (by simp) ?_
 simp(disch:=first|exact Xe|fail)only[ac87,IntA,↓Xa,Xb,Xc,↓reduceIte,Nat.reduceLT,Nat.reduceEqDiff,Nat.reduceBEq,Nat.reduceLeDiff,Nat.reduceAdd,Nat.reduceMul]
 refine alloc_i fun p hp=>?_
 by_cases hz:x=0
 ·have h1:(digs 4294967296 x.natAbs).length=0:=by rw[h0];omega
  simp(disch:=first|exact Xe|fail)only[rs87,h1,↓Xa,Xb,Xc,↓reduceIte,Nat.reduceLT,Nat.reduceEqDiff,Nat.reduceBEq,Nat.reduceLeDiff,Nat.reduceAdd,Nat.reduceMul]
  refine SetR.dropTo ((Le.refl H).upd hp) (SetR.now ?_)
  simpa[sgnI,hz]using hq
 ·have h1:((digs 4294967296 x.natAbs).length=0)=False:=by rw[h0];simp;omega
  by_cases hn:x<0
  ·simp(disch:=first|exact Xe|fail)only[rs87,h1,hn,↓Xa,Xb,Xc,↓reduceIte,Nat.reduceLT,Nat.reduceEqDiff,Nat.reduceBEq,Nat.reduceLeDiff,Nat.reduceAdd,Nat.reduceMul]
   refine SetR.dropTo ((Le.refl H).upd hp) (SetR.now ?_)
   simpa[sgnI,hz,hn]using hq
  ·simp(disch:=first|exact Xe|fail)only[rs87,h1,hn,↓Xa,Xb,Xc,↓reduceIte,Nat.reduceLT,Nat.reduceEqDiff,Nat.reduceBEq,Nat.reduceLeDiff,Nat.reduceAdd,Nat.reduceMul]
   refine SetR.dropTo ((Le.refl H).upd hp) (SetR.now ?_)
   simpa[sgnI,hz,hn]using hq
def cmpI(x y:Int):Int:=if x<y then -1 else if y<x then((1:Nat):Int)else((0:Nat):Int)
theorem cmpi_fn{x y:Int}{k k':Nat}(hx:Bd k x)(hk:k≤549755813888)(hy:Bd k' y)(hk':k'≤549755813888):PFn Tryd.prog 15 [IntA x,IntA y] (.int .i64 (cmpI x y)):=by
 intro H Q hq
 have hl:=hx.len
 have hl':=hy.len
 have vx:=val_digs (B:=4294967296) (by omega) x.natAbs
 have vy:=val_digs (B:=4294967296) (by omega) y.natAbs
 have lx:=lim_digs (B:=4294967296) (by omega) x.natAbs
 have ly:=lim_digs (B:=4294967296) (by omega) y.natAbs
 refine enter15 (by simp) ?_
 simp(disch:=first|exact Xe|fail)only[ac15,IntA,↓Xa,Xb,Xc,↓reduceIte,Nat.reduceLT,Nat.reduceEqDiff,Nat.reduceBEq,Nat.reduceLeDiff,Nat.reduceAdd,Nat.reduceMul]
 refine alloc_i fun p hp=>?_
 simp(disch:=first|exact Xe|fail)only[↓Xa,Xb,Xc,↓reduceIte,Nat.reduceLT,Nat.reduceEqDiff,Nat.reduceBEq,Nat.reduceLeDiff,Nat.reduceAdd,Nat.reduceMul]
 refine alloc_i fun p2 hp2=>?_
 have hne:=(upd_none.1 hp2).1
 have fin: ∀v,cmpI x y=v→SetR Q (.int .i64 v) ((H.upd p (some (.row 34 0 [.bool (decide (x<0)),LS (digs 4294967296 x.natAbs) true]))).upd p2 (some (.row 34 0 [.bool (decide (y<0)),LS (digs 4294967296 y.natAbs) true]))):=fun v hv=>SetR.dropTo (((Le.refl H).upd hp).upd hp2) (SetR.now (hv▸hq))
 by_cases hn:x<0
 ·by_cases hn':y<0
  ·simp(disch:=first|exact Xe|fail)only[hn,hn',↓Xa,Xb,Xc,↓reduceIte,Nat.reduceLT,Nat.reduceEqDiff,Nat.reduceBEq,Nat.reduceLeDiff,Nat.reduceAdd,Nat.reduceMul]
   refine(cmp_fn true true ly lx).call ?_
   rw[vx,vy]
   have:cmpI x y=cmpZ y.natAbs x.natAbs:=by unfold cmpI cmpZ;split<;>split<;>first|rfl|omega|(split<;>first|rfl|omega|(split<;>first|rfl|omega))
   simp only[hn,hn',decide_true]at fin
   simp(disch:=first|exact Xe|fail)only[rs15,↓Xa,Xb,Xc,↓reduceIte,Nat.reduceLT,Nat.reduceEqDiff,Nat.reduceBEq,Nat.reduceLeDiff,Nat.reduceAdd,Nat.reduceMul]
   exact fin _ this
  ·simp(disch:=first|exact Xe|fail)only[hn,hn',rs15,↓Xa,Xb,Xc,↓reduceIte,Nat.reduceLT,Nat.reduceEqDiff,Nat.reduceBEq,Nat.reduceLeDiff,Nat.reduceAdd,Nat.reduceMul]
   simp only[hn,hn',decide_true,decide_false]at fin
   exact fin _ (by unfold cmpI;rw[if_pos (by omega)])
 ·by_cases hn':y<0
  ·simp(disch:=first|exact Xe|fail)only[hn,hn',rs15,↓Xa,Xb,Xc,↓reduceIte,Nat.reduceLT,Nat.reduceEqDiff,Nat.reduceBEq,Nat.reduceLeDiff,Nat.reduceAdd,Nat.reduceMul]
   simp only[hn,hn',decide_true,decide_false]at fin
   exact fin _ (by unfold cmpI;rw[if_neg (by omega),if_pos (by omega)])
  ·simp(disch:=first|exact Xe|fail)only[hn,hn',↓Xa,Xb,Xc,↓reduceIte,Nat.reduceLT,Nat.reduceEqDiff,Nat.reduceBEq,Nat.reduceLeDiff,Nat.reduceAdd,Nat.reduceMul]
   refine(cmp_fn true true lx ly).call ?_
   rw[vx,vy]
   have:cmpI x y=cmpZ x.natAbs y.natAbs:=by unfold cmpI cmpZ;split<;>split<;>first|rfl|omega|(split<;>first|rfl|omega|(split<;>first|rfl|omega))
   simp only[hn,hn',decide_false]at fin
   simp(disch:=first|exact Xe|fail)only[rs15,↓Xa,Xb,Xc,↓reduceIte,Nat.reduceLT,Nat.reduceEqDiff,Nat.reduceBEq,Nat.reduceLeDiff,Nat.reduceAdd,Nat.reduceMul]
   exact fin _ this
theorem addi_fn{x y:Int}{k k':Nat}(hx:Bd k x)(hk:k≤549755813888)(hy:Bd k' y)(hk':k'≤549755813888):PFn Tryd.prog 13 [IntA x,IntA y] (IntA (x+y)):=by
 intro H Q hq
 have hl:=hx.len
 have hl':=hy.len
 have vx:=val_digs (B:=4294967296) (by omega) x.natAbs
 have vy:=val_digs (B:=4294967296) (by omega) y.natAbs
 have lx:=lim_digs (B:=4294967296) (by omega) x.natAbs
 have ly:=lim_digs (B:=4294967296) (by omega) y.natAbs
 have hxm:=hx.mono (Nat.le_max_left k k')
 have hym:=hy.mono (Nat.le_max_right k k')
 refine enter13 (by simp) ?_
 simp(disch:=first|exact Xe|fail)only[ac13,IntA,↓Xa,Xb,Xc,↓reduceIte,Nat.reduceLT,Nat.reduceEqDiff,Nat.reduceBEq,Nat.reduceLeDiff,Nat.reduceAdd,Nat.reduceMul]
 refine alloc_i fun p hp=>?_
 simp(disch:=first|exact Xe|fail)only[↓Xa,Xb,Xc,↓reduceIte,Nat.reduceLT,Nat.reduceEqDiff,Nat.reduceBEq,Nat.reduceLeDiff,Nat.reduceAdd,Nat.reduceMul]
 refine alloc_i fun p2 hp2=>?_
 simp(disch:=first|exact Xe|fail)only[↓Xa,Xb,Xc,↓reduceIte,Nat.reduceLT,Nat.reduceEqDiff,Nat.reduceBEq,Nat.reduceLeDiff,Nat.reduceAdd,Nat.reduceMul]
 refine alloc_i fun p3 hp3=>?_
 have hne:=(upd_none.1 hp2).1
 have hne3:=(upd_none.1 hp3).1
 have hne4:=(upd_none.1 (upd_none.1 hp3).2).1
 by_cases hs:decide (x<0)=decide (y<0)
 ·have hsb:(decide (x<0)==decide (y<0))=true:=by rw[hs];simp
  simp(disch:=first|exact Xe|fail)only[hsb,↓Xa,Xb,Xc,↓reduceIte,Nat.reduceLT,Nat.reduceEqDiff,Nat.reduceBEq,Nat.reduceLeDiff,Nat.reduceAdd,Nat.reduceMul]
  refine PFn.dcall (add_fn true true lx ly (by omega) (by omega)) ?_
  rw[vx,vy]
  simp(disch:=first|exact Xe|fail)only[↓Xa,Xb,Xc,↓reduceIte,Nat.reduceLT,Nat.reduceEqDiff,Nat.reduceBEq,Nat.reduceLeDiff,Nat.reduceAdd,Nat.reduceMul]
  have hb:Bd (max k k'+1) (sg (decide (x<0)) (x.natAbs+y.natAbs)):=Bd.sgn (by unfold Bd at hxm hym;rw[Nat.pow_succ];omega)
  have hb':=hb.len
  rw[sg_abs]at hb'
  refine(made_fn _ _ (by omega)).call ?_
  simp(disch:=first|exact Xe|fail)only[rs13,IntA,↓Xa,Xb,Xc,↓reduceIte,Nat.reduceLT,Nat.reduceEqDiff,Nat.reduceBEq,Nat.reduceLeDiff,Nat.reduceAdd,Nat.reduceMul]
  have e:x+y=sg (decide (x<0)) (x.natAbs+y.natAbs):=by
   have:=decide_eq_decide.1 hs
   unfold sg;by_cases h:x<0<;>simp[h]<;>omega
  rw[e]at hq
  exact SetR.dropTo ((((Le.refl H).upd hp).upd hp2).upd hp3) (SetR.now hq)
 ·have hsb:(decide (x<0)==decide (y<0))=false:=by simpa using hs
  have hs': ¬((x<0)↔(y<0)):=fun h=>hs (decide_eq_decide.2 h)
  simp(disch:=first|exact Xe|fail)only[hsb,↓Xa,Xb,Xc,↓reduceIte,Nat.reduceLT,Nat.reduceEqDiff,Nat.reduceBEq,Nat.reduceLeDiff,Nat.reduceAdd,Nat.reduceMul]
  refine(cmp_fn true true lx ly).call ?_
  rw[vx,vy]
  by_cases hc:x.natAbs<y.natAbs
  ·have c3: ∀K,binW .lss (.int .i64 (cmpZ x.natAbs y.natAbs)) (.int .i64 ((0:Nat):Int)) K↔K (.bool true):=fun K=>by
    simp[binW,binInt,cmpZ,hc]
   simp(disch:=first|exact Xe|fail)only[c3,↓Xa,Xb,Xc,↓reduceIte,Nat.reduceLT,Nat.reduceEqDiff,Nat.reduceBEq,Nat.reduceLeDiff,Nat.reduceAdd,Nat.reduceMul]
   refine(sub_fn true true ly lx (by rw[vx,vy];omega) (by omega) (by omega)).call ?_
   rw[vx,vy]
   simp(disch:=first|exact Xe|fail)only[↓Xa,Xb,Xc,↓reduceIte,Nat.reduceLT,Nat.reduceEqDiff,Nat.reduceBEq,Nat.reduceLeDiff,Nat.reduceAdd,Nat.reduceMul]
   have hb:Bd k' (sg (decide (y<0)) (y.natAbs-x.natAbs)):=Bd.sgn (by unfold Bd at hy;omega)
   have hb':=hb.len
   rw[sg_abs]at hb'
   refine(made_fn _ _ (by omega)).call ?_
   simp(disch:=first|exact Xe|fail)only[rs13,IntA,↓Xa,Xb,Xc,↓reduceIte,Nat.reduceLT,Nat.reduceEqDiff,Nat.reduceBEq,Nat.reduceLeDiff,Nat.reduceAdd,Nat.reduceMul]
   have e:x+y=sg (decide (y<0)) (y.natAbs-x.natAbs):=by
    unfold sg;by_cases h:y<0<;>simp[h]<;>omega
   rw[e]at hq
   exact SetR.dropTo ((((Le.refl H).updB hp).updB (upd_none.1 hp2).2).updB (upd_none.1 (upd_none.1 hp3).2).2) (SetR.now hq)
  ·have c3: ∀K,binW .lss (.int .i64 (cmpZ x.natAbs y.natAbs)) (.int .i64 ((0:Nat):Int)) K↔K (.bool false):=fun K=>by
    have: ¬(cmpZ x.natAbs y.natAbs<0):=by unfold cmpZ;rw[if_neg hc];split<;>omega
    simp[binW,binInt];rw[decide_eq_false this]
   simp(disch:=first|exact Xe|fail)only[c3,↓Xa,Xb,Xc,↓reduceIte,Nat.reduceLT,Nat.reduceEqDiff,Nat.reduceBEq,Nat.reduceLeDiff,Nat.reduceAdd,Nat.reduceMul]
   refine(sub_fn true true lx ly (by rw[vx,vy];omega) (by omega) (by omega)).call ?_
   rw[vx,vy]
   simp(disch:=first|exact Xe|fail)only[↓Xa,Xb,Xc,↓reduceIte,Nat.reduceLT,Nat.reduceEqDiff,Nat.reduceBEq,Nat.reduceLeDiff,Nat.reduceAdd,Nat.reduceMul]
   have hb:Bd k (sg (decide (x<0)) (x.natAbs-y.natAbs)):=Bd.sgn (by unfold Bd at hx;omega)
   have hb':=hb.len
   rw[sg_abs]at hb'
   refine(made_fn _ _ (by omega)).call ?_
   simp(disch:=first|exact Xe|fail)only[rs13,IntA,↓Xa,Xb,Xc,↓reduceIte,Nat.reduceLT,Nat.reduceEqDiff,Nat.reduceBEq,Nat.reduceLeDiff,Nat.reduceAdd,Nat.reduceMul]
   have e:x+y=sg (decide (x<0)) (x.natAbs-y.natAbs):=by
    unfold sg;by_cases h:x<0<;>simp[h]<;>omega
   rw[e]at hq
   exact SetR.dropTo ((((Le.refl H).upd hp).upd hp2).upd hp3) (SetR.now hq)
theorem subi_fn{x y:Int}{k k':Nat}(hx:Bd k x)(hk:k≤549755813888)(hy:Bd k' y)(hk':k'≤549755813888):PFn Tryd.prog 97 [IntA x,IntA y] (IntA (x-y)):=by
 intro H Q hq
 refine enter97 (by simp) ?_
 simp(disch:=first|exact Xe|fail)only[ac97,IntA,↓Xa,Xb,Xc,↓reduceIte,Nat.reduceLT,Nat.reduceEqDiff,Nat.reduceBEq,Nat.reduceLeDiff,Nat.reduceAdd,Nat.reduceMul]
 refine alloc_i fun p hp=>?_
 simp(disch:=first|exact Xe|fail)only[↓Xa,Xb,Xc,↓reduceIte,Nat.reduceLT,Nat.reduceEqDiff,Nat.reduceBEq,Nat.reduceLeDiff,Nat.reduceAdd,Nat.reduceMul]
 refine alloc_i fun p2 hp2=>?_
 simp(disch:=first|exact Xe|fail)only[↓Xa,Xb,Xc,↓reduceIte,Nat.reduceLT,Nat.reduceEqDiff,Nat.reduceBEq,Nat.reduceLeDiff,Nat.reduceAdd,Nat.reduceMul]
 refine alloc_i fun p3 hp3=>?_
 have hne:=(upd_none.1 hp2).1
 have hne3:=(upd_none.1 hp3).1
 have hne4:=(upd_none.1 (upd_none.1 hp3).2).1
 simp(disch:=first|exact Xe|fail)only[↓Xa,Xb,Xc,↓reduceIte,Nat.reduceLT,Nat.reduceEqDiff,Nat.reduceBEq,Nat.reduceLeDiff,Nat.reduceAdd,Nat.reduceMul]
 refine PFn.dcall (neg_fn hy hk') ?_
 simp(disch:=first|exact Xe|fail)only[↓Xa,Xb,Xc,↓reduceIte,Nat.reduceLT,Nat.reduceEqDiff,Nat.reduceBEq,Nat.reduceLeDiff,Nat.reduceAdd,Nat.reduceMul]
 refine(addi_fn hx hk hy.neg hk').call ?_
 simp(disch:=first|exact Xe|fail)only[rs97,IntA,↓Xa,Xb,Xc,↓reduceIte,Nat.reduceLT,Nat.reduceEqDiff,Nat.reduceBEq,Nat.reduceLeDiff,Nat.reduceAdd,Nat.reduceMul]
 exact SetR.dropTo ((((Le.refl H).upd hp).upd hp2).upd hp3) (SetR.now hq)
theorem muli_fn{x y:Int}{k k':Nat}(hx:Bd k x)(hk:k≤549755813888)(hy:Bd k' y)(hk':k'≤549755813888):PFn Tryd.prog 39 [IntA x,IntA y] (IntA (x*y)):=by
 intro H Q hq
 have hl:=hx.len
 have hl':=hy.len
 have vx:=val_digs (B:=4294967296) (by omega) x.natAbs
 have vy:=val_digs (B:=4294967296) (by omega) y.natAbs
 have lx:=lim_digs (B:=4294967296) (by omega) x.natAbs
 have ly:=lim_digs (B:=4294967296) (by omega) y.natAbs
 have hb:=(hx.mul hy).len
 refine enter39 (by simp) ?_
 simp(disch:=first|exact Xe|fail)only[ac39,IntA,↓Xa,Xb,Xc,↓reduceIte,Nat.reduceLT,Nat.reduceEqDiff,Nat.reduceBEq,Nat.reduceLeDiff,Nat.reduceAdd,Nat.reduceMul]
 refine alloc_i fun p hp=>?_
 simp(disch:=first|exact Xe|fail)only[↓Xa,Xb,Xc,↓reduceIte,Nat.reduceLT,Nat.reduceEqDiff,Nat.reduceBEq,Nat.reduceLeDiff,Nat.reduceAdd,Nat.reduceMul]
 refine alloc_i fun p2 hp2=>?_
 simp(disch:=first|exact Xe|fail)only[↓Xa,Xb,Xc,↓reduceIte,Nat.reduceLT,Nat.reduceEqDiff,Nat.reduceBEq,Nat.reduceLeDiff,Nat.reduceAdd,Nat.reduceMul]
 refine alloc_i fun p3 hp3=>?_
 have hne:=(upd_none.1 hp2).1
 have hne3:=(upd_none.1 hp3).1
 have hne4:=(upd_none.1 (upd_none.1 hp3).2).1
 simp(disch:=first|exact Xe|fail)only[↓Xa,Xb,Xc,↓reduceIte,Nat.reduceLT,Nat.reduceEqDiff,Nat.reduceBEq,Nat.reduceLeDiff,Nat.reduceAdd,Nat.reduceMul]
 refine PFn.dcall (mul_fn true true lx ly (by omega) (by omega)) ?_
 rw[vx,vy]
 simp(disch:=first|exact Xe|fail)only[↓Xa,Xb,Xc,↓reduceIte,Nat.reduceLT,Nat.reduceEqDiff,Nat.reduceBEq,Nat.reduceLeDiff,Nat.reduceAdd,Nat.reduceMul]
 rw[Int.natAbs_mul]at hb
 refine(made_fn _ _ (by omega)).call ?_
 have e:sg (!(decide (x<0)==decide (y<0))) (x.natAbs*y.natAbs)=x*y:=by
  rw[← Int.natAbs_mul]
  unfold sg
  by_cases h:x<0<;>by_cases h':y<0<;>simp[h,h']
  ·rw[abs_nn (Int.mul_nonneg_of_nonpos_of_nonpos (by omega) (by omega))]
  ·rw[abs_np (Int.mul_nonpos_of_nonpos_of_nonneg (by omega) (by omega))]
  ·rw[abs_np (Int.mul_nonpos_of_nonneg_of_nonpos (by omega) (by omega))]
  ·rw[abs_nn (Int.mul_nonneg (by omega) (by omega))]
 rw[e]
 simp(disch:=first|exact Xe|fail)only[rs39,IntA,↓Xa,Xb,Xc,↓reduceIte,Nat.reduceLT,Nat.reduceEqDiff,Nat.reduceBEq,Nat.reduceLeDiff,Nat.reduceAdd,Nat.reduceMul]
 exact SetR.dropTo ((((Le.refl H).upd hp).upd hp2).upd hp3) (SetR.now hq)
theorem timesi_fn{x n:Int}{k:Nat}(hx:Bd k x)(hk:k≤549755813888)(hn: -9223372036854775808≤n∧n<9223372036854775808):PFn Tryd.prog 99 [IntA x,.int .i64 n] (IntA (x*n)):=by
 intro H Q hq
 refine enter99 (by simp) ?_
 simp(disch:=first|exact Xe|fail)only[ac99,IntA,↓Xa,Xb,Xc,↓reduceIte,Nat.reduceLT,Nat.reduceEqDiff,Nat.reduceBEq,Nat.reduceLeDiff,Nat.reduceAdd,Nat.reduceMul]
 refine alloc_i fun p hp=>?_
 simp(disch:=first|exact Xe|fail)only[↓Xa,Xb,Xc,↓reduceIte,Nat.reduceLT,Nat.reduceEqDiff,Nat.reduceBEq,Nat.reduceLeDiff,Nat.reduceAdd,Nat.reduceMul]
 refine alloc_i fun p2 hp2=>?_
 have hne:=(upd_none.1 hp2).1
 simp(disch:=first|exact Xe|fail)only[↓Xa,Xb,Xc,↓reduceIte,Nat.reduceLT,Nat.reduceEqDiff,Nat.reduceBEq,Nat.reduceLeDiff,Nat.reduceAdd,Nat.reduceMul]
 refine PFn.dcall (of_fn hn) ?_
 simp(disch:=first|exact Xe|fail)only[↓Xa,Xb,Xc,↓reduceIte,Nat.reduceLT,Nat.reduceEqDiff,Nat.reduceBEq,Nat.reduceLeDiff,Nat.reduceAdd,Nat.reduceMul]
 refine(muli_fn hx hk (Bd.i64 hn) (by omega)).call ?_
 simp(disch:=first|exact Xe|fail)only[rs99,IntA,↓Xa,Xb,Xc,↓reduceIte,Nat.reduceLT,Nat.reduceEqDiff,Nat.reduceBEq,Nat.reduceLeDiff,Nat.reduceAdd,Nat.reduceMul]
 exact SetR.dropTo (((Le.refl H).upd hp).upd hp2) (SetR.now hq)
theorem lss_neg{n:Int}{K:AV→Prop}:binW .lss (.int .i64 n) (.int .i64 ((0:Nat):Int)) K↔K (.bool (decide (n<0))):=by
 simp only[binW,binInt,true_and];exact Iff.rfl
section
variable {l:List Int} {t:Bool} {H:AHeap} {K:AV→Prop}
end
theorem sgn_eql0{x:Int}{K:AV→Prop}:binW .eql (.int .i64 (sgnI x)) (.int .i64 ((0:Nat):Int)) K↔K (.bool (decide (x=0))):=by
 have:(sgnI x=((0:Nat):Int))↔x=0:=by unfold sgnI;split<;>simp_all;split<;>omega
 simp only[binW,binInt,true_and,this]
theorem sgn_neq0{x:Int}{K:AV→Prop}:binW .neq (.int .i64 (sgnI x)) (.int .i64 ((0:Nat):Int)) K↔K (.bool (!decide (x=0))):=by
 have:(sgnI x=((0:Nat):Int))↔x=0:=by unfold sgnI;split<;>simp_all;split<;>omega
 simp only[binW,binInt,true_and,this]
theorem Bd.blen{z:Int}{k:Nat}(h:Bd k z):Ma.blen z.natAbs≤32*k:=by rw[blen_le,Nat.pow_mul];exact h
end Go.Proofs.YtmndejlpfmmaiaaDoor.Fw
