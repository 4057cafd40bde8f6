/- The texts Pl Ac Li Lj Lb Lk Ll Lm, joined. -/
import Derived.Test.YtmndejlpfmmaiaaGreatDoorZ3
import Derived.Test.YtmndejlpfmmaiaaGreatDoorProg
set_option linter.unusedSimpArgs false
set_option linter.unusedVariables false
namespace Go.Proofs.YtmndejlpfmmaiaaGreatDoor.Fw
open Go
abbrev Jn(n:Nat):AV:=.int .i64 (n:Int)
abbrev Jk(n:Nat):Opd:=.k (.int .i64 (n:Int))
abbrev Jo(d:Nat)(x:AOp):AOper:=⟨some d,none,x⟩
abbrev Jm(d a:Nat):AOper:=⟨some d,none,.mov (.t a)⟩
abbrev Jl(d a:Nat):AOper:=⟨some d,none,.load none (.t a)⟩
abbrev Ji(d e a b:Nat):AOper:=⟨some d,none,.idxA e (.t a) (.t b)⟩
abbrev Jf(d o a:Nat):AOper:=⟨some d,none,.fldA o (.t a)⟩
abbrev Je(d a i:Nat):AOper:=⟨some d,none,.ext (.t a) i⟩
abbrev Jb(d:Nat)(o:BinOp)(a b:Nat):AOper:=⟨some d,none,.bin o (.t a) (.t b)⟩
abbrev Jv(d a:Nat):AOper:=⟨some d,none,.len false (.t a)⟩
abbrev Jc(f:Nat)(l:List Opd):AOp:=.call (.k (.fn (.func f) [] [])) l
abbrev Js(l:List AOper)(k:List Nat)(c:ACode):ACode:=.seq (.reg l k) c
abbrev Jq(x y:ACode)(c:ACode):ACode:=.seq (.seq x y) c
def pl7:Plan:=⟨fun n=>([[1,2],[1,2,19],[4],[1,2,22],[4],[2,5],[2,5,6,7,8],[2,5,6,7,8,37],[4],[2,5,6,7,8,9],[2,5,6,7,8,9,48,49],[2,5,6,7,8,9,48,49,50],[2,5,6,7,8,9,10,48,49],[2,5,6,7,8,9,10,11,48,49],[2,5,6,7,8,9,10,11,48,49,52,53,54],[2,5,6,7,8,9,10,11,48,49,52,53,54,55],[2,5,6,7,8,9,10,11,13,48,49,52,53,54],[2,5,6,7,8,9,10,11,48,49,52,53,54],[2,5,6,7,8,9,10,11,48,49,52,53,54],[2,5,6,7,8,9,10,14,15,16,48,49],[2,5,6,7,8,9,10,14,15,16,48,49,74],[2,5,6,7,8,9,15,48,49,81],[2,5,6,7,8,9,48,49],[2,5,6,7,8,9,10,14,48,49,84],[4],[2,5,6,7,8,9,10,14,48,49,86,87],[2,5,6,7,8,9,10,14,48,49,86,87,88],[2,5,6,7,8,9,10,14,17,48,49,86,87],[2,5,6,7,8,9,10,14,48,49,86,87,106],[4],[2,5,6,7,8,9,10,14,48,49,86,87],[2,5,6,7,8,9,48,49],[2,6,7,9,110],[4],[4]]:List (List Nat)).getD n [],fun n=>match n with|28=>(14,[0,0,0,0,8,0,0,120,0,0,1016,2040,1016,1016],[0,1,3,7,7,31,63,7,255,511,7,7,3079,7175,16383,32767,65535])|_=>(0,[],[])⟩
def pl17:Plan:=⟨fun n=>([[1,2],[1,2,7],[1,2,7,18],[4,5,6],[1,2,8],[2,8],[2,8,9],[2,8,9,31],[4,5,6],[2,8,10],[8,10,34,35,36],[8,10,34,35,36,37],[8,10,12,34,35,36],[8,10,34,35,36],[8,10,34,35,36],[4,5,6]]:List (List Nat)).getD n [],fun n=>match n with|6=>(3,[0,1,3],[0,0,0,7,15])|_=>(0,[],[])⟩
def pl23:Plan:=⟨fun n=>([[],[1,2,3],[1,2,3,5,6],[1,2,3,5,6,7,8],[0]]:List (List Nat)).getD n [],fun n=>match n with|_=>(0,[],[])⟩
def pl24:Plan:=⟨fun n=>([[1,2],[1,2,5],[2,5,8,9,10],[2,5,8,9,10,11],[2,5,7,8,9,10],[2,5,8,9,10],[2,5,8,9,10],[4]]:List (List Nat)).getD n [],fun n=>match n with|_=>(0,[],[])⟩
def pl25:Plan:=⟨fun n=>([[0],[0,3],[3,9,10,11],[3,9,10,11,12],[3,5,9,10,11],[3,5,6,9,10,11],[3,6,9,10,11,19,20,21],[3,6,9,10,11,19,20,21,22],[3,6,8,9,10,11,19,20,21],[3,6,9,10,11,19,20,21],[3,6,9,10,11,19,20,21],[3,9,10,11],[3,9,10,11],[2]]:List (List Nat)).getD n [],fun n=>match n with|_=>(0,[],[])⟩
def pl26:Plan:=⟨fun n=>([[1,2],[7,8],[7,8,17],[4,5,6],[7,20],[7,20,21],[4,5,6],[7,27],[7,8,9],[4,5,6]]:List (List Nat)).getD n [],fun n=>match n with|6=>(5,[0,0,0,0,15],[0,1,3,7,0,31,63])|9=>(8,[0,1,1,1,1,31,62,32],[0,0,2,6,14,0,1,95,255])|_=>(0,[],[])⟩
def pl29:Plan:=⟨fun n=>([[0],[0,3],[3,9,10,11],[3,9,10,11,12],[3,5,9,10,11],[3,5,6,9,10,11],[3,6,9,10,11,15,16,17],[3,6,9,10,11,15,16,17,18],[3,6,8,9,10,11,15,16,17],[3,6,9,10,11,15,16,17],[3,6,9,10,11,15,16,17],[3,9,10,11],[3,9,10,11],[2]]:List (List Nat)).getD n [],fun n=>match n with|_=>(0,[],[])⟩
def pl30:Plan:=⟨fun n=>([[0,1],[4]]:List (List Nat)).getD n [],fun n=>match n with|_=>(0,[],[])⟩
def pl31:Plan:=⟨fun n=>([[0,2],[0,2,3],[0,2,3,7],[0,2,3],[2]]:List (List Nat)).getD n [],fun n=>match n with|_=>(0,[],[])⟩
def pl32:Plan:=⟨fun n=>([[1,2],[1,2,7],[1,2,7,18],[4,5],[1,2,24],[4,5],[1,2,8],[1,2,8,9],[2,8,9,33,34,35],[2,8,9,33,34,35,36],[2,8,9,11,33,34,35],[2,8,9,11,33,34,35,46],[4,5],[2,8,9,33,34,35],[2,8,9,33,34,35],[2,8,9,66],[2,8,9],[4,5]]:List (List Nat)).getD n [],fun n=>match n with|13=>(9,[0,1,1,1,1,31,31,31,1],[0,0,2,6,14,0,32,96,254,511,1023,2047])|15=>(7,[0,0,0,0,0,31,31],[0,1,3,7,15,0,32,127])|16=>(9,[0,1,1,1,1,31,31,31,1],[0,0,2,6,14,0,32,96,254,511,1023,2047])|_=>(0,[],[])⟩
def pl33:Plan:=⟨fun n=>([[0],[0,11],[2],[0,14],[2],[0,3],[0,3,4],[0,3,4,5,6],[0,3,4,5,6,7],[0,3,4,5,6,7,59,60],[0,3,4,5,6,7,59,60,61],[0,3,4,5,6,7,8,59,60],[0,3,4,5,6,7,8,9,10,59,60],[0,3,4,5,6,7,8,9,59,60,77],[2],[0,3,4,5,6,7,59,60],[0,3,4,5,6,7,59,60],[0],[],[2]]:List (List Nat)).getD n [],fun n=>match n with|3=>(10,[0,0,0,0,15,15,15,15,15,15],[0,1,3,7,0,16,48,112,240,496,1023,2047])|5=>(12,[0,0,0,0,0,31,31,31,31,0,0,2047],[0,1,3,7,15,0,32,96,224,511,1023,0,4095])|7=>(17,[0,0,0,0,15,15,0,0,255,255,255,255,4095,4095,255,255,65280],[0,1,3,7,0,16,63,127,0,256,768,1792,0,4096,16128,32512,255,131071])|12=>(15,[0,1,3,1,1,31,63,31,31,0,0,0,2048,8191,4096],[0,0,0,6,14,0,0,96,224,511,1023,2047,2047,0,12287,32767])|17=>(7,[0,0,0,0,15,15,63],[0,1,3,7,0,16,0,127,255])|_=>(0,[],[])⟩
def pl34:Plan:=⟨fun n=>([[0],[0,7],[2,3],[0,10],[2,3],[0,4],[0,4,18,19,20],[0,4,18,19,20,21],[0,4,6,18,19,20],[0,4,18,19,20],[0,4,18,19,20],[2,3]]:List (List Nat)).getD n [],fun n=>match n with|_=>(0,[],[])⟩
def pl35:Plan:=⟨fun n=>([[0],[0,4],[2],[2]]:List (List Nat)).getD n [],fun n=>match n with|_=>(0,[],[])⟩
def pl36:Plan:=⟨fun n=>([[0],[2]]:List (List Nat)).getD n [],fun n=>match n with|1=>(13,[0,0,0,0,0,0,0,120,120,120,120,120,120],[0,1,3,7,15,31,63,7,135,391,903,1927,3975,8191,16383,32767])|_=>(0,[],[])⟩
def pl42:Plan:=⟨fun n=>([[0,1],[4]]:List (List Nat)).getD n [],fun n=>match n with|_=>(0,[],[])⟩
def pl46:Plan:=⟨fun n=>([[2,3],[2,3,5],[4],[2,3,17],[4],[2,3,20],[4],[4]]:List (List Nat)).getD n [],fun n=>match n with|_=>(0,[],[])⟩
def pl52:Plan:=⟨fun n=>([[1],[1,3],[2],[8],[2],[2]]:List (List Nat)).getD n [],fun n=>match n with|_=>(0,[],[])⟩
def pl67:Plan:=⟨fun n=>([[1,2],[1,2,3],[1,2,3,6],[1,2,3],[2,3,12],[3,4],[],[2]]:List (List Nat)).getD n [],fun n=>match n with|_=>(0,[],[])⟩
def pl68:Plan:=⟨fun n=>([[1],[1,3],[1,3,4],[1,3,4,13],[1,3,5,6],[1,3,5,6,7],[1,3,5,6,7,22],[1,3,5,7],[1,3,5],[1,3,4],[1,3,35],[2],[3,37],[3],[3,8],[3,8,45],[3,8],[3,8],[2]]:List (List Nat)).getD n [],fun n=>match n with|17=>(22,[0,1,3,7,7,7,63,7,255,511,511,511,4095,511,255,255,65535,131071,65535,65535,252,252],[0,0,0,0,8,24,0,120,0,0,512,1536,0,7680,16128,32512,0,0,196608,458752,1048323,2096899,4194303,8388607])|_=>(0,[],[])⟩
def pl82:Plan:=⟨fun n=>([[0,2],[0,2,3],[0,2,3,8],[0,2,3],[0,2,3,4],[0,2,3,4,12],[0,2,3,4],[0,2,3,4],[2]]:List (List Nat)).getD n [],fun n=>match n with|_=>(0,[],[])⟩
def pl83:Plan:=⟨fun n=>([[1,2],[1,2,6],[1,2,6,12],[4],[16],[4],[4]]:List (List Nat)).getD n [],fun n=>match n with|_=>(0,[],[])⟩
def pl84:Plan:=⟨fun n=>([[2,3,4,5],[2,3,4,14,15,16],[2,3,4,14,15,16,17],[2,3,4,9,10,14,15,16],[2,3,4,9,10,11,12,14,15,16],[2,3,4,9,10,11,14,15,16,29],[8],[2,3,4,9,11,14,15,16],[2,3,4,14,15,16,40],[2,3,4,14,15,16],[8]]:List (List Nat)).getD n [],fun n=>match n with|_=>(0,[],[])⟩
def pl85:Plan:=⟨fun n=>([[0],[0]]:List (List Nat)).getD n [],fun n=>match n with|_=>(0,[],[])⟩
def pl86:Plan:=⟨fun n=>([[],[4]]:List (List Nat)).getD n [],fun n=>match n with|_=>(0,[],[])⟩
def pl94:Plan:=⟨fun n=>([[0],[0]]:List (List Nat)).getD n [],fun n=>match n with|_=>(0,[],[])⟩
def pl97:Plan:=⟨fun n=>([[0,1,2],[0,1,2,14],[6],[1,2,15,16,17],[1,2,15,16,17,18],[1,2,7,8,15,16,17],[1,2,8,9,15,16,17],[1,2,15,16,17,30],[6],[1,2,15,16,17],[6]]:List (List Nat)).getD n [],fun n=>match n with|_=>(0,[],[])⟩
def pl98:Plan:=⟨fun n=>([[0,1,4],[4]]:List (List Nat)).getD n [],fun n=>match n with|_=>(0,[],[])⟩
def pl99:Plan:=⟨fun n=>([[1],[1,40],[2,3],[1,42,43,44],[1,42,43,44,45],[1,5,42,43,44],[1,42,43,44,55],[2,3],[1,42,43,44],[1,58,59,60],[1,58,59,60,61],[1,6,7,58,59,60],[1,6,58,59,60,69],[2,3],[1,58,59,60],[2,3]]:List (List Nat)).getD n [],fun n=>match n with|_=>(0,[],[])⟩
def pl100:Plan:=⟨fun n=>([[1,2],[1,2],[2]]:List (List Nat)).getD n [],fun n=>match n with|1=>(7,[0,0,0,7,7,0,32],[0,1,3,0,8,31,31,127,255,511])|_=>(0,[],[])⟩
def pl101:Plan:=⟨fun n=>([[0],[0,4],[2],[2]]:List (List Nat)).getD n [],fun n=>match n with|_=>(0,[],[])⟩
def pl102:Plan:=⟨fun n=>([[1],[1,3],[1,3,5],[1,3,5,6],[2],[1,3,5,10],[2],[1,3,5,14],[2],[1,3,5,18],[2],[1,3,5,23],[2],[1,3,5,26],[2],[1,3,31],[2],[2]]:List (List Nat)).getD n [],fun n=>match n with|_=>(0,[],[])⟩
def pl105:Plan:=⟨fun n=>([[0,1,2],[0,1,2,14],[6],[1,2,15,16,17],[1,2,15,16,17,18],[1,2,7,8,15,16,17],[1,2,8,9,15,16,17],[1,2,15,16,17,30],[6],[1,2,15,16,17],[6]]:List (List Nat)).getD n [],fun n=>match n with|_=>(0,[],[])⟩
def pl106:Plan:=⟨fun n=>([[2,3],[4]]:List (List Nat)).getD n [],fun n=>match n with|1=>(3,[0,0,3],[0,1,0,7,15,31])|_=>(0,[],[])⟩
def pl108:Plan:=⟨fun n=>([[0,1],[0,1],[0,1,10],[4],[0,1,16],[4],[0,1,5],[0,1,5,26],[0,1,5],[0,1,5,29],[4],[0,1,5,39],[4],[4]]:List (List Nat)).getD n [],fun n=>match n with|9=>(8,[0,1,0,0,15,31,15,15],[0,0,3,7,0,0,48,112,255,511])|11=>(8,[0,1,0,0,15,31,15,15],[0,0,3,7,0,0,48,112,255,511])|_=>(0,[],[])⟩
def pl121:Plan:=⟨fun n=>([[2,3,4],[4]]:List (List Nat)).getD n [],fun n=>match n with|1=>(10,[0,0,3,3,0,31,31,127,127,31],[0,1,0,4,15,0,32,0,128,480,1023,2047])|_=>(0,[],[])⟩
def pl133:Plan:=⟨fun n=>([[0],[3],[2]]:List (List Nat)).getD n [],fun n=>match n with|_=>(0,[],[])⟩
def pl134:Plan:=⟨fun n=>([[0,1],[0,1,16],[0,1,6],[0,1,6,7],[0,1,6,7,8],[0,1,6,7,8,24],[0,1,6,7,8],[0,1,6,7,8],[0,1,6,7,8],[0,1,6,7,8],[4,5],[0,1,9],[0,1,9,10],[0,1,9,10,11],[0,1,9,10,11,66],[0,1,9,10,11],[0,1,9,10,11,12],[0,1,9,10,11,12,13],[0,1,9,10,11,12,13,75],[0,1,9,10,11,12,13],[0,1,9,10,11,12,13],[0,1,9,10,11,12,13],[0,1,9,10,11,12,13],[0,1,9,10,11,12,93],[0,1,9,10,11],[0,1,9,10,11,101],[0,1,9,10,11],[0,1,9,10,11],[4,5]]:List (List Nat)).getD n [],fun n=>match n with|27=>(12,[0,1,1,7,15,15,7,7,255,255,255,7],[0,0,2,0,0,16,56,120,0,256,768,2040,4095,8191])|_=>(0,[],[])⟩
def pl138:Plan:=⟨fun n=>([[2,3,4],[2,3,4,11],[4],[2,3,4,25],[2,3,4],[2,4,5],[4]]:List (List Nat)).getD n [],fun n=>match n with|2=>(7,[0,0,3,3,15,15,3],[0,1,0,4,0,16,60,127,255])|_=>(0,[],[])⟩
def pl147:Plan:=⟨fun n=>([[0,1,4],[0,1,4,5],[0,1,4,5,17],[0,1,4,5],[4]]:List (List Nat)).getD n [],fun n=>match n with|_=>(0,[],[])⟩
def pl148:Plan:=⟨fun n=>([[1,3,5,6],[3,5,6,8,9],[3,5,6,8,9,21],[3,5,6,8,9,21,22],[6,7],[3,5,6,8,9,21,28],[6,7],[3,5,6,8,9,21,35],[6,7],[3,5,6,8,21,42],[6,7],[3,5,6,8,21,51],[6,7],[3,5,6,8,21,60],[6,7],[3,5,6,8,71],[6,7],[6,7]]:List (List Nat)).getD n [],fun n=>match n with|1=>(13,[0,1,1,0,0,31,63,63,31,31,1023,2047,992],[0,0,2,7,15,0,0,64,224,480,0,0,3103,8191])|10=>(6,[0,0,3,7,7,7],[0,1,0,0,8,24,63,127,255])|12=>(6,[0,0,3,7,7,7],[0,1,0,0,8,24,63,127,255])|14=>(9,[0,0,3,7,7,7,0,0,128],[0,1,0,0,8,24,63,127,127,511,1023])|16=>(9,[0,0,3,7,7,7,0,0,128],[0,1,0,0,8,24,63,127,127,511,1023])|_=>(0,[],[])⟩
def pl149:Plan:=⟨fun n=>([[1,2],[2]]:List (List Nat)).getD n [],fun n=>match n with|_=>(0,[],[])⟩
def pl150:Plan:=⟨fun n=>([[2,3,4],[4]]:List (List Nat)).getD n [],fun n=>match n with|1=>(3,[0,1,1],[0,0,2,7,15])|_=>(0,[],[])⟩
def pl151:Plan:=⟨fun n=>([[2,3,4],[4,6,7],[4,5]]:List (List Nat)).getD n [],fun n=>match n with|2=>(5,[0,1,1,1,8],[0,0,2,6,7,31])|_=>(0,[],[])⟩
def pl152:Plan:=⟨fun n=>([[2,3,4,5],[2,3,4,5,7,8,9],[2,3,4,5,7,8,22],[4,5,6],[3,4,5,10,11],[3,4,5,10,11,37],[3,4,5,10,11],[4,5,10,11],[4,5,6]]:List (List Nat)).getD n [],fun n=>match n with|4=>(13,[0,0,3,3,0,31,0,127,127,511,0,2047,4095],[0,1,0,4,15,0,63,0,128,0,1023,0,0,8191,16383])|6=>(3,[0,1,1],[0,0,2,7,15])|7=>(4,[0,1,1,1],[0,0,2,6,15,31])|8=>(3,[0,1,2],[0,0,1,7,15])|_=>(0,[],[])⟩
def pl161:Plan:=⟨fun n=>([[0,1,4],[4]]:List (List Nat)).getD n [],fun n=>match n with|_=>(0,[],[])⟩
def pl162:Plan:=⟨fun n=>([[0],[0],[0,3],[3],[2]]:List (List Nat)).getD n [],fun n=>match n with|_=>(0,[],[])⟩
def pl163:Plan:=⟨fun n=>([[1,2],[1,2,41],[4],[1,43,44,45],[1,43,44,45,46],[1,6,43,44,45],[1,43,44,45,55],[4],[1,43,44,45],[4]]:List (List Nat)).getD n [],fun n=>match n with|_=>(0,[],[])⟩
def pl164:Plan:=⟨fun n=>([[0],[0,4],[2],[2]]:List (List Nat)).getD n [],fun n=>match n with|_=>(0,[],[])⟩
def pl165:Plan:=⟨fun n=>([[0],[0,4],[2],[2]]:List (List Nat)).getD n [],fun n=>match n with|_=>(0,[],[])⟩
def pl166:Plan:=⟨fun n=>([[1],[2]]:List (List Nat)).getD n [],fun n=>match n with|_=>(0,[],[])⟩
def pl167:Plan:=⟨fun n=>([[2,3,4,5],[5,6]]:List (List Nat)).getD n [],fun n=>match n with|_=>(0,[],[])⟩
def pl168:Plan:=⟨fun n=>([[2,4],[4]]:List (List Nat)).getD n [],fun n=>match n with|_=>(0,[],[])⟩
def pl169:Plan:=⟨fun n=>([[2,3,5],[5]]:List (List Nat)).getD n [],fun n=>match n with|_=>(0,[],[])⟩
def pl170:Plan:=⟨fun n=>([[1,2,4],[4]]:List (List Nat)).getD n [],fun n=>match n with|1=>(3,[0,1,1],[0,0,2,7,15])|_=>(0,[],[])⟩
def pl171:Plan:=⟨fun n=>([[2,3,5],[5,7,8],[5,6]]:List (List Nat)).getD n [],fun n=>match n with|_=>(0,[],[])⟩
def pl172:Plan:=⟨fun n=>([[1,2,4],[2,4,6],[2,4,6,7,8,9],[2,4,6,7,8,21],[4,5],[2,4,6,7,25],[4,5],[4,5]]:List (List Nat)).getD n [],fun n=>match n with|_=>(0,[],[])⟩
def pl173:Plan:=⟨fun n=>([[2,3,5],[5,6],[5]]:List (List Nat)).getD n [],fun n=>match n with|_=>(0,[],[])⟩
def pl174:Plan:=⟨fun n=>([[1,2,4],[2,4,6,7],[2,4,6,7,16],[4,5],[4,5]]:List (List Nat)).getD n [],fun n=>match n with|_=>(0,[],[])⟩
def pl175:Plan:=⟨fun n=>([[2,3,5],[5,7,8],[5,6]]:List (List Nat)).getD n [],fun n=>match n with|_=>(0,[],[])⟩
def pl176:Plan:=⟨fun n=>([[1,2,4],[1,2,4,8],[4,5],[1,2,4,12],[4,5],[1,2,4,17],[4,5],[2,4,6],[4,5]]:List (List Nat)).getD n [],fun n=>match n with|_=>(0,[],[])⟩
def pl177:Plan:=⟨fun n=>([[2,4],[4]]:List (List Nat)).getD n [],fun n=>match n with|_=>(0,[],[])⟩
def pl178:Plan:=⟨fun n=>([[0],[0,3],[0,3,15],[0,3],[2]]:List (List Nat)).getD n [],fun n=>match n with|_=>(0,[],[])⟩
def pl188:Plan:=⟨fun n=>([[1,2],[2]]:List (List Nat)).getD n [],fun n=>match n with|_=>(0,[],[])⟩
def pl191:Plan:=⟨fun n=>([[0,1],[0,1,10],[15],[4],[4],[0,1,5],[0,1,5,20],[0,1,5],[0,1,5,31],[4],[0,1,5,40],[4],[4]]:List (List Nat)).getD n [],fun n=>match n with|8=>(8,[0,1,0,0,15,31,15,15],[0,0,3,7,0,0,48,112,255])|10=>(8,[0,1,0,0,15,31,15,15],[0,0,3,7,0,0,48,112,255])|_=>(0,[],[])⟩
def pl194:Plan:=⟨fun n=>([[0,1],[0,1,5],[1,5,17,18,19],[1,5,17,18,19,20],[1,5,6,7,17,18,19],[1,5,6,7,8,17,18,19],[1,5,6,7,8,17,18,19,24,25,26],[1,5,6,7,8,17,18,19,24,25,26,27],[1,5,6,7,8,9,10,17,18,19,24,25,26],[1,5,6,7,8,9,17,18,19,24,25,26],[1,5,6,7,8,17,18,19,24,25,26],[1,5,6,7,8,17,18,19,24,25,26],[1,5,6,7,8,17,18,19,24,25,26],[1,5,17,18,19],[1,5,17,18,19],[4]]:List (List Nat)).getD n [],fun n=>match n with|_=>(0,[],[])⟩
def pl197:Plan:=⟨fun n=>([[0],[0,3],[3,4],[3,4,18],[3,5,6],[3,5],[3,4],[3,32],[2],[3,8],[3,8,9],[3,8,9,37],[3,8,9],[3,8,9,10],[3,8,9,10,11],[3,8,9,10,11,12],[3,8,9,10,11,12,45],[3,8,9,10,11,12],[3,8,9,10,11,12],[3,8,9,10,11,12],[3,8,9,13],[3,8,9,13,62],[3,8,9,13],[3,8,9],[2]]:List (List Nat)).getD n [],fun n=>match n with|_=>(0,[],[])⟩
def pl198:Plan:=⟨fun n=>([[0,6],[0,6,7,8],[0,4,6],[0,6,15]]:List (List Nat)).getD n [],fun n=>match n with|_=>(0,[],[])⟩
def pl199:Plan:=⟨fun n=>([[0],[0,7],[2],[0,3],[3,4],[3,4,19],[3,4],[3,4],[2]]:List (List Nat)).getD n [],fun n=>match n with|_=>(0,[],[])⟩
def pl200:Plan:=⟨fun n=>([[0,1],[4]]:List (List Nat)).getD n [],fun n=>match n with|_=>(0,[],[])⟩
def pl201:Plan:=⟨fun n=>([[0,1],[0,1,5],[0,1,5,6],[0,1,5,6,7],[0,1,5,6,7,13],[0,1,5,6,7],[0,1,5,7,8],[0,1,5,7,8,20],[0,1,5,7,8],[0,1,5,6,7,8],[0,1,5,6,7,8,9],[0,1,5,6,7,8,9,33],[0,1,5,7,8,9],[0,1,5,6,7,8,9],[0,1,5,6,7],[4]]:List (List Nat)).getD n [],fun n=>match n with|_=>(0,[],[])⟩
def pl204:Plan:=⟨fun n=>([[0,1],[0,1,13],[0,1],[0,1,5],[0,1,5,6],[0,1,5,6,20,21,22],[0,1,5,6,20,21,22,23],[0,1,5,6,7,8,20,21,22],[0,1,5,6,7,20,21,22],[0,1,5,6,7,20,21,22,34],[0,1,5,6,7,20,21,22],[0,1,5,6,20,21,22],[0,1,5,6,20,21,22],[0,1,5,6,20,21,22],[5],[4]]:List (List Nat)).getD n [],fun n=>match n with|_=>(0,[],[])⟩
def pl205:Plan:=⟨fun n=>([[0,1],[0,1,15],[4,5],[0,1,6],[0,1,6,7],[1,6,7,19,20,21],[1,6,7,19,20,21,22],[1,6,7,8,9,19,20,21],[1,6,8,9,10,19,20,21],[1,6,8,9,10,19,20,21,30],[1,6,8,9,10,19,20,21],[1,6,8,11,19,20,21],[1,6,11,19,20,21],[1,6,7,19,20,21],[1,6,7,19,20,21],[4,5]]:List (List Nat)).getD n [],fun n=>match n with|_=>(0,[],[])⟩
def pl210:Plan:=⟨fun n=>([[0,1],[0,1],[1],[4,5]]:List (List Nat)).getD n [],fun n=>match n with|_=>(0,[],[])⟩
def pl211:Plan:=⟨fun n=>([[0],[2]]:List (List Nat)).getD n [],fun n=>match n with|1=>(10,[0,0,0,0,0,31,31,31,31,31],[0,1,3,7,15,0,32,96,224,480,1023,2047])|_=>(0,[],[])⟩
def pl212:Plan:=⟨fun n=>([[0,2],[2,3],[2]]:List (List Nat)).getD n [],fun n=>match n with|_=>(0,[],[])⟩
def pl213:Plan:=⟨fun n=>([[0,1],[0,1],[0,1,24],[4,5,6],[0,1,28],[4,5,6],[0,1,33],[7,8],[4,5,6],[0,1,10],[0,10,11],[10,11,13],[10,11,13],[10,11,13,15],[10,11,13,15,16],[10,11,13,15,16,17],[10,11,13,15,16,17,82],[10,11,13,15,16,17],[10,11,13,15,16,17],[16,18],[4,5,6]]:List (List Nat)).getD n [],fun n=>match n with|_=>(0,[],[])⟩
def pl219:Plan:=⟨fun n=>([[0],[2]]:List (List Nat)).getD n [],fun n=>match n with|_=>(0,[],[])⟩
def pl220:Plan:=⟨fun n=>([[1],[1,4],[1,4,5],[1,4,5],[2],[1,4,21],[1,21],[2],[2]]:List (List Nat)).getD n [],fun n=>match n with|_=>(0,[],[])⟩
def pl221:Plan:=⟨fun n=>([[1],[1,4],[1,4,5],[1,4,5],[2],[1,4,13],[1,4,13],[1,4,13],[1,4,13],[1,4,13],[1,13],[2],[2]]:List (List Nat)).getD n [],fun n=>match n with|_=>(0,[],[])⟩
def pl222:Plan:=⟨fun n=>([[0,1],[0,1,12],[4,5],[0,1,14],[4,5],[0,1,6],[0,1,6,7],[1,6,7,24,25,26],[1,6,7,24,25,26,27],[1,6,7,8,9,24,25,26],[1,6,7,8,10,24,25,26],[1,6,7,8,10,24,25,26],[1,6,7,24,25,26],[1,6,7,24,25,26],[4,5]]:List (List Nat)).getD n [],fun n=>match n with|_=>(0,[],[])⟩
def pl223:Plan:=⟨fun n=>([[1],[1,5],[2],[2]]:List (List Nat)).getD n [],fun n=>match n with|_=>(0,[],[])⟩
def pl224:Plan:=⟨fun n=>([[0,1],[0,1,12],[4,5],[0,1],[0,1,19],[4,5],[0,1],[0,6],[0,6,7],[0,6,7,29,30,31],[0,6,7,29,30,31,32],[0,6,7,8,9,29,30,31],[0,6,7,8,10,29,30,31],[0,6,7,8,10,29,30,31,42],[0,6,7,8,10,29,30,31],[0,6,7,29,30,31],[0,6,7,29,30,31],[4,5]]:List (List Nat)).getD n [],fun n=>match n with|_=>(0,[],[])⟩
def pl225:Plan:=⟨fun n=>([[0],[0,4],[2],[2]]:List (List Nat)).getD n [],fun n=>match n with|_=>(0,[],[])⟩
def pl227:Plan:=⟨fun n=>([[0,1],[0,1,11],[4,5,6],[0,1,7],[0,1,7,8],[0,1,7,8,9],[0,1,7,8,9,19],[0,1,7,8,9],[0,1,7,8,9],[0,1,7,8,9],[0,1,7,8,9],[4,5,6]]:List (List Nat)).getD n [],fun n=>match n with|_=>(0,[],[])⟩
def pl228:Plan:=⟨fun n=>([[0,1],[0,1,12],[4],[0,1,21],[4],[0,1,5,6],[0,1,5,31],[4],[4]]:List (List Nat)).getD n [],fun n=>match n with|_=>(0,[],[])⟩
def pl230:Plan:=⟨fun n=>([[0,6],[],[19]]:List (List Nat)).getD n [],fun n=>match n with|_=>(0,[],[])⟩
def pl232:Plan:=⟨fun n=>([[0],[2]]:List (List Nat)).getD n [],fun n=>match n with|_=>(0,[],[])⟩
def pl233:Plan:=⟨fun n=>([[0,1],[0,1,5],[0,1,5,6],[0,1,5,7,8],[0,1,5,7,8,64],[0,1,5,7,8],[0,1,5,7,8],[0,1,5,7,8,77],[0,1,5,7,82],[4],[0,1,5,7],[0,1,5,7,9],[0,1,5,7,9,88,89],[0,1,5,7,9,88,89,90],[0,1,5,7,9,10,88,89],[0,1,5,7,9,10,88,89],[0,1,5,7,9,10,88,89,101],[0,1,5,7,9,10,88,89],[0,1,5,7,9,88,89],[0,1,5,7,9,88,89],[0,1,5,7,9,88,89],[4]]:List (List Nat)).getD n [],fun n=>match n with|2=>(12,[0,1,0,0,0,0,63,127,127,63,63,63],[0,0,3,7,15,31,0,0,128,448,960,1984,4095,8191])|3=>(17,[0,1,3,3,1,1,1,0,255,511,1023,1023,511,511,511,255,65280],[0,0,0,4,14,30,62,127,0,0,0,1024,3584,7680,15872,32512,255,131071])|4=>(21,[0,0,0,0,0,16,48,48,16,16,16,0,4080,4080,16368,32752,32752,16368,16368,16368,4080],[0,1,3,7,15,15,15,79,239,495,1007,2047,15,4111,15,15,32783,114703,245775,507919,1044495,2097151,4194303])|_=>(0,[],[])⟩
def pl235:Plan:=⟨fun n=>([[0],[5,6,7],[5,6,7,8],[3,4,5,6,7],[3,4,5,6,7,13],[2],[5,6,7],[2]]:List (List Nat)).getD n [],fun n=>match n with|_=>(0,[],[])⟩
def pl236:Plan:=⟨fun n=>([[0,1],[0,1,13],[0,1],[4]]:List (List Nat)).getD n [],fun n=>match n with|_=>(0,[],[])⟩
def pl243:Plan:=⟨fun n=>([[0,2],[0,2,4],[0],[0,2],[0,2,8],[0,2],[0,2],[2]]:List (List Nat)).getD n [],fun n=>match n with|_=>(0,[],[])⟩
def pl244:Plan:=⟨fun n=>([[0,1,2],[0,1,2,7,8],[0,1,2,7,8,12,13],[0,1,2,7,8,12,13,14],[0,1,2,7,8,9,12,13],[0,1,2,7,8,9,12,13,19],[0,1,2,7,8,9,12,13],[0,1,2,7,9,10,12,13],[0,1,2,7,9,10,12,13],[0,1,2,7,10,12,13],[0,1,2,7,8,12,13],[0,1,2,7,8,12,13],[6]]:List (List Nat)).getD n [],fun n=>match n with|_=>(0,[],[])⟩
def EnT(P:Program)(f:FuncId)(n:Nat)(ac:ACode)(rs:List RV):Prop:= ∀ ⦃args:List AV⦄ ⦃H:AHeap⦄ ⦃Q:AV→AHeap→Prop⦄,args.length≤n→W P ac (retN rs Q) ⟨[],initE args 0,H⟩→Run P f args H Q
theorem Ent{P:Program}{f:FuncId}{fn:Func}{n:Nat}(pl:Plan){ac:ACode}{rs:List RV}(hm:P.follows .mixedOrders=true)(hf:P.funcs[f]? =some fn)(hc:compFn P fn pl=some (ac,rs):=by kernel_rfl)(hx:(fn.name=="runtime.NumGoroutine")=false:=by kernel_rfl)(hy:fn.ntmps=n:=by kernel_rfl):EnT P f n ac rs:=fun _ _ _ hn h=>Run_fn2 hm hf hx hc (n:=n) hy hn h
set_option maxRecDepth 100000
theorem mixed:Tryz.prog.follows .mixedOrders=true:=by kernel_rfl
def ac17:ACode:=Js [Jo 2 (.box 25 0 (.t 0)),Jo 4 (.mov (.k (.seq 0 [] true))),Jo 5 (.mov (Jk 0)),Jo 6 (.mov (Jk 0))] [1,2] (.seq (Js [Jo 13 (.load (some 4) (.t 2)),Jm 14 1,Jv 15 14,Jo 16 (Jc 83 [.t 13,.t 15]),Jm 7 16] [1,2,7] (Js [Jm 17 7,Jo 18 (.bin .neq (.t 17) (Jk 0))] [1,2,7,18] (.cond (.t 18) (Js [Jm 19 7,Jo 4 (.mov (.k (.seq 0 [] true))),Jo 5 (.mov (Jk 0)),Jm 6 19] [4,5,6] .ret) .skip))) (Js [Jf 20 1 2,Jl 21 20,Jo 22 (.mks 48 2 32 [.bool false,.seq 0 [] true] (.t 21) (.t 21)),Jm 8 22] [1,2,8] (Js [Jm 23 8,Jm 24 1,Jo 25 (.cpy 2 (.t 23) (.t 24))] [2,8] (Jq (.draw [Jo 26 (Jc 85 []),Jo 27 (.load (some 4) (.t 2)),Jm 28 8] [Jo 29 (Jc 84 [.t 26,.t 27,.t 28,.k (.fn (.func 86) [] [])]),Jm 9 29] [0,1,3] [2,8,9]) (Js [Jm 30 9,Jo 31 (.bin .geq (.t 30) (Jk 0))] [2,8,9,31] (.cond (.t 31) (Js [Jm 32 9,Jo 4 (.mov (.k (.seq 0 [] true))),Jm 5 32,Jo 6 (.mov (Jk 20))] [4,5,6] .ret) .skip)) (Js [Jo 10 (.mov (.k (.seq 0 [] true)))] [2,8,10] (.seq (Js [Jf 33 3 2,Jl 34 33,Jv 35 34,Jo 36 (.mov (Jk 0))] [8,10,34,35,36] (.block 0 (.loop (Js [Jb 37 .lss 36 35] [8,10,34,35,36,37] (.seq (.cond (.t 37) .skip (.exit 0)) (.seq (.block 1 (Js [Ji 38 1 34 36,Jl 39 38,Jm 12 39] [8,10,12,34,35,36] (.reg [Jm 40 10,Jm 41 8,Jm 42 12,Ji 43 2 41 42,Jo 44 (.load (some 2) (.t 43)),Jo 45 (.bsl [.bool false,.seq 0 [] true] 1 2 [(0,2,.t 44)]),Jo 46 (.app 48 2 32 (.t 40) (.t 45)),Jm 10 46] [8,10,34,35,36]))) (.reg [Jo 47 (.bin .add (.t 36) (Jk 1)),Jm 36 47] [8,10,34,35,36]))))))) (Js [Jm 48 10,Jm 4 48,Jo 5 (.mov (Jk 0)),Jo 6 (.mov (Jk 0))] [4,5,6] .ret)))))))
def rs17:List RV:=[.t 4,.t 5,.t 6]
theorem enter17:EnT Tryz.prog 17 49 ac17 rs17:=Ent pl17 mixed Tryz.func17
def ac23:ACode:=Js [Jo 0 (.mov (.k (.bool false)))] [] (Js [Jo 10 (Jc 94 []),Jo 11 (.bsl [Jn 0] 2 1 [(0,1,Jk 7),(1,1,Jk 5)]),Jo 12 (.bsl [Jn 0] 2 1 [(0,1,Jk 3),(1,1,Jk 1)]),Jo 13 (.bsl [.seq 0 [] true] 2 1 [(0,1,.t 11),(1,1,.t 12)]),Jo 14 (Jc 25 [.t 13]),Jo 15 (Jc 26 [.t 10,.t 14]),Jm 9 15,Je 16 9 0,Je 17 9 1,Je 18 9 2,Jm 1 16,Jm 2 17,Jm 3 18] [1,2,3] (Js [Jo 20 (Jc 94 []),Jo 21 (.bsl [Jn 0] 2 1 [(0,1,Jk 7),(1,1,Jk 5)]),Jo 22 (.bsl [Jn 0] 2 1 [(0,1,Jk 3),(1,1,Jk 2)]),Jo 23 (.bsl [.seq 0 [] true] 2 1 [(0,1,.t 21),(1,1,.t 22)]),Jo 24 (Jc 25 [.t 23]),Jo 25 (Jc 26 [.t 20,.t 24]),Jm 19 25,Je 26 19 0,Je 27 19 1,Je 28 19 2,Jm 4 26,Jm 5 27,Jm 6 28] [1,2,3,5,6] (Js [Jo 30 (Jc 94 []),Jo 31 (.bsl [Jn 0] 1 1 [(0,1,Jk 7)]),Jo 32 (.bsl [Jn 0] 1 1 [(0,1,Jk 3)]),Jo 33 (.bsl [.seq 0 [] true] 2 1 [(0,1,.t 31),(1,1,.t 32)]),Jo 34 (Jc 25 [.t 33]),Jo 35 (Jc 32 [.t 30,.t 34]),Jm 29 35,Je 36 29 0,Je 37 29 1,Jm 7 36,Jm 8 37] [1,2,3,5,6,7,8] (Js [Jm 38 3,Jo 39 (.bin .eql (.t 38) (Jk 0)),Jm 40 39,⟨some 41,some (40,true),.mov (.t 2)⟩,⟨some 42,some (40,true),.bin .eql (.t 41) (Jk 2)⟩,Jo 43 (.pick (.t 40) (.t 42) (.k (.bool false))),Jm 44 43,⟨some 45,some (44,true),.mov (.t 1)⟩,⟨some 46,some (44,true),.bsl [Jn 0] 2 1 [(0,1,Jk 2),(1,1,Jk 2)]⟩,⟨some 47,some (44,true),.bsl [Jn 0] 2 1 [(0,1,Jk 7),(1,1,Jk 5)]⟩,⟨some 48,some (44,true),.bsl [.seq 0 [] true] 2 1 [(0,1,.t 46),(1,1,.t 47)]⟩,⟨some 49,some (44,true),Jc 29 [.t 48]⟩,⟨some 50,some (44,true),Jc 30 [.t 45,.t 49]⟩,Jo 51 (.pick (.t 44) (.t 50) (.k (.bool false))),Jm 52 51,⟨some 53,some (52,true),.mov (.t 5)⟩,⟨some 54,some (52,true),.bin .eql (.t 53) (Jk 1)⟩,Jo 55 (.pick (.t 52) (.t 54) (.k (.bool false))),Jm 56 55,⟨some 57,some (56,true),.mov (.t 6)⟩,⟨some 58,some (56,true),.bin .eql (.t 57) (Jk 20)⟩,Jo 59 (.pick (.t 56) (.t 58) (.k (.bool false))),Jm 60 59,⟨some 61,some (60,true),.mov (.t 8)⟩,⟨some 62,some (60,true),.bin .eql (.t 61) (Jk 0)⟩,Jo 63 (.pick (.t 60) (.t 62) (.k (.bool false))),Jm 64 63,⟨some 65,some (64,true),.mov (.t 7)⟩,⟨some 66,some (64,true),.prim (.peq true) [.t 65,.k .nilP]⟩,Jo 67 (.pick (.t 64) (.t 66) (.k (.bool false))),Jm 68 67,⟨some 69,some (68,true),.mov (.t 7)⟩,⟨some 70,some (68,true),Jc 33 [.t 69]⟩,⟨some 71,some (68,true),.bin .eql (.t 70) (Jk 0)⟩,Jo 72 (.pick (.t 68) (.t 71) (.k (.bool false))),Jm 73 72,⟨some 74,some (73,true),.mov (.t 7)⟩,⟨some 75,some (73,true),Jc 35 [.t 74]⟩,⟨some 76,some (73,true),.bin .eql (.t 75) (Jk 1)⟩,Jo 77 (.pick (.t 73) (.t 76) (.k (.bool false))),Jm 0 77] [0] .ret))))
def rs23:List RV:=[.t 0]
theorem enter23:EnT Tryz.prog 23 78 ac23 rs23:=Ent pl23 mixed Tryz.func23
def ac24:ACode:=Js [Jo 2 (.box 25 0 (.t 0)),Jo 4 (.mov (.k (.bool false)))] [1,2] (Js [Jo 5 (.mov (Jk 0))] [1,2,5] (.seq (Js [Jm 8 1,Jv 9 8,Jo 10 (.mov (Jk 0))] [2,5,8,9,10] (.block 0 (.loop (Js [Jb 11 .lss 10 9] [2,5,8,9,10,11] (.seq (.cond (.t 11) .skip (.exit 0)) (.seq (.block 1 (Js [Ji 12 1 8 10,Jl 13 12,Jm 7 13] [2,5,7,8,9,10] (.reg [Jm 14 5,Jm 15 7,Jv 16 15,Jb 17 .add 14 16,Jm 5 17] [2,5,8,9,10]))) (.reg [Jo 18 (.bin .add (.t 10) (Jk 1)),Jm 10 18] [2,5,8,9,10]))))))) (Js [Jf 19 2 2,Jl 20 19,Jv 21 20,Jo 22 (.bin .gtr (.t 21) (Jk 80)),Jm 23 22,⟨some 24,some (23,true),.fldA 2 (.t 2)⟩,⟨some 25,some (23,true),.load none (.t 24)⟩,⟨some 26,some (23,true),.len false (.t 25)⟩,⟨some 27,some (23,true),.bin .leq (.t 26) (Jk 16384)⟩,Jo 28 (.pick (.t 23) (.t 27) (.k (.bool false))),Jm 29 28,⟨some 30,some (29,false),.fldA 1 (.t 2)⟩,⟨some 31,some (29,false),.load none (.t 30)⟩,⟨some 32,some (29,false),.bin .gtr (.t 31) (Jk 40)⟩,⟨some 33,some (29,false),.mov (.t 32)⟩,⟨some 34,some (33,true),.fldA 1 (.t 2)⟩,⟨some 35,some (33,true),.load none (.t 34)⟩,⟨some 36,some (33,true),.bin .leq (.t 35) (Jk 128)⟩,⟨some 37,some (29,false),.pick (.t 33) (.t 36) (.k (.bool false))⟩,Jo 38 (.pick (.t 29) (.k (.bool true)) (.t 37)),Jm 39 38,⟨some 40,some (39,false),.mov (.t 5)⟩,⟨some 41,some (39,false),.bin .gtr (.t 40) (Jk 300)⟩,Jo 42 (.pick (.t 39) (.k (.bool true)) (.t 41)),Jm 4 42] [4] .ret)))
def rs24:List RV:=[.t 4]
theorem enter24:EnT Tryz.prog 24 43 ac24 rs24:=Ent pl24 mixed Tryz.func24
def ac25:ACode:=Js [Jo 2 (.mov (.k (.seq 0 [] true)))] [0] (Js [Jo 3 (.mov (.k (.seq 0 [] true)))] [0,3] (.seq (Js [Jm 9 0,Jv 10 9,Jo 11 (.mov (Jk 0))] [3,9,10,11] (.block 0 (.loop (Js [Jb 12 .lss 11 10] [3,9,10,11,12] (.seq (.cond (.t 12) .skip (.exit 0)) (.seq (.block 1 (Js [Ji 13 1 9 11,Jl 14 13,Jm 5 14] [3,5,9,10,11] (Js [Jm 15 5,Jv 16 15,Jo 17 (.bin .add (.t 16) (Jk 1)),Jo 18 (.mks 48 2 32 [.bool false,.seq 0 [] true] (Jk 0) (.t 17)),Jm 6 18] [3,5,6,9,10,11] (.seq (Js [Jm 19 5,Jv 20 19,Jo 21 (.mov (Jk 0))] [3,6,9,10,11,19,20,21] (.block 2 (.loop (Js [Jb 22 .lss 21 20] [3,6,9,10,11,19,20,21,22] (.seq (.cond (.t 22) .skip (.exit 2)) (.seq (.block 3 (Js [Ji 23 1 19 21,Jl 24 23,Jm 8 24] [3,6,8,9,10,11,19,20,21] (.reg [Jm 25 6,Jm 26 8,Jo 27 (Jc 31 [.t 26]),Jo 28 (.bsl [.bool false,.seq 0 [] true] 1 2 [(0,2,.t 27)]),Jo 29 (.app 48 2 32 (.t 25) (.t 28)),Jm 6 29] [3,6,9,10,11,19,20,21]))) (.reg [Jo 30 (.bin .add (.t 21) (Jk 1)),Jm 21 30] [3,6,9,10,11,19,20,21]))))))) (.reg [Jm 31 3,Jm 32 6,Jo 33 (.bsl [.seq 0 [] true] 1 1 [(0,1,.t 32)]),Jo 34 (.app 29 1 24 (.t 31) (.t 33)),Jm 3 34] [3,9,10,11]))))) (.reg [Jo 35 (.bin .add (.t 11) (Jk 1)),Jm 11 35] [3,9,10,11]))))))) (Js [Jm 36 3,Jm 2 36] [2] .ret)))
def rs25:List RV:=[.t 2]
theorem enter25:EnT Tryz.prog 25 37 ac25 rs25:=Ent pl25 mixed Tryz.func25
def ac26:ACode:=Js [Jo 2 (.box 25 0 (.t 0)),Jo 4 (.mov (.k (.seq 0 [] true))),Jo 5 (.mov (Jk 0)),Jo 6 (.mov (Jk 0))] [1,2] (.scope0 (Js [Jo 11 (.load (some 4) (.t 2)),Jm 12 1,Jo 13 (Jc 32 [.t 11,.t 12]),Jm 10 13,Je 14 10 0,Je 15 10 1,Jm 7 14,Jm 8 15] [7,8] (.seq (Js [Jm 16 8,Jo 17 (.bin .neq (.t 16) (Jk 0))] [7,8,17] (.cond (.t 17) (Js [Jm 18 8,Jo 4 (.mov (.k (.seq 0 [] true))),Jo 5 (.mov (Jk 0)),Jm 6 18] [4,5,6] .ret) .skip)) (.seq .skip (.seq (.block 0 (.loop (.block 1 (Js [Jm 19 7,Jo 20 (Jc 33 [.t 19])] [7,20] (.block 2 (Js [Jo 22 (.bin .eql (.t 20) (Jk 20)),Jm 21 22] [7,20,21] (.cond (.t 21) (.seq (.draw [Jm 23 7,Jo 24 (.prim .nck [.t 23]),Jf 25 5 24,Jl 26 25,Jo 4 (.mov (.k (.seq 0 [] true)))] [Jm 5 26,Jo 6 (.mov (Jk 20))] [0,0,0,0,15] [4,5,6]) .ret) (Js [Jo 28 (.bin .eql (.t 20) (Jk 4)),Jm 27 28] [7,27] (.cond (.t 27) (.exit 0) .skip))))))))) (Js [Jm 30 7,Jo 31 (Jc 34 [.t 30]),Jm 29 31,Je 32 29 0,Je 33 29 1,Jm 9 32,Jm 8 33] [7,8,9] (.seq (.draw [Jm 34 9,Jm 35 7,Jo 36 (.prim .nck [.t 35]),Jf 37 5 36,Jl 38 37,Jm 39 8,Jm 4 34,Jm 5 38] [Jm 6 39] [0,1,1,1,1,31,62,32] [4,5,6]) .ret)))))))
def rs26:List RV:=[.t 4,.t 5,.t 6]
theorem enter26:EnT Tryz.prog 26 40 ac26 rs26:=Ent pl26 mixed Tryz.func26
def ac29:ACode:=Js [Jo 2 (.mov (.k (.seq 0 [] true)))] [0] (Js [Jo 3 (.mov (.k (.seq 0 [] true)))] [0,3] (.seq (Js [Jm 9 0,Jv 10 9,Jo 11 (.mov (Jk 0))] [3,9,10,11] (.block 0 (.loop (Js [Jb 12 .lss 11 10] [3,9,10,11,12] (.seq (.cond (.t 12) .skip (.exit 0)) (.seq (.block 1 (Js [Ji 13 1 9 11,Jl 14 13,Jm 5 14] [3,5,9,10,11] (Js [Jo 6 (.mov (.k (.seq 0 [] true)))] [3,5,6,9,10,11] (.seq (Js [Jm 15 5,Jv 16 15,Jo 17 (.mov (Jk 0))] [3,6,9,10,11,15,16,17] (.block 2 (.loop (Js [Jb 18 .lss 17 16] [3,6,9,10,11,15,16,17,18] (.seq (.cond (.t 18) .skip (.exit 2)) (.seq (.block 3 (Js [Ji 19 1 15 17,Jl 20 19,Jm 8 20] [3,6,8,9,10,11,15,16,17] (.reg [Jm 21 6,Jm 22 8,Jo 23 (Jc 82 [.t 22]),Jo 24 (.bsl [.bool false,.seq 0 [] true] 1 2 [(0,2,.t 23)]),Jo 25 (.app 44 2 32 (.t 21) (.t 24)),Jm 6 25] [3,6,9,10,11,15,16,17]))) (.reg [Jo 26 (.bin .add (.t 17) (Jk 1)),Jm 17 26] [3,6,9,10,11,15,16,17]))))))) (.reg [Jm 27 3,Jm 28 6,Jo 29 (.bsl [.seq 0 [] true] 1 1 [(0,1,.t 28)]),Jo 30 (.app 89 1 24 (.t 27) (.t 29)),Jm 3 30] [3,9,10,11]))))) (.reg [Jo 31 (.bin .add (.t 11) (Jk 1)),Jm 11 31] [3,9,10,11]))))))) (Js [Jm 32 3,Jm 2 32] [2] .ret)))
def rs29:List RV:=[.t 2]
theorem enter29:EnT Tryz.prog 29 33 ac29 rs29:=Ent pl29 mixed Tryz.func29
def ac30:ACode:=Js [Jo 4 (.mov (.k (.bool false)))] [0,1] (Js [Jm 5 0,Jm 6 1,Jo 7 (Jc 97 [.t 5,.t 6,.k (.fn (.func 42) [] [])]),Jm 4 7] [4] .ret)
def rs30:List RV:=[.t 4]
theorem enter30:EnT Tryz.prog 30 8 ac30 rs30:=Ent pl30 mixed Tryz.func30
def ac31:ACode:=Js [Jo 2 (.alloc 48 0 [.bool false,.seq 0 [] true])] [0,2] (Js [Jm 4 0,Jo 5 (.conv .u64 (.t 4)),Jm 3 5] [0,2,3] (.seq (Js [Jm 6 0,Jo 7 (.bin .lss (.t 6) (Jk 0))] [0,2,3,7] (.cond (.t 7) (.reg [Jm 8 3,Jo 9 (.un .neg (.t 8)),Jm 3 9] [0,2,3]) .skip)) (Js [Jm 10 0,Jo 11 (.bin .lss (.t 10) (Jk 0)),Jm 12 3,Jo 13 (.conv .u32 (.t 12)),Jm 14 3,Jo 15 (.bin .shr (.t 14) (.k (.int .u64 ((32:Nat):Int)))),Jo 16 (.conv .u32 (.t 15)),Jo 17 (.bsl [.int .u32 ((0:Nat):Int)] 2 1 [(0,1,.t 13),(1,1,.t 16)]),Jo 18 (Jc 98 [.t 11,.t 17]),⟨none,none,.store 2 (.t 2) (.t 18)⟩] [2] .ret)))
def rs31:List RV:=[.cell 2 (some 2)]
theorem enter31:EnT Tryz.prog 31 19 ac31 rs31:=Ent pl31 mixed Tryz.func31
def ac32:ACode:=Js [Jo 2 (.box 25 0 (.t 0)),Jo 4 (.mov (.k .nilP)),Jo 5 (.mov (Jk 0))] [1,2] (Js [Jo 13 (.load (some 4) (.t 2)),Jo 14 (Jc 99 [.t 13]),Jm 12 14,Je 15 12 0,Je 16 12 1,Jm 6 15,Jm 7 16] [1,2,7] (.seq (Js [Jm 17 7,Jo 18 (.bin .neq (.t 17) (Jk 0))] [1,2,7,18] (.cond (.t 18) (Js [Jm 19 7,Jo 4 (.mov (.k .nilP)),Jm 5 19] [4,5] .ret) .skip)) (.seq (Js [Jm 20 1,Jv 21 20,Jf 22 0 2,Jl 23 22,Jb 24 .neq 21 23] [1,2,24] (.cond (.t 24) (Js [Jo 4 (.mov (.k .nilP)),Jo 5 (.mov (Jk 5))] [4,5] .ret) .skip)) (Js [Jm 25 1,Jo 26 (.idxA 1 (.t 25) (Jk 0)),Jl 27 26,Jv 28 27,Jm 8 28] [1,2,8] (Js [Jo 29 (.load (some 4) (.t 2)),Jo 30 (Jc 100 [.t 29]),Jo 31 (.build [Jn 0,Jn 0,.seq 0 [] true,.seq 0 [] true,.seq 0 [] true,Jn 0] [(0,4,.t 30)]),Jo 32 (.box 161 0 (.t 31)),Jm 9 32] [1,2,8,9] (.seq (Js [Jm 33 1,Jv 34 33,Jo 35 (.mov (Jk 0))] [2,8,9,33,34,35] (.block 0 (.loop (Js [Jb 36 .lss 35 34] [2,8,9,33,34,35,36] (.seq (.cond (.t 36) .skip (.exit 0)) (.seq (.block 1 (Js [Ji 37 1 33 35,Jl 38 37,Jm 11 38] [2,8,9,11,33,34,35] (.seq (Js [Jm 39 11,Jv 40 39,Jm 41 8,Jb 42 .neq 40 41,Jm 43 42,⟨some 44,some (43,false),.mov (.t 8)⟩,⟨some 45,some (43,false),.bin .gtr (.t 44) (Jk 4096)⟩,Jo 46 (.pick (.t 43) (.k (.bool true)) (.t 45))] [2,8,9,11,33,34,35,46] (.cond (.t 46) (Js [Jo 4 (.mov (.k .nilP)),Jo 5 (.mov (Jk 5))] [4,5] .ret) .skip)) (.draw [Jm 47 9,Jm 48 9,Jo 49 (.prim .nck [.t 48]),Jf 50 4 49,Jl 51 50,Jm 52 11,Jo 53 (Jc 101 [.t 52]),Jo 54 (.bsl [.seq 0 [] true] 1 1 [(0,1,.t 53)]),Jo 55 (.app 29 1 24 (.t 51) (.t 54))] [Jo 56 (.prim .nck [.t 47]),Jf 57 4 56,⟨none,none,.store 1 (.t 57) (.t 55)⟩] [0,1,1,1,1,31,31,31,1] [2,8,9,33,34,35])))) (.reg [Jo 58 (.bin .add (.t 35) (Jk 1)),Jm 35 58] [2,8,9,33,34,35]))))))) (.seq (.block 2 (.loop (Jq (.draw [Jm 59 9,Jo 60 (.prim .nck [.t 59]),Jf 61 4 60,Jl 62 61,Jv 63 62,Jf 64 1 2,Jl 65 64] [Jb 66 .lss 63 65] [0,0,0,0,0,31,31] [2,8,9,66]) (.cond (.t 66) .skip (.exit 2)) (.block 3 (.draw [Jm 67 9,Jm 68 9,Jo 69 (.prim .nck [.t 68]),Jf 70 4 69,Jl 71 70,Jm 72 8,Jo 73 (.mks 48 2 32 [.bool false,.seq 0 [] true] (.t 72) (.t 72)),Jo 74 (.bsl [.seq 0 [] true] 1 1 [(0,1,.t 73)]),Jo 75 (.app 29 1 24 (.t 71) (.t 74))] [Jo 76 (.prim .nck [.t 67]),Jf 77 4 76,⟨none,none,.store 1 (.t 77) (.t 75)⟩] [0,1,1,1,1,31,31,31,1] [2,8,9]))))) (Js [Jm 78 9,Jm 4 78,Jo 5 (.mov (Jk 0))] [4,5] .ret))))))))
def rs32:List RV:=[.t 4,.t 5]
theorem enter32:EnT Tryz.prog 32 79 ac32 rs32:=Ent pl32 mixed Tryz.func32
def ac33:ACode:=Js [Jo 2 (.mov (Jk 0))] [0] (.seq (.block 0 (Js [Jm 12 0,Jo 13 (.prim (.peq false) [.t 12,.k .nilP]),Jm 11 13] [0,11] (.cond (.t 11) (Js [Jo 2 (.mov (Jk 1))] [2] .ret) (.seq (.draw [Jm 15 0,Jo 16 (.prim .nck [.t 15]),Jf 17 5 16,Jl 18 17,Jm 19 0,Jo 20 (.prim .nck [.t 19]),Jf 21 0 20,Jf 22 2 21,Jl 23 22,Jv 24 23] [Jb 25 .eql 18 24,Jm 14 25] [0,0,0,0,15,15,15,15,15,15] [0,14]) (.cond (.t 14) (Js [Jo 2 (.mov (Jk 4))] [2] .ret) .skip))))) (.seq (.draw [Jm 26 0,Jo 27 (.prim .nck [.t 26]),Jf 28 0 27,Jf 29 2 28,Jl 30 29,Jm 31 0,Jo 32 (.prim .nck [.t 31]),Jf 33 5 32,Jl 34 33,Ji 35 5 30 34,Jo 36 (.load (some 5) (.t 35)),Jo 3 (.alloc 76 0 [Jn 0,Jn 0,Jn 0,Jn 0,Jn 0])] [⟨none,none,.store 5 (.t 3) (.t 36)⟩] [0,0,0,0,0,31,31,31,31,0,0,2047] [0,3]) (Js [Jo 37 (.load (some 5) (.t 3)),Jo 38 (Jc 102 [.t 37]),Jm 4 38] [0,3,4] (.seq (.draw [Jm 39 0,Jo 40 (.prim .nck [.t 39]),Jf 41 4 40,Jl 42 41,Jf 43 2 3,Jl 44 43,Ji 45 1 42 44,Jl 46 45,Jm 47 0,Jo 48 (.prim .nck [.t 47]),Jf 49 4 48,Jl 50 49,Jf 51 3 3,Jl 52 51,Ji 53 1 50 52,Jl 54 53,Jm 5 46] [Jm 6 54] [0,0,0,0,15,15,0,0,255,255,255,255,4095,4095,255,255,65280] [0,3,4,5,6]) (Js [Jm 55 5,Jv 56 55,Jo 57 (.mks 48 2 32 [.bool false,.seq 0 [] true] (.t 56) (.t 56)),Jm 7 57] [0,3,4,5,6,7] (.seq (Js [Jm 58 7,Jv 59 58,Jo 60 (.mov (Jk 0))] [0,3,4,5,6,7,59,60] (.block 1 (.loop (Js [Jb 61 .lss 60 59] [0,3,4,5,6,7,59,60,61] (.seq (.cond (.t 61) .skip (.exit 1)) (.seq (.block 2 (Js [Jm 62 60,Jm 8 62] [0,3,4,5,6,7,8,59,60] (.seq (.draw [Jm 64 4,Jm 65 5,Jm 66 8,Ji 67 2 65 66,Jo 68 (.load (some 2) (.t 67)),Jm 69 6,Jm 70 8,Ji 71 2 69 70,Jo 72 (.load (some 2) (.t 71)),Jo 73 (.call (.t 64) [.t 68,.t 72]),Jm 63 73,Je 74 63 0,Je 75 63 1,Jo 9 (.alloc 48 0 [.bool false,.seq 0 [] true]),⟨none,none,.store 2 (.t 9) (.t 74)⟩] [Jm 10 75] [0,1,3,1,1,31,63,31,31,0,0,0,2048,8191,4096] [0,3,4,5,6,7,8,9,10,59,60]) (.seq (Js [Jm 76 10,Jo 77 (.un .not (.t 76))] [0,3,4,5,6,7,8,9,59,60,77] (.cond (.t 77) (Js [Jo 2 (.mov (Jk 20))] [2] .ret) .skip)) (.reg [Jm 78 7,Jm 79 8,Jo 80 (.load (some 2) (.t 9)),Ji 81 2 78 79,⟨none,none,.store 2 (.t 81) (.t 80)⟩] [0,3,4,5,6,7,59,60]))))) (.reg [Jo 82 (.bin .add (.t 60) (Jk 1)),Jm 60 82] [0,3,4,5,6,7,59,60]))))))) (.seq (.draw [Jm 83 0,Jo 84 (.prim .nck [.t 83]),Jf 85 4 84,Jl 86 85,Jf 87 1 3,Jl 88 87,Jm 89 7] [Ji 90 1 86 88,⟨none,none,.store 1 (.t 90) (.t 89)⟩] [0,0,0,0,15,15,63] [0]) (Js [Jm 91 0,Jo 92 (.prim .nck [.t 91]),Jf 93 5 92,Jl 94 93,Jo 95 (.bin .add (.t 94) (Jk 1)),Jo 96 (.prim .nck [.t 91]),Jf 97 5 96,⟨none,none,.store 1 (.t 97) (.t 95)⟩] [] (Js [Jo 2 (.mov (Jk 0))] [2] .ret)))))))))
def rs33:List RV:=[.t 2]
theorem enter33:EnT Tryz.prog 33 98 ac33 rs33:=Ent pl33 mixed Tryz.func33
def ac34:ACode:=Js [Jo 2 (.mov (.k (.seq 0 [] true))),Jo 3 (.mov (Jk 0))] [0] (.seq (.block 0 (Js [Jm 8 0,Jo 9 (.prim (.peq false) [.t 8,.k .nilP]),Jm 7 9] [0,7] (.cond (.t 7) (Js [Jo 2 (.mov (.k (.seq 0 [] true))),Jo 3 (.mov (Jk 1))] [2,3] .ret) (Js [Jm 11 0,Jo 12 (Jc 36 [.t 11]),Jo 13 (.un .not (.t 12)),Jm 10 13] [0,10] (.cond (.t 10) (Js [Jo 2 (.mov (.k (.seq 0 [] true))),Jo 3 (.mov (Jk 4))] [2,3] .ret) .skip))))) (Js [Jo 4 (.mov (.k (.seq 0 [] true)))] [0,4] (.seq (Js [Jm 14 0,Jo 15 (.prim .nck [.t 14]),Jf 16 0 15,Jf 17 3 16,Jl 18 17,Jv 19 18,Jo 20 (.mov (Jk 0))] [0,4,18,19,20] (.block 1 (.loop (Js [Jb 21 .lss 20 19] [0,4,18,19,20,21] (.seq (.cond (.t 21) .skip (.exit 1)) (.seq (.block 2 (Js [Ji 22 1 18 20,Jl 23 22,Jm 6 23] [0,4,6,18,19,20] (.reg [Jm 24 4,Jm 25 0,Jo 26 (.prim .nck [.t 25]),Jf 27 4 26,Jl 28 27,Jm 29 6,Ji 30 1 28 29,Jl 31 30,Jo 32 (Jc 101 [.t 31]),Jo 33 (.bsl [.seq 0 [] true] 1 1 [(0,1,.t 32)]),Jo 34 (.app 29 1 24 (.t 24) (.t 33)),Jm 4 34] [0,4,18,19,20]))) (.reg [Jo 35 (.bin .add (.t 20) (Jk 1)),Jm 20 35] [0,4,18,19,20]))))))) (Js [Jm 36 4,Jm 2 36,Jo 3 (.mov (Jk 0))] [2,3] .ret))))
def rs34:List RV:=[.t 2,.t 3]
theorem enter34:EnT Tryz.prog 34 37 ac34 rs34:=Ent pl34 mixed Tryz.func34
def ac35:ACode:=Js [Jo 2 (.mov (Jk 0))] [0] (.seq (Js [Jm 3 0,Jo 4 (.prim (.peq false) [.t 3,.k .nilP])] [0,4] (.cond (.t 4) (Js [Jo 2 (.mov (.k (.int .i64 (-1))))] [2] .ret) .skip)) (Js [Jm 5 0,Jo 6 (.prim .nck [.t 5]),Jf 7 5 6,Jl 8 7,Jm 2 8] [2] .ret))
def rs35:List RV:=[.t 2]
theorem enter35:EnT Tryz.prog 35 9 ac35 rs35:=Ent pl35 mixed Tryz.func35
def ac36:ACode:=Js [Jo 2 (.mov (.k (.bool false)))] [0] (.seq (.draw [Jm 3 0,Jo 4 (.prim (.peq true) [.t 3,.k .nilP]),Jm 5 4,⟨some 6,some (5,true),.mov (.t 0)⟩,⟨some 7,some (5,true),.prim .nck [.t 6]⟩,⟨some 8,some (5,true),.fldA 5 (.t 7)⟩,⟨some 9,some (5,true),.load none (.t 8)⟩,⟨some 10,some (5,true),.mov (.t 0)⟩,⟨some 11,some (5,true),.prim .nck [.t 10]⟩,⟨some 12,some (5,true),.fldA 0 (.t 11)⟩,⟨some 13,some (5,true),.fldA 2 (.t 12)⟩,⟨some 14,some (5,true),.load none (.t 13)⟩,⟨some 15,some (5,true),.len false (.t 14)⟩] [⟨some 16,some (5,true),.bin .eql (.t 9) (.t 15)⟩,Jo 17 (.pick (.t 5) (.t 16) (.k (.bool false))),Jm 2 17] [0,0,0,0,0,0,0,120,120,120,120,120,120] [2]) .ret)
def rs36:List RV:=[.t 2]
theorem enter36:EnT Tryz.prog 36 18 ac36 rs36:=Ent pl36 mixed Tryz.func36
def ac42:ACode:=Js [Jo 4 (.mov (.k (.bool false)))] [0,1] (Js [Jm 5 0,Jm 6 1,Jo 7 (Jc 105 [.t 5,.t 6,.k (.fn (.func 106) [] [])]),Jm 4 7] [4] .ret)
def rs42:List RV:=[.t 4]
theorem enter42:EnT Tryz.prog 42 8 ac42 rs42:=Ent pl42 mixed Tryz.func42
def ac46:ACode:=Js [Jo 2 (.box 48 0 (.t 0)),Jo 3 (.box 48 0 (.t 1)),Jo 4 (.mov (Jk 0))] [2,3] (.seq (.block 0 (Js [Jf 6 0 2,Jl 7 6,Jm 8 7,⟨some 9,some (8,true),.fldA 0 (.t 3)⟩,⟨some 10,some (8,true),.load none (.t 9)⟩,Jo 11 (.pick (.t 8) (.t 10) (.k (.bool false))),Jm 5 11] [2,3,5] (.cond (.t 5) (Js [Jf 12 1 3,Jl 13 12,Jf 14 1 2,Jl 15 14,Jo 16 (Jc 108 [.t 13,.t 15]),Jm 4 16] [4] .ret) (Js [Jf 18 0 2,Jl 19 18,Jm 17 19] [2,3,17] (.cond (.t 17) (Js [Jo 4 (.mov (.k (.int .i64 (-1))))] [4] .ret) (Js [Jf 21 0 3,Jl 22 21,Jm 20 22] [2,3,20] (.cond (.t 20) (Js [Jo 4 (.mov (Jk 1))] [4] .ret) .skip))))))) (Js [Jf 23 1 2,Jl 24 23,Jf 25 1 3,Jl 26 25,Jo 27 (Jc 108 [.t 24,.t 26]),Jm 4 27] [4] .ret))
def rs46:List RV:=[.t 4]
theorem enter46:EnT Tryz.prog 46 28 ac46 rs46:=Ent pl46 mixed Tryz.func46
def ac52:ACode:=Js [Jo 1 (.box 48 0 (.t 0)),Jo 2 (.mov (Jk 0))] [1] (.seq (.block 0 (Js [Jf 4 1 1,Jl 5 4,Jv 6 5,Jo 7 (.bin .eql (.t 6) (Jk 0)),Jm 3 7] [1,3] (.cond (.t 3) (Js [Jo 2 (.mov (Jk 0))] [2] .ret) (Js [Jf 9 0 1,Jl 10 9,Jm 8 10] [8] (.cond (.t 8) (Js [Jo 2 (.mov (.k (.int .i64 (-1))))] [2] .ret) .skip))))) (Js [Jo 2 (.mov (Jk 1))] [2] .ret))
def rs52:List RV:=[.t 2]
theorem enter52:EnT Tryz.prog 52 11 ac52 rs52:=Ent pl52 mixed Tryz.func52
def ac67:ACode:=Js [Jo 1 (.box 48 0 (.t 0)),Jo 2 (.mov (.k (.str ⟨#[]⟩)))] [1,2] (Js [Jo 3 (.alloc 203 0 [.seq 0 [] true])] [1,2,3] (.seq (Js [Jf 5 0 1,Jl 6 5] [1,2,3,6] (.cond (.t 6) (.reg [Jl 7 3,Jo 8 (.bsl [.int .u8 ((0:Nat):Int)] 1 1 [(0,1,.k (.int .u8 ((45:Nat):Int)))]),Jo 9 (.app 5 1 1 (.t 7) (.t 8)),⟨none,none,.store 1 (.t 3) (.t 9)⟩] [1,2,3]) .skip)) (.seq (Js [Jf 10 1 1,Jl 11 10,Jo 12 (Jc 133 [.t 11])] [2,3,12] (.block 0 (.rfn (.t 12) [13] (.reg [Jm 4 13] [3,4]) (.block 1 (.reg [Jl 14 3,Jm 15 4,Jo 16 (.bin .add (Jk 48) (.t 15)),Jo 17 (.conv .u8 (.t 16)),Jo 18 (.bsl [.int .u8 ((0:Nat):Int)] 1 1 [(0,1,.t 17)]),Jo 19 (.app 5 1 1 (.t 14) (.t 18)),⟨none,none,.store 1 (.t 3) (.t 19)⟩] []))))) (Js [Jl 20 3,Jo 21 (.prim .b2s [.t 20]),Jm 2 21] [2] .ret))))
def rs67:List RV:=[.t 2]
theorem enter67:EnT Tryz.prog 67 22 ac67 rs67:=Ent pl67 mixed Tryz.func67
def ac68:ACode:=Js [Jo 1 (.box 44 0 (.t 0)),Jo 2 (.mov (.k (.str ⟨#[]⟩)))] [1] (Js [Jo 3 (.mov (.k (.seq 0 [] true)))] [1,3] (Js [Jf 9 1 1,Jl 10 9,Jm 4 10] [1,3,4] (.seq (.block 0 (.loop (.seq (Js [Jm 11 4,Jv 12 11,Jo 13 (.bin .gtr (.t 12) (Jk 0))] [1,3,4,13] (.cond (.t 13) .skip (.exit 0))) (.block 1 (Js [Jm 15 4,Jo 16 (.bsl [.int .u32 ((0:Nat):Int)] 1 1 [(0,1,.k (.int .u32 ((10:Nat):Int)))]),Jo 17 (Jc 134 [.t 15,.t 16]),Jm 14 17,Je 18 14 0,Je 19 14 1,Jm 5 18,Jm 6 19] [1,3,5,6] (Js [Jo 7 (.mov (.k (.int .u32 ((0:Nat):Int))))] [1,3,5,6,7] (.seq (Js [Jm 20 6,Jv 21 20,Jo 22 (.bin .gtr (.t 21) (Jk 0))] [1,3,5,6,7,22] (.cond (.t 22) (.reg [Jm 23 6,Jo 24 (.idxA 1 (.t 23) (Jk 0)),Jl 25 24,Jm 7 25] [1,3,5,7]) .skip)) (Js [Jm 26 3,Jm 27 7,Jo 28 (.bin .add (.k (.int .u32 ((48:Nat):Int))) (.t 27)),Jo 29 (.conv .u8 (.t 28)),Jo 30 (.bsl [.int .u8 ((0:Nat):Int)] 1 1 [(0,1,.t 29)]),Jo 31 (.app 5 1 1 (.t 26) (.t 30)),Jm 3 31] [1,3,5] (.reg [Jm 32 5,Jm 4 32] [1,3,4]))))))))) (.seq (Js [Jm 33 3,Jv 34 33,Jo 35 (.bin .eql (.t 34) (Jk 0))] [1,3,35] (.cond (.t 35) (Js [Jo 2 (.mov (.k (.str ⟨#[48]⟩)))] [2] .ret) .skip)) (.seq (Js [Jf 36 0 1,Jl 37 36] [3,37] (.cond (.t 37) (.reg [Jm 38 3,Jo 39 (.bsl [.int .u8 ((0:Nat):Int)] 1 1 [(0,1,.k (.int .u8 ((45:Nat):Int)))]),Jo 40 (.app 5 1 1 (.t 38) (.t 39)),Jm 3 40] [3]) .skip)) (.seq (Js [Jo 8 (.mov (Jk 0))] [3,8] (.block 2 (.loop (.seq (Js [Jm 41 8,Jm 42 3,Jv 43 42,Jo 44 (.bin .quo (.t 43) (Jk 2)),Jb 45 .lss 41 44] [3,8,45] (.cond (.t 45) .skip (.exit 2))) (.seq (.block 3 (.draw [Jm 48 3,Jm 49 8,Jm 50 3,Jm 51 3,Jv 52 51,Jo 53 (.bin .sub (.t 52) (Jk 1)),Jm 54 8,Jb 55 .sub 53 54,Jm 56 3,Jm 57 3,Jv 58 57,Jo 59 (.bin .sub (.t 58) (Jk 1)),Jm 60 8,Jb 61 .sub 59 60,Ji 62 1 56 61,Jl 63 62,Jm 64 3,Jm 65 8,Ji 66 1 64 65,Jl 67 66,Ji 68 1 48 49,⟨none,none,.store 1 (.t 68) (.t 63)⟩] [Ji 69 1 50 55,⟨none,none,.store 1 (.t 69) (.t 67)⟩] [0,1,3,7,7,7,63,7,255,511,511,511,4095,511,255,255,65535,131071,65535,65535,252,252] [3,8])) (.reg [Jm 46 8,Jo 47 (.bin .add (.t 46) (Jk 1)),Jm 8 47] [3,8])))))) (Js [Jm 70 3,Jo 71 (.prim .b2s [.t 70]),Jm 2 71] [2] .ret)))))))
def rs68:List RV:=[.t 2]
theorem enter68:EnT Tryz.prog 68 72 ac68 rs68:=Ent pl68 mixed Tryz.func68
def ac82:ACode:=Js [Jo 2 (.alloc 44 0 [.bool false,.seq 0 [] true])] [0,2] (Js [Jm 5 0,Jo 6 (.conv .u64 (.t 5)),Jm 3 6] [0,2,3] (.seq (Js [Jm 7 0,Jo 8 (.bin .lss (.t 7) (Jk 0))] [0,2,3,8] (.cond (.t 8) (.reg [Jm 9 3,Jo 10 (.un .neg (.t 9)),Jm 3 10] [0,2,3]) .skip)) (Js [Jo 4 (.mov (.k (.seq 0 [] true)))] [0,2,3,4] (.seq (.block 0 (.loop (.seq (Js [Jm 11 3,Jo 12 (.bin .gtr (.t 11) (.k (.int .u64 ((0:Nat):Int))))] [0,2,3,4,12] (.cond (.t 12) .skip (.exit 0))) (.block 1 (Js [Jm 13 4,Jm 14 3,Jo 15 (.bin .rem (.t 14) (.k (.int .u64 ((65536:Nat):Int)))),Jo 16 (.conv .u32 (.t 15)),Jo 17 (.bsl [.int .u32 ((0:Nat):Int)] 1 1 [(0,1,.t 16)]),Jo 18 (.app 168 1 4 (.t 13) (.t 17)),Jm 4 18] [0,2,3,4] (.reg [Jm 19 3,Jo 20 (.bin .quo (.t 19) (.k (.int .u64 ((65536:Nat):Int)))),Jm 3 20] [0,2,3,4])))))) (Js [Jm 21 0,Jo 22 (.bin .lss (.t 21) (Jk 0)),Jm 23 4,Jo 24 (Jc 147 [.t 22,.t 23]),⟨none,none,.store 2 (.t 2) (.t 24)⟩] [2] .ret)))))
def rs82:List RV:=[.cell 2 (some 2)]
theorem enter82:EnT Tryz.prog 82 25 ac82 rs82:=Ent pl82 mixed Tryz.func82
def ac83:ACode:=Js [Jo 2 (.box 25 0 (.t 0)),Jo 4 (.mov (Jk 0))] [1,2] (Js [Jo 8 (.load (some 4) (.t 2)),Jo 9 (Jc 99 [.t 8]),Jm 7 9,Je 10 7 0,Je 11 7 1,Jm 5 10,Jm 6 11] [1,2,6] (.seq (.block 0 (Js [Jm 13 6,Jo 14 (.bin .neq (.t 13) (Jk 0)),Jm 12 14] [1,2,6,12] (.cond (.t 12) (Js [Jm 15 6,Jm 4 15] [4] .ret) (Js [Jm 17 1,Jf 18 0 2,Jl 19 18,Jb 20 .neq 17 19,Jm 16 20] [16] (.cond (.t 16) (Js [Jo 4 (.mov (Jk 5))] [4] .ret) .skip))))) (Js [Jo 4 (.mov (Jk 0))] [4] .ret)))
def rs83:List RV:=[.t 4]
theorem enter83:EnT Tryz.prog 83 21 ac83 rs83:=Ent pl83 mixed Tryz.func83
def ac84:ACode:=Js [Jo 4 (.box 147 0 (.t 0)),Jo 5 (.box 25 0 (.t 1)),Jo 8 (.mov (Jk 0))] [2,3,4,5] (.scope0 (.seq .skip (.seq (Js [Jf 13 2 5,Jl 14 13,Jv 15 14,Jo 16 (.mov (Jk 0))] [2,3,4,14,15,16] (.block 0 (.loop (Js [Jb 17 .lss 16 15] [2,3,4,14,15,16,17] (.seq (.cond (.t 17) .skip (.exit 0)) (.seq (.block 1 (Js [Jm 18 16,Ji 19 5 14 16,Jo 20 (.load (some 5) (.t 19)),Jo 10 (.alloc 76 0 [Jn 0,Jn 0,Jn 0,Jn 0,Jn 0]),Jm 9 18,⟨none,none,.store 5 (.t 10) (.t 20)⟩] [2,3,4,9,10,14,15,16] (Js [Jo 22 (.load (some 5) (.t 4)),Jm 23 2,Jo 24 (.load (some 5) (.t 10)),Jo 25 (Jc 148 [.t 22,.t 23,.t 24]),Jm 21 25,Je 26 21 0,Je 27 21 1,Jo 11 (.alloc 48 0 [.bool false,.seq 0 [] true]),⟨none,none,.store 2 (.t 11) (.t 26)⟩,Jm 12 27] [2,3,4,9,10,11,12,14,15,16] (.seq (Js [Jm 28 12,Jo 29 (.un .not (.t 28))] [2,3,4,9,10,11,14,15,16,29] (.cond (.t 29) (Js [Jm 30 9,Jm 8 30] [8] .ret) .skip)) (Js [Jm 31 2,Jf 32 1 10,Jl 33 32,Jo 34 (.load (some 2) (.t 11)),Ji 35 2 31 33,⟨none,none,.store 2 (.t 35) (.t 34)⟩] [2,3,4,9,11,14,15,16] (Js [Jm 36 3,Jm 37 9,Jo 38 (.load (some 2) (.t 11)),Jo 39 (.call (.t 36) [.t 37,.t 38]),Jo 40 (.un .not (.t 39))] [2,3,4,14,15,16,40] (.cond (.t 40) (.exit 0) .skip))))))) (.reg [Jo 41 (.bin .add (.t 16) (Jk 1)),Jm 16 41] [2,3,4,14,15,16]))))))) (Js [Jo 8 (.mov (.k (.int .i64 (-1))))] [8] .ret))))
def rs84:List RV:=[.t 8]
theorem enter84:EnT Tryz.prog 84 42 ac84 rs84:=Ent pl84 mixed Tryz.func84
def ac85:ACode:=Js [Jo 0 (.alloc 147 0 [.nilF,.nilF,.nilF,.nilF,.nilF])] [0] (Js [Jo 1 (.build [.nilF,.nilF,.nilF,.nilF,.nilF] [(0,1,.k (.fn (.func 149) [] [])),(1,1,.k (.fn (.func 138) [] [])),(2,1,.k (.fn (.func 150) [] [])),(3,1,.k (.fn (.func 121) [] [])),(4,1,.k (.fn (.func 151) [] []))]),⟨none,none,.store 5 (.t 0) (.t 1)⟩] [0] .ret)
def rs85:List RV:=[.cell 0 (some 5)]
theorem enter85:EnT Tryz.prog 85 2 ac85 rs85:=Ent pl85 mixed Tryz.func85
def ac86:ACode:=Js [Jo 3 (.box 48 0 (.t 1)),Jo 4 (.mov (.k (.bool false)))] [] (Js [Jo 4 (.mov (.k (.bool true)))] [4] .ret)
def rs86:List RV:=[.t 4]
theorem enter86:EnT Tryz.prog 86 5 ac86 rs86:=Ent pl86 mixed Tryz.func86
def ac94:ACode:=Js [Jo 0 (.alloc 25 0 [Jn 0,Jn 0,.seq 0 [] true,.seq 0 [] true])] [0] (Js [Jo 1 (.build [Jn 0,Jn 0,Jn 0,Jn 0,Jn 0] [(0,1,Jk 4),(1,1,Jk 2),(2,1,Jk 0),(3,1,Jk 1)]),Jo 2 (.build [Jn 0,Jn 0,Jn 0,Jn 0,Jn 0] [(0,1,Jk 6),(1,1,Jk 2),(2,1,Jk 2),(4,1,Jk 2)]),Jo 3 (.bsl [Jn 0,Jn 0,Jn 0,Jn 0,Jn 0] 2 5 [(0,5,.t 1),(5,5,.t 2)]),Jo 4 (.bsl [Jn 0] 2 1 [(0,1,Jk 2),(1,1,Jk 0)]),Jo 5 (.build [Jn 0,Jn 0,.seq 0 [] true,.seq 0 [] true] [(0,1,Jk 2),(1,1,Jk 3),(2,1,.t 3),(3,1,.t 4)]),⟨none,none,.store 4 (.t 0) (.t 5)⟩] [0] .ret)
def rs94:List RV:=[.cell 0 (some 4)]
theorem enter94:EnT Tryz.prog 94 6 ac94 rs94:=Ent pl94 mixed Tryz.func94
def ac97:ACode:=Js [Jo 6 (.mov (.k (.bool false)))] [0,1,2] (.seq (Js [Jm 10 0,Jv 11 10,Jm 12 1,Jv 13 12,Jb 14 .neq 11 13] [0,1,2,14] (.cond (.t 14) (Js [Jo 6 (.mov (.k (.bool false)))] [6] .ret) .skip)) (.seq (Js [Jm 15 0,Jv 16 15,Jo 17 (.mov (Jk 0))] [1,2,15,16,17] (.block 0 (.loop (Js [Jb 18 .lss 17 16] [1,2,15,16,17,18] (.seq (.cond (.t 18) .skip (.exit 0)) (.seq (.block 1 (Js [Jm 19 17,Ji 20 1 15 17,Jl 21 20,Jm 7 19,Jm 8 21] [1,2,7,8,15,16,17] (Js [Jm 22 1,Jm 23 7,Ji 24 1 22 23,Jl 25 24,Jm 9 25] [1,2,8,9,15,16,17] (Js [Jm 26 2,Jm 27 8,Jm 28 9,Jo 29 (.call (.t 26) [.t 27,.t 28]),Jo 30 (.un .not (.t 29))] [1,2,15,16,17,30] (.cond (.t 30) (Js [Jo 6 (.mov (.k (.bool false)))] [6] .ret) .skip))))) (.reg [Jo 31 (.bin .add (.t 17) (Jk 1)),Jm 17 31] [1,2,15,16,17]))))))) (Js [Jo 6 (.mov (.k (.bool true)))] [6] .ret)))
def rs97:List RV:=[.t 6]
theorem enter97:EnT Tryz.prog 97 32 ac97 rs97:=Ent pl97 mixed Tryz.func97
def ac98:ACode:=Js [Jo 4 (.alloc 48 0 [.bool false,.seq 0 [] true])] [0,1,4] (Js [Jm 5 0,Jm 6 1,Jo 7 (Jc 162 [.t 6]),Jo 8 (Jc 161 [.t 5,.t 7]),⟨none,none,.store 2 (.t 4) (.t 8)⟩] [4] .ret)
def rs98:List RV:=[.cell 4 (some 2)]
theorem enter98:EnT Tryz.prog 98 9 ac98 rs98:=Ent pl98 mixed Tryz.func98
def ac99:ACode:=Js [Jo 1 (.box 25 0 (.t 0)),Jo 2 (.mov (Jk 0)),Jo 3 (.mov (Jk 0))] [1] (.seq (Js [Jf 8 0 1,Jl 9 8,Jo 10 (.bin .lss (.t 9) (Jk 1)),Jm 11 10,⟨some 12,some (11,false),.fldA 0 (.t 1)⟩,⟨some 13,some (11,false),.load none (.t 12)⟩,⟨some 14,some (11,false),.fldA 1 (.t 1)⟩,⟨some 15,some (11,false),.load none (.t 14)⟩,⟨some 16,some (11,false),.bin .gtr (.t 13) (.t 15)⟩,Jo 17 (.pick (.t 11) (.k (.bool true)) (.t 16)),Jm 18 17,⟨some 19,some (18,false),.fldA 1 (.t 1)⟩,⟨some 20,some (18,false),.load none (.t 19)⟩,⟨some 21,some (18,false),.bin .gtr (.t 20) (Jk 128)⟩,Jo 22 (.pick (.t 18) (.k (.bool true)) (.t 21)),Jm 23 22,⟨some 24,some (23,false),.fldA 2 (.t 1)⟩,⟨some 25,some (23,false),.load none (.t 24)⟩,⟨some 26,some (23,false),.len false (.t 25)⟩,⟨some 27,some (23,false),.bin .gtr (.t 26) (Jk 16384)⟩,Jo 28 (.pick (.t 23) (.k (.bool true)) (.t 27)),Jm 29 28,⟨some 30,some (29,false),.fldA 3 (.t 1)⟩,⟨some 31,some (29,false),.load none (.t 30)⟩,⟨some 32,some (29,false),.len false (.t 31)⟩,⟨some 33,some (29,false),.bin .lss (.t 32) (Jk 1)⟩,Jo 34 (.pick (.t 29) (.k (.bool true)) (.t 33)),Jm 35 34,⟨some 36,some (35,false),.fldA 3 (.t 1)⟩,⟨some 37,some (35,false),.load none (.t 36)⟩,⟨some 38,some (35,false),.len false (.t 37)⟩,⟨some 39,some (35,false),.bin .gtr (.t 38) (Jk 128)⟩,Jo 40 (.pick (.t 35) (.k (.bool true)) (.t 39))] [1,40] (.cond (.t 40) (Js [Jo 2 (.mov (.k (.int .i64 (-1)))),Jo 3 (.mov (Jk 80))] [2,3] .ret) .skip)) (.seq (Js [Jf 41 3 1,Jl 42 41,Jv 43 42,Jo 44 (.mov (Jk 0))] [1,42,43,44] (.block 0 (.loop (Js [Jb 45 .lss 44 43] [1,42,43,44,45] (.seq (.cond (.t 45) .skip (.exit 0)) (.seq (.block 1 (Js [Ji 46 1 42 44,Jl 47 46,Jm 5 47] [1,5,42,43,44] (Js [Jm 48 5,Jo 49 (.bin .lss (.t 48) (Jk 0)),Jm 50 49,⟨some 51,some (50,false),.mov (.t 5)⟩,⟨some 52,some (50,false),.fldA 1 (.t 1)⟩,⟨some 53,some (50,false),.load none (.t 52)⟩,⟨some 54,some (50,false),.bin .geq (.t 51) (.t 53)⟩,Jo 55 (.pick (.t 50) (.k (.bool true)) (.t 54))] [1,42,43,44,55] (.cond (.t 55) (Js [Jo 2 (.mov (.k (.int .i64 (-1)))),Jo 3 (.mov (Jk 80))] [2,3] .ret) .skip)))) (.reg [Jo 56 (.bin .add (.t 44) (Jk 1)),Jm 44 56] [1,42,43,44]))))))) (.seq (Js [Jf 57 2 1,Jl 58 57,Jv 59 58,Jo 60 (.mov (Jk 0))] [1,58,59,60] (.block 2 (.loop (Js [Jb 61 .lss 60 59] [1,58,59,60,61] (.seq (.cond (.t 61) .skip (.exit 2)) (.seq (.block 3 (Js [Jm 62 60,Ji 63 5 58 60,Jo 64 (.load (some 5) (.t 63)),Jo 7 (.alloc 76 0 [Jn 0,Jn 0,Jn 0,Jn 0,Jn 0]),Jm 6 62,⟨none,none,.store 5 (.t 7) (.t 64)⟩] [1,6,7,58,59,60] (Js [Jo 65 (.load (some 5) (.t 7)),Jf 66 1 1,Jl 67 66,Jo 68 (Jc 163 [.t 65,.t 67]),Jo 69 (.un .not (.t 68))] [1,6,58,59,60,69] (.cond (.t 69) (Js [Jm 70 6,Jm 2 70,Jo 3 (.mov (Jk 80))] [2,3] .ret) .skip)))) (.reg [Jo 71 (.bin .add (.t 60) (Jk 1)),Jm 60 71] [1,58,59,60]))))))) (Js [Jo 2 (.mov (Jk 0)),Jo 3 (.mov (Jk 0))] [2,3] .ret))))
def rs99:List RV:=[.t 2,.t 3]
theorem enter99:EnT Tryz.prog 99 72 ac99 rs99:=Ent pl99 mixed Tryz.func99
def ac100:ACode:=Js [Jo 1 (.box 25 0 (.t 0)),Jo 2 (.alloc 25 0 [Jn 0,Jn 0,.seq 0 [] true,.seq 0 [] true])] [1,2] (.seq (.draw [Jf 3 2 1,Jl 4 3,Jo 5 (Jc 164 [.t 4]),Jf 6 3 1,Jl 7 6,Jo 8 (Jc 165 [.t 7]),Jf 9 2 1] [⟨none,none,.store 1 (.t 9) (.t 5)⟩,Jf 10 3 1,⟨none,none,.store 1 (.t 10) (.t 8)⟩] [0,0,0,7,7,0,32] [1,2]) (Js [Jo 11 (.load (some 4) (.t 1)),⟨none,none,.store 4 (.t 2) (.t 11)⟩] [2] .ret))
def rs100:List RV:=[.cell 2 (some 4)]
theorem enter100:EnT Tryz.prog 100 12 ac100 rs100:=Ent pl100 mixed Tryz.func100
def ac101:ACode:=Js [Jo 2 (.mov (.k (.seq 0 [] true)))] [0] (.seq (Js [Jm 3 0,Jo 4 (.nilS false (.t 3))] [0,4] (.cond (.t 4) (Js [Jo 2 (.mov (.k (.seq 0 [] true)))] [2] .ret) .skip)) (Js [Jo 5 (.bsl [.bool false,.seq 0 [] true] 0 2 []),Jm 6 0,Jo 7 (.app 48 2 32 (.t 5) (.t 6)),Jm 2 7] [2] .ret))
def rs101:List RV:=[.t 2]
theorem enter101:EnT Tryz.prog 101 8 ac101 rs101:=Ent pl101 mixed Tryz.func101
def ac102:ACode:=Js [Jo 1 (.box 76 0 (.t 0)),Jo 2 (.mov (.k .nilF))] [1] (Js [Jo 3 (.mov (.k (.fn (.func 166) [] [])))] [1,3] (.seq (Js [Jf 4 0 1,Jl 5 4] [1,3,5] (.block 0 (Js [Jo 7 (.bin .eql (.t 5) (Jk 2)),Jm 6 7] [1,3,5,6] (.cond (.t 6) (Js [Jm 8 3,Jo 9 (.call (.t 8) [.k (.fn (.func 168) [] [])]),Jm 2 9] [2] .ret) (Js [Jo 11 (.bin .eql (.t 5) (Jk 3)),Jm 10 11] [1,3,5,10] (.cond (.t 10) (Js [Jm 12 3,Jo 13 (.call (.t 12) [.k (.fn (.func 138) [] [])]),Jm 2 13] [2] .ret) (Js [Jo 15 (.bin .eql (.t 5) (Jk 4)),Jm 14 15] [1,3,5,14] (.cond (.t 14) (Js [Jm 16 3,Jo 17 (.call (.t 16) [.k (.fn (.func 150) [] [])]),Jm 2 17] [2] .ret) (Js [Jo 19 (.bin .eql (.t 5) (Jk 5)),Jm 18 19] [1,3,5,18] (.cond (.t 18) (Js [Jm 20 3,Jo 21 (.mkF (.func 169) [] [.t 1]),Jo 22 (.call (.t 20) [.t 21]),Jm 2 22] [2] .ret) (Js [Jo 24 (.bin .eql (.t 5) (Jk 6)),Jm 23 24] [1,3,5,23] (.cond (.t 23) (Js [Jo 25 (.mkF (.func 171) [] [.t 1]),Jm 2 25] [2] .ret) (Js [Jo 27 (.bin .eql (.t 5) (Jk 7)),Jm 26 27] [1,3,5,26] (.cond (.t 26) (Js [Jm 28 3,Jo 29 (.mkF (.func 173) [] [.t 1]),Jo 30 (.call (.t 28) [.t 29]),Jm 2 30] [2] .ret) (Js [Jo 32 (.bin .eql (.t 5) (Jk 8)),Jm 31 32] [1,3,31] (.cond (.t 31) (Js [Jo 33 (.mkF (.func 175) [] [.t 1]),Jm 2 33] [2] .ret) .skip)))))))))))))))) (Js [Jm 34 3,Jo 35 (.call (.t 34) [.k (.fn (.func 177) [] [])]),Jm 2 35] [2] .ret)))
def rs102:List RV:=[.t 2]
theorem enter102:EnT Tryz.prog 102 36 ac102 rs102:=Ent pl102 mixed Tryz.func102
def ac105:ACode:=Js [Jo 6 (.mov (.k (.bool false)))] [0,1,2] (.seq (Js [Jm 10 0,Jv 11 10,Jm 12 1,Jv 13 12,Jb 14 .neq 11 13] [0,1,2,14] (.cond (.t 14) (Js [Jo 6 (.mov (.k (.bool false)))] [6] .ret) .skip)) (.seq (Js [Jm 15 0,Jv 16 15,Jo 17 (.mov (Jk 0))] [1,2,15,16,17] (.block 0 (.loop (Js [Jb 18 .lss 17 16] [1,2,15,16,17,18] (.seq (.cond (.t 18) .skip (.exit 0)) (.seq (.block 1 (Js [Jm 19 17,Ji 20 2 15 17,Jo 21 (.load (some 2) (.t 20)),Jo 8 (.alloc 48 0 [.bool false,.seq 0 [] true]),Jm 7 19,⟨none,none,.store 2 (.t 8) (.t 21)⟩] [1,2,7,8,15,16,17] (Js [Jm 22 1,Jm 23 7,Ji 24 2 22 23,Jo 25 (.load (some 2) (.t 24)),Jo 9 (.alloc 44 0 [.bool false,.seq 0 [] true]),⟨none,none,.store 2 (.t 9) (.t 25)⟩] [1,2,8,9,15,16,17] (Js [Jm 26 2,Jo 27 (.load (some 2) (.t 8)),Jo 28 (.load (some 2) (.t 9)),Jo 29 (.call (.t 26) [.t 27,.t 28]),Jo 30 (.un .not (.t 29))] [1,2,15,16,17,30] (.cond (.t 30) (Js [Jo 6 (.mov (.k (.bool false)))] [6] .ret) .skip))))) (.reg [Jo 31 (.bin .add (.t 17) (Jk 1)),Jm 17 31] [1,2,15,16,17]))))))) (Js [Jo 6 (.mov (.k (.bool true)))] [6] .ret)))
def rs105:List RV:=[.t 6]
theorem enter105:EnT Tryz.prog 105 32 ac105 rs105:=Ent pl105 mixed Tryz.func105
def ac106:ACode:=Js [Jo 2 (.box 48 0 (.t 0)),Jo 3 (.box 44 0 (.t 1)),Jo 4 (.mov (.k (.bool false)))] [2,3] (.seq (.draw [Jo 5 (.load (some 2) (.t 2)),Jo 6 (Jc 67 [.t 5]),Jo 7 (.load (some 2) (.t 3))] [Jo 8 (Jc 68 [.t 7]),Jb 9 .eql 6 8,Jm 4 9] [0,0,3] [4]) .ret)
def rs106:List RV:=[.t 4]
theorem enter106:EnT Tryz.prog 106 10 ac106 rs106:=Ent pl106 mixed Tryz.func106
def ac108:ACode:=Js [Jo 4 (.mov (Jk 0))] [0,1] (Js [Jm 6 0,Jo 7 (Jc 178 [.t 6]),Jm 8 1,Jo 9 (Jc 178 [.t 8]),Jm 0 7,Jm 1 9] [0,1] (.seq (.block 0 (Js [Jm 11 0,Jv 12 11,Jm 13 1,Jv 14 13,Jb 15 .lss 12 14,Jm 10 15] [0,1,10] (.cond (.t 10) (Js [Jo 4 (.mov (.k (.int .i64 (-1))))] [4] .ret) (Js [Jm 17 0,Jv 18 17,Jm 19 1,Jv 20 19,Jb 21 .gtr 18 20,Jm 16 21] [0,1,16] (.cond (.t 16) (Js [Jo 4 (.mov (Jk 1))] [4] .ret) .skip))))) (.seq (Js [Jm 22 0,Jv 23 22,Jo 24 (.bin .sub (.t 23) (Jk 1)),Jm 5 24] [0,1,5] (.block 1 (.loop (.seq (Js [Jm 25 5,Jo 26 (.bin .geq (.t 25) (Jk 0))] [0,1,5,26] (.cond (.t 26) .skip (.exit 1))) (.seq (.block 2 (.block 3 (.seq (.draw [Jm 30 0,Jm 31 5,Ji 32 1 30 31,Jl 33 32,Jm 34 1,Jm 35 5,Ji 36 1 34 35,Jl 37 36] [Jb 38 .lss 33 37,Jm 29 38] [0,1,0,0,15,31,15,15] [0,1,5,29]) (.cond (.t 29) (Js [Jo 4 (.mov (.k (.int .i64 (-1))))] [4] .ret) (.seq (.draw [Jm 40 0,Jm 41 5,Ji 42 1 40 41,Jl 43 42,Jm 44 1,Jm 45 5,Ji 46 1 44 45,Jl 47 46] [Jb 48 .gtr 43 47,Jm 39 48] [0,1,0,0,15,31,15,15] [0,1,5,39]) (.cond (.t 39) (Js [Jo 4 (.mov (Jk 1))] [4] .ret) .skip)))))) (.reg [Jm 27 5,Jo 28 (.bin .sub (.t 27) (Jk 1)),Jm 5 28] [0,1,5])))))) (Js [Jo 4 (.mov (Jk 0))] [4] .ret))))
def rs108:List RV:=[.t 4]
theorem enter108:EnT Tryz.prog 108 49 ac108 rs108:=Ent pl108 mixed Tryz.func108
def ac121:ACode:=Js [Jo 2 (.box 48 0 (.t 0)),Jo 3 (.box 48 0 (.t 1)),Jo 4 (.alloc 48 0 [.bool false,.seq 0 [] true])] [2,3,4] (.seq (.draw [Jf 5 0 2,Jl 6 5,Jf 7 0 3,Jl 8 7,Jo 9 (.binB .neq (.t 6) (.t 8)),Jf 10 1 2,Jl 11 10,Jf 12 1 3,Jl 13 12,Jo 14 (Jc 194 [.t 11,.t 13])] [Jo 15 (Jc 161 [.t 9,.t 14]),⟨none,none,.store 2 (.t 4) (.t 15)⟩] [0,0,3,3,0,31,31,127,127,31] [4]) .ret)
def rs121:List RV:=[.cell 4 (some 2)]
theorem enter121:EnT Tryz.prog 121 16 ac121 rs121:=Ent pl121 mixed Tryz.func121
def ac133:ACode:=Js [Jo 2 (.mov (.k .nilF))] [0] (Js [Jm 4 0,Jo 5 (Jc 197 [.t 4]),Jo 3 (.alloc 9 0 [.str ⟨#[]⟩]),⟨none,none,.store 1 (.t 3) (.t 5)⟩] [3] (Js [Jo 6 (.mkF (.func 198) [] [.t 3]),Jm 2 6] [2] .ret))
def rs133:List RV:=[.t 2]
theorem enter133:EnT Tryz.prog 133 7 ac133 rs133:=Ent pl133 mixed Tryz.func133
def ac134:ACode:=Js [Jo 4 (.mov (.k (.seq 0 [] true))),Jo 5 (.mov (.k (.seq 0 [] true)))] [0,1] (.seq (Js [Jm 14 1,Jv 15 14,Jo 16 (.bin .eql (.t 15) (Jk 1))] [0,1,16] (.cond (.t 16) (Js [Jm 17 0,Jv 18 17,Jo 19 (.mks 168 1 4 [.int .u32 ((0:Nat):Int)] (.t 18) (.t 18)),Jm 6 19] [0,1,6] (Js [Jo 7 (.mov (.k (.int .u64 ((0:Nat):Int))))] [0,1,6,7] (.seq (Js [Jm 20 0,Jv 21 20,Jo 22 (.bin .sub (.t 21) (Jk 1)),Jm 8 22] [0,1,6,7,8] (.block 0 (.loop (.seq (Js [Jm 23 8,Jo 24 (.bin .geq (.t 23) (Jk 0))] [0,1,6,7,8,24] (.cond (.t 24) .skip (.exit 0))) (.seq (.block 1 (Js [Jm 27 7,Jo 28 (.bin .mul (.t 27) (.k (.int .u64 ((65536:Nat):Int)))),Jm 29 0,Jm 30 8,Ji 31 1 29 30,Jl 32 31,Jo 33 (.conv .u64 (.t 32)),Jb 34 .add 28 33,Jm 7 34] [0,1,6,7,8] (Js [Jm 35 6,Jm 36 8,Jm 37 7,Jm 38 1,Jo 39 (.idxA 1 (.t 38) (Jk 0)),Jl 40 39,Jo 41 (.conv .u64 (.t 40)),Jb 42 .quo 37 41,Jo 43 (.conv .u32 (.t 42)),Ji 44 1 35 36,⟨none,none,.store 1 (.t 44) (.t 43)⟩] [0,1,6,7,8] (.reg [Jm 45 7,Jm 46 1,Jo 47 (.idxA 1 (.t 46) (Jk 0)),Jl 48 47,Jo 49 (.conv .u64 (.t 48)),Jb 50 .rem 45 49,Jm 7 50] [0,1,6,7,8])))) (.reg [Jm 25 8,Jo 26 (.bin .sub (.t 25) (Jk 1)),Jm 8 26] [0,1,6,7,8])))))) (Js [Jm 51 6,Jo 52 (Jc 147 [.k (.bool false),.t 51]),Jo 53 (.fld 1 none (.t 52)),Jm 54 7,Jo 55 (.conv .u32 (.t 54)),Jo 56 (.bsl [.int .u32 ((0:Nat):Int)] 1 1 [(0,1,.t 55)]),Jo 57 (Jc 147 [.k (.bool false),.t 56]),Jo 58 (.fld 1 none (.t 57)),Jm 4 53,Jm 5 58] [4,5] .ret)))) .skip)) (Js [Jm 59 0,Jv 60 59,Jo 61 (.mks 168 1 4 [.int .u32 ((0:Nat):Int)] (.t 60) (.t 60)),Jm 9 61] [0,1,9] (Js [Jo 10 (.mov (.k (.seq 0 [] true)))] [0,1,9,10] (.seq (Js [Jm 62 0,Jo 63 (Jc 199 [.t 62]),Jo 64 (.bin .sub (.t 63) (Jk 1)),Jm 11 64] [0,1,9,10,11] (.block 2 (.loop (.seq (Js [Jm 65 11,Jo 66 (.bin .geq (.t 65) (Jk 0))] [0,1,9,10,11,66] (.cond (.t 66) .skip (.exit 2))) (.seq (.block 3 (Js [Jm 69 0,Jm 70 11,Jo 71 (Jc 200 [.t 69,.t 70]),Jm 12 71] [0,1,9,10,11,12] (.seq (Js [Jo 13 (.mov (Jk 0))] [0,1,9,10,11,12,13] (.block 4 (.loop (.seq (Js [Jm 72 13,Jm 73 10,Jv 74 73,Jb 75 .lss 72 74] [0,1,9,10,11,12,13,75] (.cond (.t 75) .skip (.exit 4))) (.seq (.block 5 (Js [Jm 78 12,Jm 79 10,Jm 80 13,Ji 81 1 79 80,Jl 82 81,Jo 83 (.bin .mul (.k (.int .u32 ((2:Nat):Int))) (.t 82)),Jb 84 .add 78 83,Jm 12 84] [0,1,9,10,11,12,13] (Js [Jm 85 10,Jm 86 13,Jm 87 12,Jo 88 (.bin .rem (.t 87) (.k (.int .u32 ((65536:Nat):Int)))),Ji 89 1 85 86,⟨none,none,.store 1 (.t 89) (.t 88)⟩] [0,1,9,10,11,12,13] (.reg [Jm 90 12,Jo 91 (.bin .quo (.t 90) (.k (.int .u32 ((65536:Nat):Int)))),Jm 12 91] [0,1,9,10,11,12,13])))) (.reg [Jm 76 13,Jo 77 (.bin .add (.t 76) (Jk 1)),Jm 13 77] [0,1,9,10,11,12,13])))))) (.seq (Js [Jm 92 12,Jo 93 (.bin .gtr (.t 92) (.k (.int .u32 ((0:Nat):Int))))] [0,1,9,10,11,12,93] (.cond (.t 93) (.reg [Jm 94 10,Jm 95 12,Jo 96 (.bsl [.int .u32 ((0:Nat):Int)] 1 1 [(0,1,.t 95)]),Jo 97 (.app 168 1 4 (.t 94) (.t 96)),Jm 10 97] [0,1,9,10,11]) .skip)) (Js [Jm 98 10,Jm 99 1,Jo 100 (Jc 191 [.t 98,.t 99]),Jo 101 (.bin .geq (.t 100) (Jk 0))] [0,1,9,10,11,101] (.cond (.t 101) (Js [Jm 102 10,Jm 103 1,Jo 104 (Jc 201 [.t 102,.t 103]),Jo 105 (Jc 147 [.k (.bool false),.t 104]),Jo 106 (.fld 1 none (.t 105)),Jm 10 106] [0,1,9,10,11] (.draw [Jm 107 9,Jm 108 11,Jo 109 (.bin .quo (.t 108) (Jk 16)),Jm 110 9,Jm 111 11,Jo 112 (.bin .quo (.t 111) (Jk 16)),Ji 113 1 110 112,Jl 114 113,Jm 115 11,Jo 116 (.bin .rem (.t 115) (Jk 16)),Jo 117 (.bin .shl (.k (.int .u32 ((1:Nat):Int))) (.t 116)),Jb 118 .or 114 117] [Ji 119 1 107 109,⟨none,none,.store 1 (.t 119) (.t 118)⟩] [0,1,1,7,15,15,7,7,255,255,255,7] [0,1,9,10,11])) .skip)))))) (.reg [Jm 67 11,Jo 68 (.bin .sub (.t 67) (Jk 1)),Jm 11 68] [0,1,9,10,11])))))) (Js [Jm 120 9,Jo 121 (Jc 147 [.k (.bool false),.t 120]),Jo 122 (.fld 1 none (.t 121)),Jm 123 10,Jm 4 122,Jm 5 123] [4,5] .ret)))))
def rs134:List RV:=[.t 4,.t 5]
theorem enter134:EnT Tryz.prog 134 124 ac134 rs134:=Ent pl134 mixed Tryz.func134
def ac138:ACode:=Js [Jo 2 (.box 48 0 (.t 0)),Jo 3 (.box 48 0 (.t 1)),Jo 4 (.alloc 48 0 [.bool false,.seq 0 [] true])] [2,3,4] (.seq (Js [Jf 7 0 2,Jl 8 7,Jf 9 0 3,Jl 10 9,Jo 11 (.binB .eql (.t 8) (.t 10))] [2,3,4,11] (.cond (.t 11) (.seq (.draw [Jf 12 0 2,Jl 13 12,Jf 14 1 2,Jl 15 14,Jf 16 1 3,Jl 17 16,Jo 18 (Jc 204 [.t 15,.t 17])] [Jo 19 (Jc 161 [.t 13,.t 18]),⟨none,none,.store 2 (.t 4) (.t 19)⟩] [0,0,3,3,15,15,3] [4]) .ret) .skip)) (.seq (Js [Jf 20 1 2,Jl 21 20,Jf 22 1 3,Jl 23 22,Jo 24 (Jc 108 [.t 21,.t 23]),Jo 25 (.bin .lss (.t 24) (Jk 0))] [2,3,4,25] (.cond (.t 25) (.reg [Jo 26 (.load (some 2) (.t 3)),Jo 27 (.load (some 2) (.t 2)),⟨none,none,.store 2 (.t 2) (.t 26)⟩,⟨none,none,.store 2 (.t 3) (.t 27)⟩] [2,3,4]) .skip)) (Js [Jf 29 1 2,Jl 30 29,Jf 31 1 3,Jl 32 31,Jo 33 (Jc 205 [.t 30,.t 32]),Jm 28 33,Je 34 28 0,Je 35 28 1,Jm 5 34,Jm 6 35] [2,4,5] (Js [Jf 36 0 2,Jl 37 36,Jm 38 5,Jo 39 (Jc 161 [.t 37,.t 38]),⟨none,none,.store 2 (.t 4) (.t 39)⟩] [4] .ret))))
def rs138:List RV:=[.cell 4 (some 2)]
theorem enter138:EnT Tryz.prog 138 40 ac138 rs138:=Ent pl138 mixed Tryz.func138
def ac147:ACode:=Js [Jo 4 (.alloc 44 0 [.bool false,.seq 0 [] true])] [0,1,4] (Js [Jm 6 1,Jv 7 6,Jm 5 7] [0,1,4,5] (.seq (.block 0 (.loop (.seq (Js [Jm 8 5,Jo 9 (.bin .gtr (.t 8) (Jk 0)),Jm 10 9,⟨some 11,some (10,true),.mov (.t 1)⟩,⟨some 12,some (10,true),.mov (.t 5)⟩,⟨some 13,some (10,true),.bin .sub (.t 12) (Jk 1)⟩,⟨some 14,some (10,true),.idxA 1 (.t 11) (.t 13)⟩,⟨some 15,some (10,true),.load none (.t 14)⟩,⟨some 16,some (10,true),.bin .eql (.t 15) (.k (.int .u32 ((0:Nat):Int)))⟩,Jo 17 (.pick (.t 10) (.t 16) (.k (.bool false)))] [0,1,4,5,17] (.cond (.t 17) .skip (.exit 0))) (.block 1 (.reg [Jm 18 5,Jo 19 (.bin .sub (.t 18) (Jk 1)),Jm 5 19] [0,1,4,5]))))) (Js [Jm 20 0,Jm 21 20,⟨some 22,some (21,true),.mov (.t 5)⟩,⟨some 23,some (21,true),.bin .gtr (.t 22) (Jk 0)⟩,Jo 24 (.pick (.t 21) (.t 23) (.k (.bool false))),Jm 25 1,Jm 26 5,Jo 27 (.slc 1 (.t 25) none (some (.t 26)) none),Jo 28 (.build [.bool false,.seq 0 [] true] [(0,1,.t 24),(1,1,.t 27)]),⟨none,none,.store 2 (.t 4) (.t 28)⟩] [4] .ret)))
def rs147:List RV:=[.cell 4 (some 2)]
theorem enter147:EnT Tryz.prog 147 29 ac147 rs147:=Ent pl147 mixed Tryz.func147
def ac148:ACode:=Js [Jo 3 (.box 147 0 (.t 0)),Jo 5 (.box 76 0 (.t 2)),Jo 6 (.alloc 48 0 [.bool false,.seq 0 [] true]),Jo 7 (.mov (.k (.bool false)))] [1,3,5,6] (.seq (.draw [Jm 10 1,Jf 11 2 5,Jl 12 11,Ji 13 2 10 12,Jo 14 (.load (some 2) (.t 13)),Jm 15 1,Jf 16 3 5,Jl 17 16,Ji 18 2 15 17,Jo 19 (.load (some 2) (.t 18)),Jo 8 (.alloc 48 0 [.bool false,.seq 0 [] true]),Jo 9 (.alloc 48 0 [.bool false,.seq 0 [] true]),⟨none,none,.store 2 (.t 8) (.t 14)⟩] [⟨none,none,.store 2 (.t 9) (.t 19)⟩] [0,1,1,0,0,31,63,63,31,31,1023,2047,992] [3,5,6,8,9]) (.seq (Js [Jf 20 0 5,Jl 21 20] [3,5,6,8,9,21] (.block 0 (Js [Jo 23 (.bin .eql (.t 21) (Jk 2)),Jm 22 23] [3,5,6,8,9,21,22] (.cond (.t 22) (Js [Jf 24 0 3,Jl 25 24,Jo 26 (.load (some 2) (.t 8)),Jo 27 (.call (.t 25) [.t 26]),⟨none,none,.store 2 (.t 6) (.t 27)⟩,Jo 7 (.mov (.k (.bool true)))] [6,7] .ret) (Js [Jo 29 (.bin .eql (.t 21) (Jk 3)),Jm 28 29] [3,5,6,8,9,21,28] (.cond (.t 28) (Js [Jf 30 1 3,Jl 31 30,Jo 32 (.load (some 2) (.t 8)),Jo 33 (.load (some 2) (.t 9)),Jo 34 (.call (.t 31) [.t 32,.t 33]),⟨none,none,.store 2 (.t 6) (.t 34)⟩,Jo 7 (.mov (.k (.bool true)))] [6,7] .ret) (Js [Jo 36 (.bin .eql (.t 21) (Jk 4)),Jm 35 36] [3,5,6,8,9,21,35] (.cond (.t 35) (Js [Jf 37 2 3,Jl 38 37,Jo 39 (.load (some 2) (.t 8)),Jo 40 (.load (some 2) (.t 9)),Jo 41 (.call (.t 38) [.t 39,.t 40]),⟨none,none,.store 2 (.t 6) (.t 41)⟩,Jo 7 (.mov (.k (.bool true)))] [6,7] .ret) (Js [Jo 43 (.bin .eql (.t 21) (Jk 5)),Jm 42 43] [3,5,6,8,21,42] (.cond (.t 42) (.seq (.draw [Jf 44 3 3,Jl 45 44,Jo 46 (.load (some 2) (.t 8)),Jf 47 4 5,Jl 48 47,Jo 49 (Jc 31 [.t 48])] [Jo 50 (.call (.t 45) [.t 46,.t 49]),⟨none,none,.store 2 (.t 6) (.t 50)⟩,Jo 7 (.mov (.k (.bool true)))] [0,0,3,7,7,7] [6,7]) .ret) (Js [Jo 52 (.bin .eql (.t 21) (Jk 7)),Jm 51 52] [3,5,6,8,21,51] (.cond (.t 51) (.seq (.draw [Jf 53 3 3,Jl 54 53,Jo 55 (.load (some 2) (.t 8)),Jf 56 4 5,Jl 57 56,Jo 58 (Jc 212 [.t 57])] [Jo 59 (.call (.t 54) [.t 55,.t 58]),⟨none,none,.store 2 (.t 6) (.t 59)⟩,Jo 7 (.mov (.k (.bool true)))] [0,0,3,7,7,7] [6,7]) .ret) (Js [Jo 61 (.bin .eql (.t 21) (Jk 6)),Jm 60 61] [3,5,6,8,21,60] (.cond (.t 60) (.seq (.draw [Jf 62 4 3,Jl 63 62,Jo 64 (.load (some 2) (.t 8)),Jf 65 4 5,Jl 66 65,Jo 67 (Jc 31 [.t 66]),Jo 68 (.call (.t 63) [.t 64,.t 67]),Je 69 68 0,Je 70 68 1] [⟨none,none,.store 2 (.t 6) (.t 69)⟩,Jm 7 70] [0,0,3,7,7,7,0,0,128] [6,7]) .ret) (Js [Jo 72 (.bin .eql (.t 21) (Jk 8)),Jm 71 72] [3,5,6,8,71] (.cond (.t 71) (.seq (.draw [Jf 73 4 3,Jl 74 73,Jo 75 (.load (some 2) (.t 8)),Jf 76 4 5,Jl 77 76,Jo 78 (Jc 212 [.t 77]),Jo 79 (.call (.t 74) [.t 75,.t 78]),Je 80 79 0,Je 81 79 1] [⟨none,none,.store 2 (.t 6) (.t 80)⟩,Jm 7 81] [0,0,3,7,7,7,0,0,128] [6,7]) .ret) .skip)))))))))))))))) (Js [Jo 82 (.load (some 2) (.t 8)),⟨none,none,.store 2 (.t 6) (.t 82)⟩,Jo 7 (.mov (.k (.bool true)))] [6,7] .ret)))
def rs148:List RV:=[.cell 6 (some 2),.t 7]
theorem enter148:EnT Tryz.prog 148 83 ac148 rs148:=Ent pl148 mixed Tryz.func148
def ac149:ACode:=Js [Jo 1 (.box 48 0 (.t 0)),Jo 2 (.alloc 48 0 [.bool false,.seq 0 [] true])] [1,2] (Js [Jf 3 0 1,Jl 4 3,Jo 5 (.un .not (.t 4)),Jf 6 1 1,Jl 7 6,Jo 8 (Jc 161 [.t 5,.t 7]),⟨none,none,.store 2 (.t 2) (.t 8)⟩] [2] .ret)
def rs149:List RV:=[.cell 2 (some 2)]
theorem enter149:EnT Tryz.prog 149 9 ac149 rs149:=Ent pl149 mixed Tryz.func149
def ac150:ACode:=Js [Jo 2 (.box 48 0 (.t 0)),Jo 3 (.box 48 0 (.t 1)),Jo 4 (.alloc 48 0 [.bool false,.seq 0 [] true])] [2,3,4] (.seq (.draw [Jo 5 (.load (some 2) (.t 2)),Jo 6 (.load (some 2) (.t 3)),Jo 7 (Jc 149 [.t 6])] [Jo 8 (Jc 138 [.t 5,.t 7]),⟨none,none,.store 2 (.t 4) (.t 8)⟩] [0,1,1] [4]) .ret)
def rs150:List RV:=[.cell 4 (some 2)]
theorem enter150:EnT Tryz.prog 150 9 ac150 rs150:=Ent pl150 mixed Tryz.func150
def ac151:ACode:=Js [Jo 2 (.box 48 0 (.t 0)),Jo 3 (.box 48 0 (.t 1)),Jo 4 (.alloc 48 0 [.bool false,.seq 0 [] true]),Jo 5 (.mov (.k (.bool false)))] [2,3,4] (Js [Jo 10 (.load (some 2) (.t 2)),Jo 11 (.load (some 2) (.t 3)),Jo 12 (Jc 152 [.t 10,.t 11]),Jm 9 12,Je 13 9 0,Je 14 9 1,Je 15 9 2,Jo 6 (.alloc 48 0 [.bool false,.seq 0 [] true]),Jo 7 (.alloc 48 0 [.bool false,.seq 0 [] true]),⟨none,none,.store 2 (.t 6) (.t 13)⟩,⟨none,none,.store 2 (.t 7) (.t 14)⟩,Jm 8 15] [4,6,7] (.seq (.draw [Jo 16 (.load (some 2) (.t 6)),Jo 17 (.load (some 2) (.t 7)),Jo 18 (Jc 52 [.t 17]),Jo 19 (.bin .eql (.t 18) (Jk 0)),⟨none,none,.store 2 (.t 4) (.t 16)⟩] [Jm 5 19] [0,1,1,1,8] [4,5]) .ret))
def rs151:List RV:=[.cell 4 (some 2),.t 5]
theorem enter151:EnT Tryz.prog 151 20 ac151 rs151:=Ent pl151 mixed Tryz.func151
def ac152:ACode:=Js [Jo 2 (.box 48 0 (.t 0)),Jo 3 (.box 48 0 (.t 1)),Jo 4 (.alloc 48 0 [.bool false,.seq 0 [] true]),Jo 5 (.alloc 48 0 [.bool false,.seq 0 [] true]),Jo 6 (.mov (Jk 0))] [2,3,4,5] (Js [Jf 13 1 2,Jl 14 13,Jf 15 1 3,Jl 16 15,Jo 17 (Jc 213 [.t 14,.t 16]),Jm 12 17,Je 18 12 0,Je 19 12 1,Je 20 12 2,Jm 7 18,Jm 8 19,Jm 9 20] [2,3,4,5,7,8,9] (.seq (Js [Jm 21 9,Jo 22 (.bin .neq (.t 21) (Jk 0))] [2,3,4,5,7,8,22] (.cond (.t 22) (Js [Jo 23 (.build [.bool false,.seq 0 [] true] []),Jo 24 (.build [.bool false,.seq 0 [] true] []),⟨none,none,.store 2 (.t 4) (.t 23)⟩,⟨none,none,.store 2 (.t 5) (.t 24)⟩,Jo 6 (.mov (Jk 2))] [4,5,6] .ret) .skip)) (.seq (.draw [Jf 25 0 2,Jl 26 25,Jf 27 0 3,Jl 28 27,Jo 29 (.binB .neq (.t 26) (.t 28)),Jm 30 7,Jo 31 (Jc 161 [.t 29,.t 30]),Jf 32 0 2,Jl 33 32,Jm 34 8,Jo 35 (Jc 161 [.t 33,.t 34]),Jo 10 (.alloc 48 0 [.bool false,.seq 0 [] true]),Jo 11 (.alloc 48 0 [.bool false,.seq 0 [] true])] [⟨none,none,.store 2 (.t 10) (.t 31)⟩,⟨none,none,.store 2 (.t 11) (.t 35)⟩] [0,0,3,3,0,31,0,127,127,511,0,2047,4095] [3,4,5,10,11]) (.seq (Js [Jf 36 0 11,Jl 37 36] [3,4,5,10,11,37] (.cond (.t 37) (.seq (.draw [Jo 38 (.load (some 2) (.t 11)),Jo 39 (.load (some 2) (.t 3)),Jo 40 (Jc 188 [.t 39])] [Jo 41 (Jc 138 [.t 38,.t 40]),⟨none,none,.store 2 (.t 11) (.t 41)⟩] [0,1,1] [3,4,5,10,11]) (.draw [Jo 42 (.load (some 2) (.t 10)),Jo 43 (.load (some 2) (.t 3)),Jo 44 (Jc 52 [.t 43]),Jo 45 (Jc 31 [.t 44])] [Jo 46 (Jc 150 [.t 42,.t 45]),⟨none,none,.store 2 (.t 10) (.t 46)⟩] [0,1,1,1] [4,5,10,11])) .skip)) (.seq (.draw [Jo 47 (.load (some 2) (.t 10)),Jo 48 (.load (some 2) (.t 11)),⟨none,none,.store 2 (.t 4) (.t 47)⟩] [⟨none,none,.store 2 (.t 5) (.t 48)⟩,Jo 6 (.mov (Jk 0))] [0,1,2] [4,5,6]) .ret)))))
def rs152:List RV:=[.cell 4 (some 2),.cell 5 (some 2),.t 6]
theorem enter152:EnT Tryz.prog 152 49 ac152 rs152:=Ent pl152 mixed Tryz.func152
def ac161:ACode:=Js [Jo 4 (.alloc 48 0 [.bool false,.seq 0 [] true])] [0,1,4] (Js [Jm 5 0,Jm 6 5,⟨some 7,some (6,true),.mov (.t 1)⟩,⟨some 8,some (6,true),.len false (.t 7)⟩,⟨some 9,some (6,true),.bin .gtr (.t 8) (Jk 0)⟩,Jo 10 (.pick (.t 6) (.t 9) (.k (.bool false))),Jm 11 1,Jo 12 (.build [.bool false,.seq 0 [] true] [(0,1,.t 10),(1,1,.t 11)]),⟨none,none,.store 2 (.t 4) (.t 12)⟩] [4] .ret)
def rs161:List RV:=[.cell 4 (some 2)]
theorem enter161:EnT Tryz.prog 161 13 ac161 rs161:=Ent pl161 mixed Tryz.func161
def ac162:ACode:=Js [Jo 2 (.mov (.k (.seq 0 [] true)))] [0] (Js [Jm 4 0,Jo 5 (Jc 178 [.t 4]),Jm 0 5] [0] (Js [Jm 6 0,Jv 7 6,Jo 8 (.mks 168 1 4 [.int .u32 ((0:Nat):Int)] (.t 7) (.t 7)),Jm 3 8] [0,3] (Js [Jm 9 3,Jm 10 0,Jo 11 (.cpy 1 (.t 9) (.t 10))] [3] (Js [Jm 12 3,Jm 2 12] [2] .ret))))
def rs162:List RV:=[.t 2]
theorem enter162:EnT Tryz.prog 162 13 ac162 rs162:=Ent pl162 mixed Tryz.func162
def ac163:ACode:=Js [Jo 2 (.box 76 0 (.t 0)),Jo 4 (.mov (.k (.bool false)))] [1,2] (.seq (Js [Jf 7 0 2,Jl 8 7,Jo 9 (.bin .lss (.t 8) (Jk 1)),Jm 10 9,⟨some 11,some (10,false),.fldA 0 (.t 2)⟩,⟨some 12,some (10,false),.load none (.t 11)⟩,⟨some 13,some (10,false),.bin .gtr (.t 12) (Jk 8)⟩,Jo 14 (.pick (.t 10) (.k (.bool true)) (.t 13)),Jm 15 14,⟨some 16,some (15,false),.fldA 1 (.t 2)⟩,⟨some 17,some (15,false),.load none (.t 16)⟩,⟨some 18,some (15,false),.bin .lss (.t 17) (Jk 0)⟩,Jo 19 (.pick (.t 15) (.k (.bool true)) (.t 18)),Jm 20 19,⟨some 21,some (20,false),.fldA 1 (.t 2)⟩,⟨some 22,some (20,false),.load none (.t 21)⟩,⟨some 23,some (20,false),.mov (.t 1)⟩,⟨some 24,some (20,false),.bin .geq (.t 22) (.t 23)⟩,Jo 25 (.pick (.t 20) (.k (.bool true)) (.t 24)),Jm 26 25,⟨some 27,some (26,false),.fldA 0 (.t 2)⟩,⟨some 28,some (26,false),.load none (.t 27)⟩,⟨some 29,some (26,false),Jc 219 [.t 28]⟩,⟨some 30,some (26,false),.un .not (.t 29)⟩,⟨some 31,some (26,false),.mov (.t 30)⟩,⟨some 32,some (31,true),.fldA 3 (.t 2)⟩,⟨some 33,some (31,true),.load none (.t 32)⟩,⟨some 34,some (31,true),.bin .neq (.t 33) (Jk 0)⟩,⟨some 35,some (26,false),.pick (.t 31) (.t 34) (.k (.bool false))⟩,Jo 36 (.pick (.t 26) (.k (.bool true)) (.t 35)),Jm 37 36,⟨some 38,some (37,false),.load (some 5) (.t 2)⟩,⟨some 39,some (37,false),Jc 220 [.t 38]⟩,⟨some 40,some (37,false),.un .not (.t 39)⟩,Jo 41 (.pick (.t 37) (.k (.bool true)) (.t 40))] [1,2,41] (.cond (.t 41) (Js [Jo 4 (.mov (.k (.bool false)))] [4] .ret) .skip)) (.seq (Js [Jo 42 (.load (some 5) (.t 2)),Jo 43 (Jc 221 [.t 42]),Jv 44 43,Jo 45 (.mov (Jk 0))] [1,43,44,45] (.block 0 (.loop (Js [Jb 46 .lss 45 44] [1,43,44,45,46] (.seq (.cond (.t 46) .skip (.exit 0)) (.seq (.block 1 (Js [Ji 47 1 43 45,Jl 48 47,Jm 6 48] [1,6,43,44,45] (Js [Jm 49 6,Jo 50 (.bin .lss (.t 49) (Jk 0)),Jm 51 50,⟨some 52,some (51,false),.mov (.t 6)⟩,⟨some 53,some (51,false),.mov (.t 1)⟩,⟨some 54,some (51,false),.bin .geq (.t 52) (.t 53)⟩,Jo 55 (.pick (.t 51) (.k (.bool true)) (.t 54))] [1,43,44,45,55] (.cond (.t 55) (Js [Jo 4 (.mov (.k (.bool false)))] [4] .ret) .skip)))) (.reg [Jo 56 (.bin .add (.t 45) (Jk 1)),Jm 45 56] [1,43,44,45]))))))) (Js [Jo 4 (.mov (.k (.bool true)))] [4] .ret)))
def rs163:List RV:=[.t 4]
theorem enter163:EnT Tryz.prog 163 57 ac163 rs163:=Ent pl163 mixed Tryz.func163
def ac164:ACode:=Js [Jo 2 (.mov (.k (.seq 0 [] true)))] [0] (.seq (Js [Jm 3 0,Jo 4 (.nilS false (.t 3))] [0,4] (.cond (.t 4) (Js [Jo 2 (.mov (.k (.seq 0 [] true)))] [2] .ret) .skip)) (Js [Jo 5 (.bsl [Jn 0,Jn 0,Jn 0,Jn 0,Jn 0] 0 5 []),Jm 6 0,Jo 7 (.app 76 5 40 (.t 5) (.t 6)),Jm 2 7] [2] .ret))
def rs164:List RV:=[.t 2]
theorem enter164:EnT Tryz.prog 164 8 ac164 rs164:=Ent pl164 mixed Tryz.func164
def ac165:ACode:=Js [Jo 2 (.mov (.k (.seq 0 [] true)))] [0] (.seq (Js [Jm 3 0,Jo 4 (.nilS false (.t 3))] [0,4] (.cond (.t 4) (Js [Jo 2 (.mov (.k (.seq 0 [] true)))] [2] .ret) .skip)) (Js [Jo 5 (.bsl [Jn 0] 0 1 []),Jm 6 0,Jo 7 (.app 3 1 8 (.t 5) (.t 6)),Jm 2 7] [2] .ret))
def rs165:List RV:=[.t 2]
theorem enter165:EnT Tryz.prog 165 8 ac165 rs165:=Ent pl165 mixed Tryz.func165
def ac166:ACode:=Js [Jo 1 (.box 144 0 (.t 0)),Jo 2 (.mov (.k .nilF))] [1] (Js [Jo 3 (.mkF (.func 167) [] [.t 1]),Jm 2 3] [2] .ret)
def rs166:List RV:=[.t 2]
theorem enter166:EnT Tryz.prog 166 4 ac166 rs166:=Ent pl166 mixed Tryz.func166
def ac167:ACode:=Js [Jo 3 (.box 48 0 (.t 0)),Jo 4 (.box 48 0 (.t 1)),Jo 5 (.alloc 48 0 [.bool false,.seq 0 [] true]),Jo 6 (.mov (.k (.bool false)))] [2,3,4,5] (Js [Jl 7 2,Jo 8 (.load (some 2) (.t 3)),Jo 9 (.load (some 2) (.t 4)),Jo 10 (.call (.t 7) [.t 8,.t 9]),⟨none,none,.store 2 (.t 5) (.t 10)⟩,Jo 6 (.mov (.k (.bool true)))] [5,6] .ret)
def rs167:List RV:=[.cell 5 (some 2),.t 6]
theorem enter167:EnT Tryz.prog 167 11 ac167 rs167:=Ent pl167 mixed Tryz.func167
def ac168:ACode:=Js [Jo 2 (.box 48 0 (.t 0)),Jo 3 (.box 48 0 (.t 1)),Jo 4 (.alloc 48 0 [.bool false,.seq 0 [] true])] [2,4] (Js [Jo 5 (.load (some 2) (.t 2)),Jo 6 (Jc 149 [.t 5]),⟨none,none,.store 2 (.t 4) (.t 6)⟩] [4] .ret)
def rs168:List RV:=[.cell 4 (some 2)]
theorem enter168:EnT Tryz.prog 168 7 ac168 rs168:=Ent pl168 mixed Tryz.func168
def ac169:ACode:=Js [Jo 3 (.box 48 0 (.t 0)),Jo 4 (.box 48 0 (.t 1)),Jo 5 (.alloc 48 0 [.bool false,.seq 0 [] true])] [2,3,5] (Js [Jo 6 (.load (some 2) (.t 3)),Jf 7 4 2,Jl 8 7,Jo 9 (Jc 170 [.t 6,.t 8]),⟨none,none,.store 2 (.t 5) (.t 9)⟩] [5] .ret)
def rs169:List RV:=[.cell 5 (some 2)]
theorem enter169:EnT Tryz.prog 169 10 ac169 rs169:=Ent pl169 mixed Tryz.func169
def ac170:ACode:=Js [Jo 2 (.box 48 0 (.t 0)),Jo 4 (.alloc 48 0 [.bool false,.seq 0 [] true])] [1,2,4] (.seq (.draw [Jo 5 (.load (some 2) (.t 2)),Jm 6 1,Jo 7 (Jc 31 [.t 6])] [Jo 8 (Jc 121 [.t 5,.t 7]),⟨none,none,.store 2 (.t 4) (.t 8)⟩] [0,1,1] [4]) .ret)
def rs170:List RV:=[.cell 4 (some 2)]
theorem enter170:EnT Tryz.prog 170 9 ac170 rs170:=Ent pl170 mixed Tryz.func170
def ac171:ACode:=Js [Jo 3 (.box 48 0 (.t 0)),Jo 4 (.box 48 0 (.t 1)),Jo 5 (.alloc 48 0 [.bool false,.seq 0 [] true]),Jo 6 (.mov (.k (.bool false)))] [2,3,5] (Js [Jo 10 (.load (some 2) (.t 3)),Jf 11 4 2,Jl 12 11,Jo 13 (Jc 172 [.t 10,.t 12]),Jm 9 13,Je 14 9 0,Je 15 9 1,Jo 7 (.alloc 48 0 [.bool false,.seq 0 [] true]),⟨none,none,.store 2 (.t 7) (.t 14)⟩,Jm 8 15] [5,7,8] (Js [Jo 16 (.load (some 2) (.t 7)),Jm 17 8,Jo 18 (.bin .eql (.t 17) (Jk 0)),⟨none,none,.store 2 (.t 5) (.t 16)⟩,Jm 6 18] [5,6] .ret))
def rs171:List RV:=[.cell 5 (some 2),.t 6]
theorem enter171:EnT Tryz.prog 171 19 ac171 rs171:=Ent pl171 mixed Tryz.func171
def ac172:ACode:=Js [Jo 2 (.box 48 0 (.t 0)),Jo 4 (.alloc 48 0 [.bool false,.seq 0 [] true]),Jo 5 (.mov (Jk 0))] [1,2,4] (Js [Jm 10 1,Jo 11 (Jc 31 [.t 10]),Jo 6 (.alloc 48 0 [.bool false,.seq 0 [] true]),⟨none,none,.store 2 (.t 6) (.t 11)⟩] [2,4,6] (Js [Jf 13 1 2,Jl 14 13,Jf 15 1 6,Jl 16 15,Jo 17 (Jc 213 [.t 14,.t 16]),Jm 12 17,Je 18 12 0,Je 19 12 1,Je 20 12 2,Jm 7 18,Jm 8 19,Jm 9 20] [2,4,6,7,8,9] (.seq (.block 0 (Js [Jm 22 9,Jo 23 (.bin .neq (.t 22) (Jk 0)),Jm 21 23] [2,4,6,7,8,21] (.cond (.t 21) (Js [Jo 24 (.build [.bool false,.seq 0 [] true] []),⟨none,none,.store 2 (.t 4) (.t 24)⟩,Jo 5 (.mov (Jk 2))] [4,5] .ret) (Js [Jm 26 8,Jv 27 26,Jo 28 (.bin .gtr (.t 27) (Jk 0)),Jm 25 28] [2,4,6,7,25] (.cond (.t 25) (Js [Jo 29 (.build [.bool false,.seq 0 [] true] []),⟨none,none,.store 2 (.t 4) (.t 29)⟩,Jo 5 (.mov (Jk 20))] [4,5] .ret) .skip))))) (Js [Jf 30 0 2,Jl 31 30,Jf 32 0 6,Jl 33 32,Jo 34 (.binB .neq (.t 31) (.t 33)),Jm 35 7,Jo 36 (Jc 161 [.t 34,.t 35]),⟨none,none,.store 2 (.t 4) (.t 36)⟩,Jo 5 (.mov (Jk 0))] [4,5] .ret))))
def rs172:List RV:=[.cell 4 (some 2),.t 5]
theorem enter172:EnT Tryz.prog 172 37 ac172 rs172:=Ent pl172 mixed Tryz.func172
def ac173:ACode:=Js [Jo 3 (.box 48 0 (.t 0)),Jo 4 (.box 48 0 (.t 1)),Jo 5 (.alloc 48 0 [.bool false,.seq 0 [] true])] [2,3,5] (Js [Jo 9 (.load (some 2) (.t 3)),Jf 10 4 2,Jl 11 10,Jo 12 (Jc 174 [.t 9,.t 11]),Jm 8 12,Je 13 8 0,Je 14 8 1,Jo 6 (.alloc 48 0 [.bool false,.seq 0 [] true]),⟨none,none,.store 2 (.t 6) (.t 13)⟩,Jm 7 14] [5,6] (Js [Jo 15 (.load (some 2) (.t 6)),⟨none,none,.store 2 (.t 5) (.t 15)⟩] [5] .ret))
def rs173:List RV:=[.cell 5 (some 2)]
theorem enter173:EnT Tryz.prog 173 16 ac173 rs173:=Ent pl173 mixed Tryz.func173
def ac174:ACode:=Js [Jo 2 (.box 48 0 (.t 0)),Jo 4 (.alloc 48 0 [.bool false,.seq 0 [] true]),Jo 5 (.mov (Jk 0))] [1,2,4] (Js [Jf 9 1 2,Jl 10 9,Jm 11 1,Jo 12 (Jc 222 [.t 10,.t 11]),Jm 8 12,Je 13 8 0,Je 14 8 1,Jm 6 13,Jm 7 14] [2,4,6,7] (.seq (Js [Jm 15 7,Jo 16 (.bin .neq (.t 15) (Jk 0))] [2,4,6,7,16] (.cond (.t 16) (Js [Jo 17 (.build [.bool false,.seq 0 [] true] []),Jm 18 7,⟨none,none,.store 2 (.t 4) (.t 17)⟩,Jm 5 18] [4,5] .ret) .skip)) (Js [Jf 19 0 2,Jl 20 19,Jm 21 6,Jo 22 (Jc 161 [.t 20,.t 21]),⟨none,none,.store 2 (.t 4) (.t 22)⟩,Jo 5 (.mov (Jk 0))] [4,5] .ret)))
def rs174:List RV:=[.cell 4 (some 2),.t 5]
theorem enter174:EnT Tryz.prog 174 23 ac174 rs174:=Ent pl174 mixed Tryz.func174
def ac175:ACode:=Js [Jo 3 (.box 48 0 (.t 0)),Jo 4 (.box 48 0 (.t 1)),Jo 5 (.alloc 48 0 [.bool false,.seq 0 [] true]),Jo 6 (.mov (.k (.bool false)))] [2,3,5] (Js [Jo 10 (.load (some 2) (.t 3)),Jf 11 4 2,Jl 12 11,Jo 13 (Jc 176 [.t 10,.t 12]),Jm 9 13,Je 14 9 0,Je 15 9 1,Jo 7 (.alloc 48 0 [.bool false,.seq 0 [] true]),⟨none,none,.store 2 (.t 7) (.t 14)⟩,Jm 8 15] [5,7,8] (Js [Jo 16 (.load (some 2) (.t 7)),Jm 17 8,Jo 18 (.bin .eql (.t 17) (Jk 0)),⟨none,none,.store 2 (.t 5) (.t 16)⟩,Jm 6 18] [5,6] .ret))
def rs175:List RV:=[.cell 5 (some 2),.t 6]
theorem enter175:EnT Tryz.prog 175 19 ac175 rs175:=Ent pl175 mixed Tryz.func175
def ac176:ACode:=Js [Jo 2 (.box 48 0 (.t 0)),Jo 4 (.alloc 48 0 [.bool false,.seq 0 [] true]),Jo 5 (.mov (Jk 0))] [1,2,4] (.seq (.block 0 (Js [Jm 9 1,Jo 10 (.bin .lss (.t 9) (Jk 0)),Jm 8 10] [1,2,4,8] (.cond (.t 8) (Js [Jo 11 (.build [.bool false,.seq 0 [] true] []),⟨none,none,.store 2 (.t 4) (.t 11)⟩,Jo 5 (.mov (Jk 2))] [4,5] .ret) (Js [Jo 13 (.load (some 2) (.t 2)),Jo 14 (Jc 52 [.t 13]),Jo 15 (.bin .eql (.t 14) (Jk 0)),Jm 12 15] [1,2,4,12] (.cond (.t 12) (Js [Jo 16 (.build [.bool false,.seq 0 [] true] []),⟨none,none,.store 2 (.t 4) (.t 16)⟩,Jo 5 (.mov (Jk 0))] [4,5] .ret) (Js [Jo 18 (.load (some 2) (.t 2)),Jo 19 (Jc 223 [.t 18]),Jm 20 1,Jb 21 .lss 19 20,Jm 17 21] [1,2,4,17] (.cond (.t 17) (Js [Jo 22 (.build [.bool false,.seq 0 [] true] []),⟨none,none,.store 2 (.t 4) (.t 22)⟩,Jo 5 (.mov (Jk 20))] [4,5] .ret) .skip))))))) (Js [Jf 24 1 2,Jl 25 24,Jm 26 1,Jo 27 (Jc 224 [.t 25,.t 26]),Jm 23 27,Je 28 23 0,Je 29 23 1,Jm 6 28,Jm 7 29] [2,4,6] (Js [Jf 30 0 2,Jl 31 30,Jm 32 6,Jo 33 (Jc 161 [.t 31,.t 32]),⟨none,none,.store 2 (.t 4) (.t 33)⟩,Jo 5 (.mov (Jk 0))] [4,5] .ret)))
def rs176:List RV:=[.cell 4 (some 2),.t 5]
theorem enter176:EnT Tryz.prog 176 34 ac176 rs176:=Ent pl176 mixed Tryz.func176
def ac177:ACode:=Js [Jo 2 (.box 48 0 (.t 0)),Jo 3 (.box 48 0 (.t 1)),Jo 4 (.alloc 48 0 [.bool false,.seq 0 [] true])] [2,4] (Js [Jo 5 (.load (some 2) (.t 2)),⟨none,none,.store 2 (.t 4) (.t 5)⟩] [4] .ret)
def rs177:List RV:=[.cell 4 (some 2)]
theorem enter177:EnT Tryz.prog 177 6 ac177 rs177:=Ent pl177 mixed Tryz.func177
def ac178:ACode:=Js [Jo 2 (.mov (.k (.seq 0 [] true)))] [0] (Js [Jm 4 0,Jv 5 4,Jm 3 5] [0,3] (.seq (.block 0 (.loop (.seq (Js [Jm 6 3,Jo 7 (.bin .gtr (.t 6) (Jk 0)),Jm 8 7,⟨some 9,some (8,true),.mov (.t 0)⟩,⟨some 10,some (8,true),.mov (.t 3)⟩,⟨some 11,some (8,true),.bin .sub (.t 10) (Jk 1)⟩,⟨some 12,some (8,true),.idxA 1 (.t 9) (.t 11)⟩,⟨some 13,some (8,true),.load none (.t 12)⟩,⟨some 14,some (8,true),.bin .eql (.t 13) (.k (.int .u32 ((0:Nat):Int)))⟩,Jo 15 (.pick (.t 8) (.t 14) (.k (.bool false)))] [0,3,15] (.cond (.t 15) .skip (.exit 0))) (.block 1 (.reg [Jm 16 3,Jo 17 (.bin .sub (.t 16) (Jk 1)),Jm 3 17] [0,3]))))) (Js [Jm 18 0,Jm 19 3,Jm 20 3,Jo 21 (.slc 1 (.t 18) none (some (.t 19)) (some (.t 20))),Jm 2 21] [2] .ret)))
def rs178:List RV:=[.t 2]
theorem enter178:EnT Tryz.prog 178 22 ac178 rs178:=Ent pl178 mixed Tryz.func178
def ac188:ACode:=Js [Jo 1 (.box 48 0 (.t 0)),Jo 2 (.alloc 48 0 [.bool false,.seq 0 [] true])] [1,2] (Js [Jf 3 1 1,Jl 4 3,Jo 5 (Jc 161 [.k (.bool false),.t 4]),⟨none,none,.store 2 (.t 2) (.t 5)⟩] [2] .ret)
def rs188:List RV:=[.cell 2 (some 2)]
theorem enter188:EnT Tryz.prog 188 6 ac188 rs188:=Ent pl188 mixed Tryz.func188
def ac191:ACode:=Js [Jo 4 (.mov (Jk 0))] [0,1] (.seq (Js [Jm 6 0,Jv 7 6,Jm 8 1,Jv 9 8,Jb 10 .neq 7 9] [0,1,10] (.cond (.t 10) (.seq (Js [Jm 11 0,Jv 12 11,Jm 13 1,Jv 14 13,Jb 15 .lss 12 14] [15] (.cond (.t 15) (Js [Jo 4 (.mov (.k (.int .i64 (-1))))] [4] .ret) .skip)) (Js [Jo 4 (.mov (Jk 1))] [4] .ret)) .skip)) (.seq (Js [Jm 16 0,Jv 17 16,Jo 18 (.bin .sub (.t 17) (Jk 1)),Jm 5 18] [0,1,5] (.block 0 (.loop (.seq (Js [Jm 19 5,Jo 20 (.bin .geq (.t 19) (Jk 0))] [0,1,5,20] (.cond (.t 20) .skip (.exit 0))) (.seq (.block 1 (Jq (.draw [Jm 23 0,Jm 24 5,Ji 25 1 23 24,Jl 26 25,Jm 27 1,Jm 28 5,Ji 29 1 27 28,Jl 30 29] [Jb 31 .lss 26 30] [0,1,0,0,15,31,15,15] [0,1,5,31]) (.cond (.t 31) (Js [Jo 4 (.mov (.k (.int .i64 (-1))))] [4] .ret) .skip) (.seq (.draw [Jm 32 0,Jm 33 5,Ji 34 1 32 33,Jl 35 34,Jm 36 1,Jm 37 5,Ji 38 1 36 37,Jl 39 38] [Jb 40 .gtr 35 39] [0,1,0,0,15,31,15,15] [0,1,5,40]) (.cond (.t 40) (Js [Jo 4 (.mov (Jk 1))] [4] .ret) .skip)))) (.reg [Jm 21 5,Jo 22 (.bin .sub (.t 21) (Jk 1)),Jm 5 22] [0,1,5])))))) (Js [Jo 4 (.mov (Jk 0))] [4] .ret)))
def rs191:List RV:=[.t 4]
theorem enter191:EnT Tryz.prog 191 41 ac191 rs191:=Ent pl191 mixed Tryz.func191
def ac194:ACode:=Js [Jo 4 (.mov (.k (.seq 0 [] true)))] [0,1] (Js [Jm 11 0,Jv 12 11,Jm 13 1,Jv 14 13,Jb 15 .add 12 14,Jo 16 (.mks 168 1 4 [.int .u32 ((0:Nat):Int)] (.t 15) (.t 15)),Jm 5 16] [0,1,5] (.seq (Js [Jm 17 0,Jv 18 17,Jo 19 (.mov (Jk 0))] [1,5,17,18,19] (.block 0 (.loop (Js [Jb 20 .lss 19 18] [1,5,17,18,19,20] (.seq (.cond (.t 20) .skip (.exit 0)) (.seq (.block 1 (Js [Jm 21 19,Ji 22 1 17 19,Jl 23 22,Jm 6 21,Jm 7 23] [1,5,6,7,17,18,19] (Js [Jo 8 (.mov (.k (.int .u64 ((0:Nat):Int))))] [1,5,6,7,8,17,18,19] (.seq (Js [Jm 24 1,Jv 25 24,Jo 26 (.mov (Jk 0))] [1,5,6,7,8,17,18,19,24,25,26] (.block 2 (.loop (Js [Jb 27 .lss 26 25] [1,5,6,7,8,17,18,19,24,25,26,27] (.seq (.cond (.t 27) .skip (.exit 2)) (.seq (.block 3 (Js [Jm 28 26,Ji 29 1 24 26,Jl 30 29,Jm 9 28,Jm 10 30] [1,5,6,7,8,9,10,17,18,19,24,25,26] (Js [Jm 31 8,Jm 32 7,Jo 33 (.conv .u64 (.t 32)),Jm 34 10,Jo 35 (.conv .u64 (.t 34)),Jb 36 .mul 33 35,Jm 37 5,Jm 38 6,Jm 39 9,Jb 40 .add 38 39,Ji 41 1 37 40,Jl 42 41,Jo 43 (.conv .u64 (.t 42)),Jb 44 .add 36 43,Jb 45 .add 31 44,Jm 8 45] [1,5,6,7,8,9,17,18,19,24,25,26] (Js [Jm 46 5,Jm 47 6,Jm 48 9,Jb 49 .add 47 48,Jm 50 8,Jo 51 (.conv .u32 (.t 50)),Ji 52 1 46 49,⟨none,none,.store 1 (.t 52) (.t 51)⟩] [1,5,6,7,8,17,18,19,24,25,26] (.reg [Jm 53 8,Jo 54 (.bin .shr (.t 53) (.k (.int .u64 ((32:Nat):Int)))),Jm 8 54] [1,5,6,7,8,17,18,19,24,25,26]))))) (.reg [Jo 55 (.bin .add (.t 26) (Jk 1)),Jm 26 55] [1,5,6,7,8,17,18,19,24,25,26]))))))) (.reg [Jm 56 5,Jm 57 6,Jm 58 1,Jv 59 58,Jb 60 .add 57 59,Jm 61 8,Jo 62 (.conv .u32 (.t 61)),Ji 63 1 56 60,⟨none,none,.store 1 (.t 63) (.t 62)⟩] [1,5,17,18,19]))))) (.reg [Jo 64 (.bin .add (.t 19) (Jk 1)),Jm 19 64] [1,5,17,18,19]))))))) (Js [Jm 65 5,Jo 66 (Jc 178 [.t 65]),Jm 4 66] [4] .ret)))
def rs194:List RV:=[.t 4]
theorem enter194:EnT Tryz.prog 194 67 ac194 rs194:=Ent pl194 mixed Tryz.func194
def ac197:ACode:=Js [Jo 2 (.mov (.k (.str ⟨#[]⟩)))] [0] (Js [Jo 3 (.mov (.k (.seq 0 [] true)))] [0,3] (.seq (Js [Jm 14 0,Jo 15 (Jc 162 [.t 14]),Jm 4 15] [3,4] (.block 0 (.loop (.seq (Js [Jm 16 4,Jv 17 16,Jo 18 (.bin .gtr (.t 17) (Jk 0))] [3,4,18] (.cond (.t 18) .skip (.exit 0))) (.block 1 (Js [Jm 20 4,Jo 21 (Jc 227 [.t 20,.k (.int .u32 ((1000000000:Nat):Int))]),Jm 19 21,Je 22 19 0,Je 23 19 1,Je 24 19 2,Jm 5 22,Jm 6 23,Jm 7 24] [3,5,6] (Js [Jm 25 3,Jm 26 6,Jo 27 (.bsl [.int .u32 ((0:Nat):Int)] 1 1 [(0,1,.t 26)]),Jo 28 (.app 168 1 4 (.t 25) (.t 27)),Jm 3 28] [3,5] (.reg [Jm 29 5,Jm 4 29] [3,4])))))))) (.seq (Js [Jm 30 3,Jv 31 30,Jo 32 (.bin .eql (.t 31) (Jk 0))] [3,32] (.cond (.t 32) (Js [Jo 2 (.mov (.k (.str ⟨#[48]⟩)))] [2] .ret) .skip)) (Js [Jo 8 (.alloc 257 0 [.nilP,.seq 0 [] true])] [3,8] (.seq (Js [Jm 33 3,Jv 34 33,Jo 35 (.bin .sub (.t 34) (Jk 1)),Jm 9 35] [3,8,9] (.block 2 (.loop (.seq (Js [Jm 36 9,Jo 37 (.bin .geq (.t 36) (Jk 0))] [3,8,9,37] (.cond (.t 37) .skip (.exit 2))) (.seq (.block 3 (Js [Jo 10 (.alloc 275 1 [.int .u8 ((0:Nat):Int),.int .u8 ((0:Nat):Int),.int .u8 ((0:Nat):Int),.int .u8 ((0:Nat):Int),.int .u8 ((0:Nat):Int),.int .u8 ((0:Nat):Int),.int .u8 ((0:Nat):Int),.int .u8 ((0:Nat):Int),.int .u8 ((0:Nat):Int)])] [3,8,9,10] (Js [Jm 40 3,Jm 41 9,Ji 42 1 40 41,Jl 43 42,Jm 11 43] [3,8,9,10,11] (.seq (Js [Jo 12 (.mov (Jk 8))] [3,8,9,10,11,12] (.block 4 (.loop (.seq (Js [Jm 44 12,Jo 45 (.bin .geq (.t 44) (Jk 0))] [3,8,9,10,11,12,45] (.cond (.t 45) .skip (.exit 4))) (.seq (.block 5 (Js [Jm 48 12,Jm 49 11,Jo 50 (.bin .rem (.t 49) (.k (.int .u32 ((10:Nat):Int)))),Jo 51 (.bin .add (.k (.int .u32 ((48:Nat):Int))) (.t 50)),Jo 52 (.conv .u8 (.t 51)),Jo 53 (.prim (.idxP 9 1) [.t 10,.t 48]),⟨none,none,.store 1 (.t 53) (.t 52)⟩] [3,8,9,10,11,12] (.reg [Jm 54 11,Jo 55 (.bin .quo (.t 54) (.k (.int .u32 ((10:Nat):Int)))),Jm 11 55] [3,8,9,10,11,12]))) (.reg [Jm 46 12,Jo 47 (.bin .sub (.t 46) (Jk 1)),Jm 12 47] [3,8,9,10,11,12])))))) (Js [Jo 56 (.prim (.slcP 9 1) [.t 10]),Jo 57 (.prim .b2s [.t 56]),Jm 13 57] [3,8,9,13] (.seq (Js [Jm 58 9,Jm 59 3,Jv 60 59,Jo 61 (.bin .sub (.t 60) (Jk 1)),Jb 62 .eql 58 61] [3,8,9,13,62] (.cond (.t 62) (.reg [Jm 63 13,Jo 64 (Jc 228 [.t 63,.k (.str ⟨#[48]⟩)]),Jm 13 64] [3,8,9,13]) .skip)) (.reg [Jm 65 13,Jo 66 (Jc 210 [.t 8,.t 65])] [3,8,9]))))))) (.reg [Jm 38 9,Jo 39 (.bin .sub (.t 38) (Jk 1)),Jm 9 39] [3,8,9])))))) (Js [Jo 67 (Jc 211 [.t 8]),Jm 2 67] [2] .ret))))))
def rs197:List RV:=[.t 2]
theorem enter197:EnT Tryz.prog 197 68 ac197 rs197:=Ent pl197 mixed Tryz.func197
def ac198:ACode:=Js [Jl 5 1,Jo 6 (.rng (.t 5))] [0,6] (.block 0 (.loop (Js [Jo 7 (.nxt (.t 6)),Je 8 7 0] [0,6,7,8] (.seq (.cond (.t 8) .skip (.exit 0)) (.block 1 (Js [Je 9 7 2,Jm 4 9] [0,4,6] (Js [Jm 10 0,Jm 11 4,Jo 12 (.bin .sub (.t 11) (.k (.int .i32 ((48:Nat):Int)))),Jo 13 (.conv .i64 (.t 12)),Jo 14 (.call (.t 10) [.t 13]),Jo 15 (.un .not (.t 14))] [0,6,15] (.cond (.t 15) .ret .skip))))))))
def rs198:List RV:=[]
theorem enter198:EnT Tryz.prog 198 16 ac198 rs198:=Ent pl198 mixed Tryz.func198
def ac199:ACode:=Js [Jo 2 (.mov (Jk 0))] [0] (.seq (Js [Jm 5 0,Jv 6 5,Jo 7 (.bin .eql (.t 6) (Jk 0))] [0,7] (.cond (.t 7) (Js [Jo 2 (.mov (Jk 0))] [2] .ret) .skip)) (Js [Jm 8 0,Jv 9 8,Jo 10 (.bin .sub (.t 9) (Jk 1)),Jo 11 (.bin .mul (Jk 16) (.t 10)),Jm 3 11] [0,3] (Js [Jm 12 0,Jm 13 0,Jv 14 13,Jo 15 (.bin .sub (.t 14) (Jk 1)),Ji 16 1 12 15,Jl 17 16,Jm 4 17] [3,4] (.seq (.block 0 (.loop (.seq (Js [Jm 18 4,Jo 19 (.bin .gtr (.t 18) (.k (.int .u32 ((0:Nat):Int))))] [3,4,19] (.cond (.t 19) .skip (.exit 0))) (.block 1 (Js [Jm 20 3,Jo 21 (.bin .add (.t 20) (Jk 1)),Jm 3 21] [3,4] (.reg [Jm 22 4,Jo 23 (.bin .quo (.t 22) (.k (.int .u32 ((2:Nat):Int)))),Jm 4 23] [3,4])))))) (Js [Jm 24 3,Jm 2 24] [2] .ret)))))
def rs199:List RV:=[.t 2]
theorem enter199:EnT Tryz.prog 199 25 ac199 rs199:=Ent pl199 mixed Tryz.func199
def ac200:ACode:=Js [Jo 4 (.mov (.k (.int .u32 ((0:Nat):Int))))] [0,1] (Js [Jm 5 0,Jm 6 1,Jo 7 (.bin .quo (.t 6) (Jk 16)),Ji 8 1 5 7,Jl 9 8,Jm 10 1,Jo 11 (.bin .rem (.t 10) (Jk 16)),Jb 12 .shr 9 11,Jo 13 (.bin .and (.t 12) (.k (.int .u32 ((1:Nat):Int)))),Jm 4 13] [4] .ret)
def rs200:List RV:=[.t 4]
theorem enter200:EnT Tryz.prog 200 14 ac200 rs200:=Ent pl200 mixed Tryz.func200
def ac201:ACode:=Js [Jo 4 (.mov (.k (.seq 0 [] true)))] [0,1] (Js [Jo 5 (.mov (.k (.seq 0 [] true)))] [0,1,5] (Js [Jo 6 (.mov (.k (.int .u32 ((0:Nat):Int))))] [0,1,5,6] (.seq (Js [Jo 7 (.mov (Jk 0))] [0,1,5,6,7] (.block 0 (.loop (.seq (Js [Jm 10 7,Jm 11 0,Jv 12 11,Jb 13 .lss 10 12] [0,1,5,6,7,13] (.cond (.t 13) .skip (.exit 0))) (.seq (.block 1 (Js [Jm 16 6,Jm 8 16] [0,1,5,7,8] (.seq (Js [Jm 17 7,Jm 18 1,Jv 19 18,Jb 20 .lss 17 19] [0,1,5,7,8,20] (.cond (.t 20) (.reg [Jm 21 8,Jm 22 1,Jm 23 7,Ji 24 1 22 23,Jl 25 24,Jb 26 .add 21 25,Jm 8 26] [0,1,5,7,8]) .skip)) (Js [Jo 6 (.mov (.k (.int .u32 ((0:Nat):Int))))] [0,1,5,6,7,8] (Js [Jm 27 0,Jm 28 7,Ji 29 1 27 28,Jl 30 29,Jm 9 30] [0,1,5,6,7,8,9] (.seq (Js [Jm 31 9,Jm 32 8,Jb 33 .lss 31 32] [0,1,5,6,7,8,9,33] (.cond (.t 33) (Js [Jm 34 9,Jo 35 (.bin .add (.t 34) (.k (.int .u32 ((65536:Nat):Int)))),Jm 9 35] [0,1,5,7,8,9] (.reg [Jo 6 (.mov (.k (.int .u32 ((1:Nat):Int))))] [0,1,5,6,7,8,9])) .skip)) (.reg [Jm 36 5,Jm 37 9,Jm 38 8,Jb 39 .sub 37 38,Jo 40 (.bsl [.int .u32 ((0:Nat):Int)] 1 1 [(0,1,.t 39)]),Jo 41 (.app 168 1 4 (.t 36) (.t 40)),Jm 5 41] [0,1,5,6,7]))))))) (.reg [Jm 14 7,Jo 15 (.bin .add (.t 14) (Jk 1)),Jm 7 15] [0,1,5,6,7])))))) (Js [Jm 42 5,Jm 4 42] [4] .ret))))
def rs201:List RV:=[.t 4]
theorem enter201:EnT Tryz.prog 201 43 ac201 rs201:=Ent pl201 mixed Tryz.func201
def ac204:ACode:=Js [Jo 4 (.mov (.k (.seq 0 [] true)))] [0,1] (.seq (Js [Jm 9 0,Jv 10 9,Jm 11 1,Jv 12 11,Jb 13 .lss 10 12] [0,1,13] (.cond (.t 13) (.reg [Jm 14 1,Jm 15 0,Jm 0 14,Jm 1 15] [0,1]) .skip)) (Js [Jm 16 0,Jv 17 16,Jo 18 (.bin .add (.t 17) (Jk 1)),Jo 19 (.mks 168 1 4 [.int .u32 ((0:Nat):Int)] (.t 18) (.t 18)),Jm 5 19] [0,1,5] (Js [Jo 6 (.mov (.k (.int .u64 ((0:Nat):Int))))] [0,1,5,6] (.seq (Js [Jm 20 0,Jv 21 20,Jo 22 (.mov (Jk 0))] [0,1,5,6,20,21,22] (.block 0 (.loop (Js [Jb 23 .lss 22 21] [0,1,5,6,20,21,22,23] (.seq (.cond (.t 23) .skip (.exit 0)) (.seq (.block 1 (Js [Jm 24 22,Ji 25 1 20 22,Jl 26 25,Jm 7 24,Jm 8 26] [0,1,5,6,7,8,20,21,22] (Js [Jm 27 6,Jm 28 8,Jo 29 (.conv .u64 (.t 28)),Jb 30 .add 27 29,Jm 6 30] [0,1,5,6,7,20,21,22] (.seq (Js [Jm 31 7,Jm 32 1,Jv 33 32,Jb 34 .lss 31 33] [0,1,5,6,7,20,21,22,34] (.cond (.t 34) (.reg [Jm 35 6,Jm 36 1,Jm 37 7,Ji 38 1 36 37,Jl 39 38,Jo 40 (.conv .u64 (.t 39)),Jb 41 .add 35 40,Jm 6 41] [0,1,5,6,7,20,21,22]) .skip)) (Js [Jm 42 5,Jm 43 7,Jm 44 6,Jo 45 (.conv .u32 (.t 44)),Ji 46 1 42 43,⟨none,none,.store 1 (.t 46) (.t 45)⟩] [0,1,5,6,20,21,22] (.reg [Jm 47 6,Jo 48 (.bin .shr (.t 47) (.k (.int .u64 ((32:Nat):Int)))),Jm 6 48] [0,1,5,6,20,21,22])))))) (.reg [Jo 49 (.bin .add (.t 22) (Jk 1)),Jm 22 49] [0,1,5,6,20,21,22]))))))) (Js [Jm 50 5,Jm 51 0,Jv 52 51,Jm 53 6,Jo 54 (.conv .u32 (.t 53)),Ji 55 1 50 52,⟨none,none,.store 1 (.t 55) (.t 54)⟩] [5] (Js [Jm 56 5,Jo 57 (Jc 178 [.t 56]),Jm 4 57] [4] .ret))))))
def rs204:List RV:=[.t 4]
theorem enter204:EnT Tryz.prog 204 58 ac204 rs204:=Ent pl204 mixed Tryz.func204
def ac205:ACode:=Js [Jo 4 (.mov (.k (.seq 0 [] true))),Jo 5 (.mov (Jk 0))] [0,1] (.seq (Js [Jm 12 0,Jm 13 1,Jo 14 (Jc 108 [.t 12,.t 13]),Jo 15 (.bin .lss (.t 14) (Jk 0))] [0,1,15] (.cond (.t 15) (Js [Jo 4 (.mov (.k (.seq 0 [] true))),Jo 5 (.mov (Jk 5))] [4,5] .ret) .skip)) (Js [Jm 16 0,Jv 17 16,Jo 18 (.mks 168 1 4 [.int .u32 ((0:Nat):Int)] (.t 17) (.t 17)),Jm 6 18] [0,1,6] (Js [Jo 7 (.mov (.k (.int .u64 ((0:Nat):Int))))] [0,1,6,7] (.seq (Js [Jm 19 0,Jv 20 19,Jo 21 (.mov (Jk 0))] [1,6,7,19,20,21] (.block 0 (.loop (Js [Jb 22 .lss 21 20] [1,6,7,19,20,21,22] (.seq (.cond (.t 22) .skip (.exit 0)) (.seq (.block 1 (Js [Jm 23 21,Ji 24 1 19 21,Jl 25 24,Jm 8 23,Jm 9 25] [1,6,7,8,9,19,20,21] (Js [Jm 26 7,Jm 10 26] [1,6,8,9,10,19,20,21] (.seq (Js [Jm 27 8,Jm 28 1,Jv 29 28,Jb 30 .lss 27 29] [1,6,8,9,10,19,20,21,30] (.cond (.t 30) (.reg [Jm 31 10,Jm 32 1,Jm 33 8,Ji 34 1 32 33,Jl 35 34,Jo 36 (.conv .u64 (.t 35)),Jb 37 .add 31 36,Jm 10 37] [1,6,8,9,10,19,20,21]) .skip)) (Js [Jm 38 9,Jo 39 (.conv .u64 (.t 38)),Jm 40 10,Jb 41 .sub 39 40,Jm 11 41] [1,6,8,11,19,20,21] (Js [Jm 42 6,Jm 43 8,Jm 44 11,Jo 45 (.conv .u32 (.t 44)),Ji 46 1 42 43,⟨none,none,.store 1 (.t 46) (.t 45)⟩] [1,6,11,19,20,21] (.reg [Jm 47 11,Jo 48 (.bin .shr (.t 47) (.k (.int .u64 ((32:Nat):Int)))),Jo 49 (.bin .and (.t 48) (.k (.int .u64 ((1:Nat):Int)))),Jm 7 49] [1,6,7,19,20,21]))))))) (.reg [Jo 50 (.bin .add (.t 21) (Jk 1)),Jm 21 50] [1,6,7,19,20,21]))))))) (Js [Jm 51 6,Jo 52 (Jc 178 [.t 51]),Jm 4 52,Jo 5 (.mov (Jk 0))] [4,5] .ret)))))
def rs205:List RV:=[.t 4,.t 5]
theorem enter205:EnT Tryz.prog 205 53 ac205 rs205:=Ent pl205 mixed Tryz.func205
def ac210:ACode:=Js [Jo 4 (.mov (Jk 0)),Jo 5 (.mov (.k .nilI))] [0,1] (Js [Jm 6 0,Jo 7 (Jc 230 [.t 6])] [0,1] (Js [Jm 8 0,Jm 9 0,Jo 10 (.prim .nck [.t 9]),Jf 11 1 10,Jl 12 11,Jm 13 1,Jo 14 (.app 5 1 1 (.t 12) (.t 13)),Jo 15 (.prim .nck [.t 8]),Jf 16 1 15,⟨none,none,.store 1 (.t 16) (.t 14)⟩] [1] (Js [Jm 17 1,Jo 18 (.len true (.t 17)),Jm 4 18,Jo 5 (.mov (.k .nilI))] [4,5] .ret)))
def rs210:List RV:=[.t 4,.t 5]
theorem enter210:EnT Tryz.prog 210 19 ac210 rs210:=Ent pl210 mixed Tryz.func210
def ac211:ACode:=Js [Jo 2 (.mov (.k (.str ⟨#[]⟩)))] [0] (.seq (.draw [Jm 3 0,Jo 4 (.prim .nck [.t 3]),Jf 5 1 4,Jl 6 5,Jo 7 (.prim .usd [.t 6]),Jm 8 0,Jo 9 (.prim .nck [.t 8]),Jf 10 1 9,Jl 11 10,Jv 12 11] [Jo 13 (.ust 5 (.t 7) (.t 12)),Jm 2 13] [0,0,0,0,0,31,31,31,31,31] [2]) .ret)
def rs211:List RV:=[.t 2]
theorem enter211:EnT Tryz.prog 211 14 ac211 rs211:=Ent pl211 mixed Tryz.func211
def ac212:ACode:=Js [Jo 2 (.alloc 48 0 [.bool false,.seq 0 [] true])] [0,2] (Js [Jo 6 (Jc 31 [Jk 1]),Jm 7 0,Jo 8 (Jc 174 [.t 6,.t 7]),Jm 5 8,Je 9 5 0,Je 10 5 1,Jo 3 (.alloc 48 0 [.bool false,.seq 0 [] true]),⟨none,none,.store 2 (.t 3) (.t 9)⟩,Jm 4 10] [2,3] (Js [Jo 11 (.load (some 2) (.t 3)),⟨none,none,.store 2 (.t 2) (.t 11)⟩] [2] .ret))
def rs212:List RV:=[.cell 2 (some 2)]
theorem enter212:EnT Tryz.prog 212 12 ac212 rs212:=Ent pl212 mixed Tryz.func212
def ac213:ACode:=Js [Jo 4 (.mov (.k (.seq 0 [] true))),Jo 5 (.mov (.k (.seq 0 [] true))),Jo 6 (.mov (Jk 0))] [0,1] (Js [Jm 20 1,Jo 21 (Jc 178 [.t 20]),Jm 1 21] [0,1] (.seq (Js [Jm 22 1,Jv 23 22,Jo 24 (.bin .eql (.t 23) (Jk 0))] [0,1,24] (.cond (.t 24) (Js [Jo 4 (.mov (.k (.seq 0 [] true))),Jo 5 (.mov (.k (.seq 0 [] true))),Jo 6 (.mov (Jk 2))] [4,5,6] .ret) .skip)) (.seq (Js [Jm 25 0,Jm 26 1,Jo 27 (Jc 108 [.t 25,.t 26]),Jo 28 (.bin .lss (.t 27) (Jk 0))] [0,1,28] (.cond (.t 28) (Js [Jm 29 0,Jo 30 (Jc 162 [.t 29]),Jo 4 (.mov (.k (.seq 0 [] true))),Jm 5 30,Jo 6 (.mov (Jk 0))] [4,5,6] .ret) .skip)) (.seq (Js [Jm 31 1,Jv 32 31,Jo 33 (.bin .eql (.t 32) (Jk 1))] [0,1,33] (.cond (.t 33) (Js [Jm 35 0,Jm 36 1,Jo 37 (.idxA 1 (.t 36) (Jk 0)),Jl 38 37,Jo 39 (Jc 227 [.t 35,.t 38]),Jm 34 39,Je 40 34 0,Je 41 34 1,Je 42 34 2,Jm 7 40,Jm 8 41,Jm 9 42] [7,8] (Js [Jm 43 7,Jm 44 8,Jo 45 (.bsl [.int .u32 ((0:Nat):Int)] 1 1 [(0,1,.t 44)]),Jo 46 (Jc 162 [.t 45]),Jm 4 43,Jm 5 46,Jo 6 (.mov (Jk 0))] [4,5,6] .ret)) .skip)) (Js [Jm 47 1,Jm 48 1,Jv 49 48,Jo 50 (.bin .sub (.t 49) (Jk 1)),Ji 51 1 47 50,Jl 52 51,Jo 53 (Jc 232 [.t 52]),Jm 10 53] [0,1,10] (Js [Jm 55 1,Jm 56 10,Jo 57 (Jc 222 [.t 55,.t 56]),Jm 54 57,Je 58 54 0,Je 59 54 1,Jm 11 58,Jm 12 59] [0,10,11] (Js [Jm 61 0,Jm 62 10,Jo 63 (Jc 222 [.t 61,.t 62]),Jm 60 63,Je 64 60 0,Je 65 60 1,Jm 13 64,Jm 14 65] [10,11,13] (Js [Jm 66 13,Jo 67 (.bsl [.int .u32 ((0:Nat):Int)] 1 1 [(0,1,.k (.int .u32 ((0:Nat):Int)))]),Jo 68 (.app 168 1 4 (.t 66) (.t 67)),Jm 13 68] [10,11,13] (Js [Jm 69 11,Jv 70 69,Jm 15 70] [10,11,13,15] (Js [Jm 71 13,Jv 72 71,Jm 73 15,Jb 74 .sub 72 73,Jo 75 (.mks 168 1 4 [.int .u32 ((0:Nat):Int)] (.t 74) (.t 74)),Jm 16 75] [10,11,13,15,16] (.seq (Js [Jm 76 13,Jv 77 76,Jm 78 15,Jb 79 .sub 77 78,Jo 80 (.bin .sub (.t 79) (Jk 1)),Jm 17 80] [10,11,13,15,16,17] (.block 0 (.loop (.seq (Js [Jm 81 17,Jo 82 (.bin .geq (.t 81) (Jk 0))] [10,11,13,15,16,17,82] (.cond (.t 82) .skip (.exit 0))) (.seq (.block 1 (.reg [Jm 85 16,Jm 86 17,Jm 87 13,Jm 88 17,Jm 89 17,Jm 90 15,Jb 91 .add 89 90,Jo 92 (.bin .add (.t 91) (Jk 1)),Jo 93 (.slc 1 (.t 87) (some (.t 88)) (some (.t 92)) none),Jm 94 11,Jo 95 (Jc 233 [.t 93,.t 94]),Ji 96 1 85 86,⟨none,none,.store 1 (.t 96) (.t 95)⟩] [10,11,13,15,16,17])) (.reg [Jm 83 17,Jo 84 (.bin .sub (.t 83) (Jk 1)),Jm 17 84] [10,11,13,15,16,17])))))) (Js [Jm 98 13,Jm 99 10,Jo 100 (Jc 224 [.t 98,.t 99]),Jm 97 100,Je 101 97 0,Je 102 97 1,Jm 18 101,Jm 19 102] [16,18] (Js [Jm 103 16,Jo 104 (Jc 178 [.t 103]),Jm 105 18,Jm 4 104,Jm 5 105,Jo 6 (.mov (Jk 0))] [4,5,6] .ret)))))))))))))
def rs213:List RV:=[.t 4,.t 5,.t 6]
theorem enter213:EnT Tryz.prog 213 106 ac213 rs213:=Ent pl213 mixed Tryz.func213
def ac219:ACode:=Js [Jo 2 (.mov (.k (.bool false)))] [0] (Js [Jm 3 0,Jo 4 (.bin .eql (.t 3) (Jk 3)),Jm 5 4,⟨some 6,some (5,false),.mov (.t 0)⟩,⟨some 7,some (5,false),.bin .eql (.t 6) (Jk 4)⟩,Jo 8 (.pick (.t 5) (.k (.bool true)) (.t 7)),Jm 2 8] [2] .ret)
def rs219:List RV:=[.t 2]
theorem enter219:EnT Tryz.prog 219 9 ac219 rs219:=Ent pl219 mixed Tryz.func219
def ac220:ACode:=Js [Jo 1 (.box 76 0 (.t 0)),Jo 2 (.mov (.k (.bool false)))] [1] (.seq (Js [Jf 3 0 1,Jl 4 3] [1,4] (.block 0 (.seq (Js [Jo 6 (.bin .eql (.t 4) (Jk 5)),Jm 5 6] [1,4,5] (.cond (.t 5) .skip (.reg [Jo 7 (.bin .eql (.t 4) (Jk 6)),Jm 5 7] [1,4,5]))) (.cond (.t 5) (Js [Jf 8 4 1,Jl 9 8,Jo 10 (.bin .neq (.t 9) (Jk 0)),Jm 11 10,⟨some 12,some (11,true),.fldA 4 (.t 1)⟩,⟨some 13,some (11,true),.load none (.t 12)⟩,⟨some 14,some (11,true),.bin .geq (.t 13) (.k (.int .i64 (-512)))⟩,Jo 15 (.pick (.t 11) (.t 14) (.k (.bool false))),Jm 16 15,⟨some 17,some (16,true),.fldA 4 (.t 1)⟩,⟨some 18,some (16,true),.load none (.t 17)⟩,⟨some 19,some (16,true),.bin .leq (.t 18) (Jk 512)⟩,Jo 20 (.pick (.t 16) (.t 19) (.k (.bool false))),Jm 2 20] [2] .ret) (.seq (Js [Jo 22 (.bin .eql (.t 4) (Jk 7)),Jm 21 22] [1,4,21] (.cond (.t 21) .skip (.reg [Jo 23 (.bin .eql (.t 4) (Jk 8)),Jm 21 23] [1,21]))) (.cond (.t 21) (Js [Jf 24 4 1,Jl 25 24,Jo 26 (.bin .geq (.t 25) (Jk 1)),Jm 27 26,⟨some 28,some (27,true),.fldA 4 (.t 1)⟩,⟨some 29,some (27,true),.load none (.t 28)⟩,⟨some 30,some (27,true),.bin .leq (.t 29) (Jk 64)⟩,Jo 31 (.pick (.t 27) (.t 30) (.k (.bool false))),Jm 2 31] [2] .ret) .skip)))))) (Js [Jf 32 4 1,Jl 33 32,Jo 34 (.bin .eql (.t 33) (Jk 0)),Jm 2 34] [2] .ret))
def rs220:List RV:=[.t 2]
theorem enter220:EnT Tryz.prog 220 35 ac220 rs220:=Ent pl220 mixed Tryz.func220
def ac221:ACode:=Js [Jo 1 (.box 76 0 (.t 0)),Jo 2 (.mov (.k (.seq 0 [] true)))] [1] (.seq (Js [Jf 3 0 1,Jl 4 3] [1,4] (.block 0 (.seq (Js [Jo 6 (.bin .eql (.t 4) (Jk 3)),Jm 5 6] [1,4,5] (.cond (.t 5) .skip (.reg [Jo 7 (.bin .eql (.t 4) (Jk 4)),Jm 5 7] [1,4,5]))) (.cond (.t 5) (Js [Jf 8 2 1,Jl 9 8,Jf 10 3 1,Jl 11 10,Jo 12 (.bsl [Jn 0] 2 1 [(0,1,.t 9),(1,1,.t 11)]),Jm 2 12] [2] .ret) (.seq (Js [Jo 14 (.bin .eql (.t 4) (Jk 1)),Jm 13 14] [1,4,13] (.cond (.t 13) .skip (Js [Jo 15 (.bin .eql (.t 4) (Jk 2)),Jm 13 15] [1,4,13] (.cond (.t 13) .skip (Js [Jo 16 (.bin .eql (.t 4) (Jk 5)),Jm 13 16] [1,4,13] (.cond (.t 13) .skip (Js [Jo 17 (.bin .eql (.t 4) (Jk 6)),Jm 13 17] [1,4,13] (.cond (.t 13) .skip (Js [Jo 18 (.bin .eql (.t 4) (Jk 7)),Jm 13 18] [1,4,13] (.cond (.t 13) .skip (.reg [Jo 19 (.bin .eql (.t 4) (Jk 8)),Jm 13 19] [1,13]))))))))))) (.cond (.t 13) (Js [Jf 20 2 1,Jl 21 20,Jo 22 (.bsl [Jn 0] 1 1 [(0,1,.t 21)]),Jm 2 22] [2] .ret) .skip)))))) (Js [Jo 2 (.mov (.k (.seq 0 [] true)))] [2] .ret))
def rs221:List RV:=[.t 2]
theorem enter221:EnT Tryz.prog 221 23 ac221 rs221:=Ent pl221 mixed Tryz.func221
def ac222:ACode:=Js [Jo 4 (.mov (.k (.seq 0 [] true))),Jo 5 (.mov (Jk 0))] [0,1] (.seq (Js [Jm 11 1,Jo 12 (.bin .lss (.t 11) (Jk 0))] [0,1,12] (.cond (.t 12) (Js [Jo 4 (.mov (.k (.seq 0 [] true))),Jo 5 (.mov (Jk 2))] [4,5] .ret) .skip)) (.seq (Js [Jm 13 1,Jo 14 (.bin .gtr (.t 13) (Jk 65536))] [0,1,14] (.cond (.t 14) (Js [Jo 4 (.mov (.k (.seq 0 [] true))),Jo 5 (.mov (Jk 3))] [4,5] .ret) .skip)) (Js [Jm 15 0,Jv 16 15,Jm 17 1,Jo 18 (.bin .quo (.t 17) (Jk 32)),Jb 19 .add 16 18,Jo 20 (.bin .add (.t 19) (Jk 1)),Jo 21 (.mks 168 1 4 [.int .u32 ((0:Nat):Int)] (.t 20) (.t 20)),Jm 6 21] [0,1,6] (Js [Jm 22 1,Jo 23 (.bin .rem (.t 22) (Jk 32)),Jm 7 23] [0,1,6,7] (.seq (Js [Jm 24 0,Jv 25 24,Jo 26 (.mov (Jk 0))] [1,6,7,24,25,26] (.block 0 (.loop (Js [Jb 27 .lss 26 25] [1,6,7,24,25,26,27] (.seq (.cond (.t 27) .skip (.exit 0)) (.seq (.block 1 (Js [Jm 28 26,Ji 29 1 24 26,Jl 30 29,Jm 8 28,Jm 9 30] [1,6,7,8,9,24,25,26] (Js [Jm 31 9,Jo 32 (.conv .u64 (.t 31)),Jm 33 7,Jb 34 .shl 32 33,Jm 10 34] [1,6,7,8,10,24,25,26] (Js [Jm 35 6,Jm 36 8,Jm 37 1,Jo 38 (.bin .quo (.t 37) (Jk 32)),Jb 39 .add 36 38,Ji 40 1 35 39,Jl 41 40,Jm 42 10,Jo 43 (.conv .u32 (.t 42)),Jb 44 .or 41 43,Ji 45 1 35 39,⟨none,none,.store 1 (.t 45) (.t 44)⟩] [1,6,7,8,10,24,25,26] (.reg [Jm 46 6,Jm 47 8,Jm 48 1,Jo 49 (.bin .quo (.t 48) (Jk 32)),Jb 50 .add 47 49,Jo 51 (.bin .add (.t 50) (Jk 1)),Ji 52 1 46 51,Jl 53 52,Jm 54 10,Jo 55 (.bin .shr (.t 54) (.k (.int .u64 ((32:Nat):Int)))),Jo 56 (.conv .u32 (.t 55)),Jb 57 .or 53 56,Ji 58 1 46 51,⟨none,none,.store 1 (.t 58) (.t 57)⟩] [1,6,7,24,25,26]))))) (.reg [Jo 59 (.bin .add (.t 26) (Jk 1)),Jm 26 59] [1,6,7,24,25,26]))))))) (Js [Jm 60 6,Jo 61 (Jc 178 [.t 60]),Jm 4 61,Jo 5 (.mov (Jk 0))] [4,5] .ret))))))
def rs222:List RV:=[.t 4,.t 5]
theorem enter222:EnT Tryz.prog 222 62 ac222 rs222:=Ent pl222 mixed Tryz.func222
def ac223:ACode:=Js [Jo 1 (.box 48 0 (.t 0)),Jo 2 (.mov (Jk 0))] [1] (.seq (Js [Jo 3 (.load (some 2) (.t 1)),Jo 4 (Jc 52 [.t 3]),Jo 5 (.bin .eql (.t 4) (Jk 0))] [1,5] (.cond (.t 5) (Js [Jo 2 (.mov (.k (.int .i64 (-1))))] [2] .ret) .skip)) (Js [Jf 6 1 1,Jl 7 6,Jo 8 (Jc 235 [.t 7]),Jm 2 8] [2] .ret))
def rs223:List RV:=[.t 2]
theorem enter223:EnT Tryz.prog 223 9 ac223 rs223:=Ent pl223 mixed Tryz.func223
def ac224:ACode:=Js [Jo 4 (.mov (.k (.seq 0 [] true))),Jo 5 (.mov (Jk 0))] [0,1] (.seq (Js [Jm 11 1,Jo 12 (.bin .lss (.t 11) (Jk 0))] [0,1,12] (.cond (.t 12) (Js [Jo 4 (.mov (.k (.seq 0 [] true))),Jo 5 (.mov (Jk 2))] [4,5] .ret) .skip)) (Js [Jm 13 0,Jo 14 (Jc 178 [.t 13]),Jm 0 14] [0,1] (.seq (Js [Jm 15 1,Jo 16 (.bin .quo (.t 15) (Jk 32)),Jm 17 0,Jv 18 17,Jb 19 .geq 16 18] [0,1,19] (.cond (.t 19) (Js [Jo 4 (.mov (.k (.seq 0 [] true))),Jo 5 (.mov (Jk 0))] [4,5] .ret) .skip)) (Js [Jm 20 0,Jm 21 1,Jo 22 (.bin .quo (.t 21) (Jk 32)),Jo 23 (.slc 1 (.t 20) (some (.t 22)) none none),Jm 0 23] [0,1] (Js [Jm 24 1,Jo 25 (.bin .rem (.t 24) (Jk 32)),Jm 6 25] [0,6] (Js [Jm 26 0,Jv 27 26,Jo 28 (.mks 168 1 4 [.int .u32 ((0:Nat):Int)] (.t 27) (.t 27)),Jm 7 28] [0,6,7] (.seq (Js [Jm 29 0,Jv 30 29,Jo 31 (.mov (Jk 0))] [0,6,7,29,30,31] (.block 0 (.loop (Js [Jb 32 .lss 31 30] [0,6,7,29,30,31,32] (.seq (.cond (.t 32) .skip (.exit 0)) (.seq (.block 1 (Js [Jm 33 31,Ji 34 1 29 31,Jl 35 34,Jm 8 33,Jm 9 35] [0,6,7,8,9,29,30,31] (Js [Jm 36 9,Jo 37 (.conv .u64 (.t 36)),Jm 10 37] [0,6,7,8,10,29,30,31] (.seq (Js [Jm 38 8,Jo 39 (.bin .add (.t 38) (Jk 1)),Jm 40 0,Jv 41 40,Jb 42 .lss 39 41] [0,6,7,8,10,29,30,31,42] (.cond (.t 42) (.reg [Jm 43 10,Jm 44 0,Jm 45 8,Jo 46 (.bin .add (.t 45) (Jk 1)),Ji 47 1 44 46,Jl 48 47,Jo 49 (.conv .u64 (.t 48)),Jo 50 (.bin .shl (.t 49) (.k (.int .u64 ((32:Nat):Int)))),Jb 51 .or 43 50,Jm 10 51] [0,6,7,8,10,29,30,31]) .skip)) (.reg [Jm 52 7,Jm 53 8,Jm 54 10,Jm 55 6,Jb 56 .shr 54 55,Jo 57 (.conv .u32 (.t 56)),Ji 58 1 52 53,⟨none,none,.store 1 (.t 58) (.t 57)⟩] [0,6,7,29,30,31]))))) (.reg [Jo 59 (.bin .add (.t 31) (Jk 1)),Jm 31 59] [0,6,7,29,30,31]))))))) (Js [Jm 60 7,Jo 61 (Jc 178 [.t 60]),Jm 4 61,Jo 5 (.mov (Jk 0))] [4,5] .ret))))))))
def rs224:List RV:=[.t 4,.t 5]
theorem enter224:EnT Tryz.prog 224 62 ac224 rs224:=Ent pl224 mixed Tryz.func224
def ac225:ACode:=Js [Jo 2 (.mov (Jk 0))] [0] (.seq (Js [Jm 3 0,Jo 4 (.bin .eql (.t 3) (.k (.int .u32 ((0:Nat):Int))))] [0,4] (.cond (.t 4) (Js [Jo 2 (.mov (Jk 32))] [2] .ret) .skip)) (Js [Jm 5 0,Jm 6 0,Jo 7 (.un .neg (.t 6)),Jb 8 .and 5 7,Jo 9 (.bin .mul (.t 8) (.k (.int .u32 ((125613361:Nat):Int)))),Jo 10 (.bin .shr (.t 9) (.k (.int .u64 ((27:Nat):Int)))),Jo 11 (.prim (.gix 0 32 1) [.t 10]),Jl 12 11,Jo 13 (.conv .i64 (.t 12)),Jm 2 13] [2] .ret))
def rs225:List RV:=[.t 2]
theorem enter225:EnT Tryz.prog 225 14 ac225 rs225:=Ent pl225 mixed Tryz.func225
def ac227:ACode:=Js [Jo 4 (.mov (.k (.seq 0 [] true))),Jo 5 (.mov (.k (.int .u32 ((0:Nat):Int)))),Jo 6 (.mov (Jk 0))] [0,1] (.seq (Js [Jm 10 1,Jo 11 (.bin .eql (.t 10) (.k (.int .u32 ((0:Nat):Int))))] [0,1,11] (.cond (.t 11) (Js [Jo 4 (.mov (.k (.seq 0 [] true))),Jo 5 (.mov (.k (.int .u32 ((0:Nat):Int)))),Jo 6 (.mov (Jk 2))] [4,5,6] .ret) .skip)) (Js [Jm 12 0,Jv 13 12,Jo 14 (.mks 168 1 4 [.int .u32 ((0:Nat):Int)] (.t 13) (.t 13)),Jm 7 14] [0,1,7] (Js [Jo 8 (.mov (.k (.int .u64 ((0:Nat):Int))))] [0,1,7,8] (.seq (Js [Jm 15 0,Jv 16 15,Jo 17 (.bin .sub (.t 16) (Jk 1)),Jm 9 17] [0,1,7,8,9] (.block 0 (.loop (.seq (Js [Jm 18 9,Jo 19 (.bin .geq (.t 18) (Jk 0))] [0,1,7,8,9,19] (.cond (.t 19) .skip (.exit 0))) (.seq (.block 1 (Js [Jm 22 8,Jo 23 (.bin .shl (.t 22) (.k (.int .u64 ((32:Nat):Int)))),Jm 24 0,Jm 25 9,Ji 26 1 24 25,Jl 27 26,Jo 28 (.conv .u64 (.t 27)),Jb 29 .or 23 28,Jm 8 29] [0,1,7,8,9] (Js [Jm 30 7,Jm 31 9,Jm 32 8,Jm 33 1,Jo 34 (.conv .u64 (.t 33)),Jb 35 .quo 32 34,Jo 36 (.conv .u32 (.t 35)),Ji 37 1 30 31,⟨none,none,.store 1 (.t 37) (.t 36)⟩] [0,1,7,8,9] (.reg [Jm 38 8,Jm 39 1,Jo 40 (.conv .u64 (.t 39)),Jb 41 .rem 38 40,Jm 8 41] [0,1,7,8,9])))) (.reg [Jm 20 9,Jo 21 (.bin .sub (.t 20) (Jk 1)),Jm 9 21] [0,1,7,8,9])))))) (Js [Jm 42 7,Jo 43 (Jc 178 [.t 42]),Jm 44 8,Jo 45 (.conv .u32 (.t 44)),Jm 4 43,Jm 5 45,Jo 6 (.mov (Jk 0))] [4,5,6] .ret)))))
def rs227:List RV:=[.t 4,.t 5,.t 6]
theorem enter227:EnT Tryz.prog 227 46 ac227 rs227:=Ent pl227 mixed Tryz.func227
def ac228:ACode:=Js [Jo 4 (.mov (.k (.str ⟨#[]⟩)))] [0,1] (.seq (Js [Jm 7 0,Jo 8 (.bin .eql (.t 7) (.k (.str ⟨#[]⟩))),Jm 9 8,⟨some 10,some (9,false),.mov (.t 1)⟩,⟨some 11,some (9,false),.bin .eql (.t 10) (.k (.str ⟨#[]⟩))⟩,Jo 12 (.pick (.t 9) (.k (.bool true)) (.t 11))] [0,1,12] (.cond (.t 12) (Js [Jm 13 0,Jm 4 13] [4] .ret) .skip)) (.seq (Js [Jm 14 1,Jo 15 (.len true (.t 14)),Jo 16 (.bin .eql (.t 15) (Jk 1)),Jm 17 16,⟨some 18,some (17,true),.mov (.t 1)⟩,⟨some 19,some (17,true),.idxS (.t 18) (Jk 0)⟩,⟨some 20,some (17,true),.bin .lss (.t 19) (.k (.int .u8 ((128:Nat):Int)))⟩,Jo 21 (.pick (.t 17) (.t 20) (.k (.bool false)))] [0,1,21] (.cond (.t 21) (Js [Jm 22 0,Jm 23 1,Jo 24 (.idxS (.t 23) (Jk 0)),Jo 25 (Jc 236 [.t 22,.t 24]),Jm 4 25] [4] .ret) .skip)) (.seq (Js [Jm 27 1,Jo 28 (Jc 237 [.t 27]),Jm 26 28,Je 29 26 0,Je 30 26 1,Jo 5 (.alloc 286 1 [.bool false,.bool false,.bool false,.bool false,.bool false,.bool false,.bool false,.bool false,.bool false,.bool false,.bool false,.bool false,.bool false,.bool false,.bool false,.bool false,.bool false,.bool false,.bool false,.bool false,.bool false,.bool false,.bool false,.bool false,.bool false,.bool false,.bool false,.bool false,.bool false,.bool false,.bool false,.bool false,.bool false,.bool false,.bool false,.bool false,.bool false,.bool false,.bool false,.bool false,.bool false,.bool false,.bool false,.bool false,.bool false,.bool false,.bool false,.bool false,.bool false,.bool false,.bool false,.bool false,.bool false,.bool false,.bool false,.bool false,.bool false,.bool false,.bool false,.bool false,.bool false,.bool false,.bool false,.bool false,.bool false,.bool false,.bool false,.bool false,.bool false,.bool false,.bool false,.bool false,.bool false,.bool false,.bool false,.bool false,.bool false,.bool false,.bool false,.bool false,.bool false,.bool false,.bool false,.bool false,.bool false,.bool false,.bool false,.bool false,.bool false,.bool false,.bool false,.bool false,.bool false,.bool false,.bool false,.bool false,.bool false,.bool false,.bool false,.bool false,.bool false,.bool false,.bool false,.bool false,.bool false,.bool false,.bool false,.bool false,.bool false,.bool false,.bool false,.bool false,.bool false,.bool false,.bool false,.bool false,.bool false,.bool false,.bool false,.bool false,.bool false,.bool false,.bool false,.bool false,.bool false,.bool false,.bool false,.bool false,.bool false,.bool false,.bool false,.bool false,.bool false,.bool false,.bool false,.bool false,.bool false,.bool false,.bool false,.bool false,.bool false,.bool false,.bool false,.bool false,.bool false,.bool false,.bool false,.bool false,.bool false,.bool false,.bool false,.bool false,.bool false,.bool false,.bool false,.bool false,.bool false,.bool false,.bool false,.bool false,.bool false,.bool false,.bool false,.bool false,.bool false,.bool false,.bool false,.bool false,.bool false,.bool false,.bool false,.bool false,.bool false,.bool false,.bool false,.bool false,.bool false,.bool false,.bool false,.bool false,.bool false,.bool false,.bool false,.bool false,.bool false,.bool false,.bool false,.bool false,.bool false,.bool false,.bool false,.bool false,.bool false,.bool false,.bool false,.bool false,.bool false,.bool false,.bool false,.bool false,.bool false,.bool false,.bool false,.bool false,.bool false,.bool false,.bool false,.bool false,.bool false,.bool false,.bool false,.bool false,.bool false,.bool false,.bool false,.bool false,.bool false,.bool false,.bool false,.bool false,.bool false,.bool false,.bool false,.bool false,.bool false,.bool false,.bool false,.bool false,.bool false,.bool false,.bool false,.bool false,.bool false,.bool false,.bool false,.bool false,.bool false,.bool false,.bool false,.bool false,.bool false,.bool false,.bool false,.bool false,.bool false,.bool false,.bool false,.bool false,.bool false,.bool false,.bool false,.bool false,.bool false,.bool false,.bool false,.bool false]),⟨none,none,.store 256 (.t 5) (.t 29)⟩,Jm 6 30] [0,1,5,6] (Js [Jm 31 6] [0,1,5,31] (.cond (.t 31) (Js [Jm 32 0,Jo 33 (Jc 238 [.t 32,.t 5]),Jm 4 33] [4] .ret) .skip))) (Js [Jm 34 0,Jm 35 1,Jo 36 (Jc 239 [.t 34,.t 35]),Jm 4 36] [4] .ret))))
def rs228:List RV:=[.t 4]
theorem enter228:EnT Tryz.prog 228 37 ac228 rs228:=Ent pl228 mixed Tryz.func228
def ac230:ACode:=Js [Jm 2 0,Jo 3 (.prim .nck [.t 2]),Jf 4 0 3,Jl 5 4,Jo 6 (.prim (.peq false) [.t 5,.k .nilP])] [0,6] (.cond (.t 6) (.reg [Jm 7 0,Jm 8 0,Jo 9 (.prim .toU [.t 8]),Jm 10 9,Jo 11 (.prim (.fromU 257 2) [.t 10]),Jo 12 (.prim .nck [.t 7]),Jf 13 0 12,⟨none,none,.store 1 (.t 13) (.t 11)⟩] []) (Js [Jm 14 0,Jo 15 (.prim .nck [.t 14]),Jf 16 0 15,Jl 17 16,Jm 18 0,Jo 19 (.prim (.peq true) [.t 17,.t 18])] [19] (.cond (.t 19) .refuse .skip)))
def rs230:List RV:=[]
theorem enter230:EnT Tryz.prog 230 20 ac230 rs230:=Ent pl230 mixed Tryz.func230
def ac232:ACode:=Js [Jo 2 (.mov (Jk 0))] [0] (Js [Jm 3 0,Jo 4 (Jc 243 [.t 3]),Jo 5 (.bin .sub (Jk 32) (.t 4)),Jm 2 5] [2] .ret)
def rs232:List RV:=[.t 2]
theorem enter232:EnT Tryz.prog 232 6 ac232 rs232:=Ent pl232 mixed Tryz.func232
def ac233:ACode:=Js [Jo 4 (.mov (.k (.int .u32 ((0:Nat):Int))))] [0,1] (.scope0 (Js [Jm 11 1,Jv 12 11,Jm 5 12] [0,1,5] (.seq (.draw [Jm 13 0,Jm 14 5,Ji 15 1 13 14,Jl 16 15,Jo 17 (.conv .u64 (.t 16)),Jo 18 (.bin .shl (.t 17) (.k (.int .u64 ((32:Nat):Int)))),Jm 19 0,Jm 20 5,Jo 21 (.bin .sub (.t 20) (Jk 1)),Ji 22 1 19 21,Jl 23 22,Jo 24 (.conv .u64 (.t 23))] [Jb 25 .or 18 24,Jm 6 25] [0,1,0,0,0,0,63,127,127,63,63,63] [0,1,5,6]) (.seq (.draw [Jm 26 6,Jm 27 1,Jm 28 5,Jo 29 (.bin .sub (.t 28) (Jk 1)),Ji 30 1 27 29,Jl 31 30,Jo 32 (.conv .u64 (.t 31)),Jb 33 .quo 26 32,Jm 34 6,Jm 35 1,Jm 36 5,Jo 37 (.bin .sub (.t 36) (Jk 1)),Ji 38 1 35 37,Jl 39 38,Jo 40 (.conv .u64 (.t 39)),Jb 41 .rem 34 40,Jm 7 33] [Jm 8 41] [0,1,3,3,1,1,1,0,255,511,1023,1023,511,511,511,255,65280] [0,1,5,7,8]) (.seq .skip (.seq (.block 0 (.loop (Jq (.draw [Jm 42 7,Jo 43 (.bin .shr (.t 42) (.k (.int .u64 ((32:Nat):Int)))),Jo 44 (.bin .gtr (.t 43) (.k (.int .u64 ((0:Nat):Int)))),Jm 45 44,⟨some 46,some (45,false),.mov (.t 7)⟩,⟨some 47,some (45,false),.mov (.t 1)⟩,⟨some 48,some (45,false),.mov (.t 5)⟩,⟨some 49,some (45,false),.bin .sub (.t 48) (Jk 2)⟩,⟨some 50,some (45,false),.idxA 1 (.t 47) (.t 49)⟩,⟨some 51,some (45,false),.load none (.t 50)⟩,⟨some 52,some (45,false),.conv .u64 (.t 51)⟩,⟨some 53,some (45,false),.bin .mul (.t 46) (.t 52)⟩,⟨some 54,some (45,false),.mov (.t 8)⟩,⟨some 55,some (45,false),.bin .shl (.t 54) (.k (.int .u64 ((32:Nat):Int)))⟩,⟨some 56,some (45,false),.mov (.t 0)⟩,⟨some 57,some (45,false),.mov (.t 5)⟩,⟨some 58,some (45,false),.bin .sub (.t 57) (Jk 2)⟩,⟨some 59,some (45,false),.idxA 1 (.t 56) (.t 58)⟩,⟨some 60,some (45,false),.load none (.t 59)⟩,⟨some 61,some (45,false),.conv .u64 (.t 60)⟩,⟨some 62,some (45,false),.bin .or (.t 55) (.t 61)⟩] [⟨some 63,some (45,false),.bin .gtr (.t 53) (.t 62)⟩,Jo 64 (.pick (.t 45) (.k (.bool true)) (.t 63))] [0,0,0,0,0,16,48,48,16,16,16,0,4080,4080,16368,32752,32752,16368,16368,16368,4080] [0,1,5,7,8,64]) (.cond (.t 64) .skip (.exit 0)) (.block 1 (Js [Jm 65 7,Jo 66 (.bin .sub (.t 65) (.k (.int .u64 ((1:Nat):Int)))),Jm 7 66] [0,1,5,7,8] (Js [Jm 67 8,Jm 68 1,Jm 69 5,Jo 70 (.bin .sub (.t 69) (Jk 1)),Ji 71 1 68 70,Jl 72 71,Jo 73 (.conv .u64 (.t 72)),Jb 74 .add 67 73,Jm 8 74] [0,1,5,7,8] (Js [Jm 75 8,Jo 76 (.bin .shr (.t 75) (.k (.int .u64 ((32:Nat):Int)))),Jo 77 (.bin .gtr (.t 76) (.k (.int .u64 ((0:Nat):Int))))] [0,1,5,7,8,77] (.cond (.t 77) (.exit 0) .skip)))))))) (.seq (Js [Jm 78 0,Jm 79 1,Jm 80 7,Jo 81 (Jc 244 [.t 78,.t 79,.t 80]),Jo 82 (.un .not (.t 81))] [0,1,5,7,82] (.cond (.t 82) (Js [Jm 83 7,Jo 84 (.conv .u32 (.t 83)),Jm 4 84] [4] .ret) .skip)) (Js [Jm 85 7,Jo 86 (.bin .sub (.t 85) (.k (.int .u64 ((1:Nat):Int)))),Jm 7 86] [0,1,5,7] (Js [Jo 9 (.mov (.k (.int .u64 ((0:Nat):Int))))] [0,1,5,7,9] (.seq (Js [Jm 87 0,Jv 88 87,Jo 89 (.mov (Jk 0))] [0,1,5,7,9,88,89] (.block 2 (.loop (Js [Jb 90 .lss 89 88] [0,1,5,7,9,88,89,90] (.seq (.cond (.t 90) .skip (.exit 2)) (.seq (.block 3 (Js [Jm 91 89,Jm 10 91] [0,1,5,7,9,10,88,89] (Js [Jm 92 9,Jm 93 0,Jm 94 10,Ji 95 1 93 94,Jl 96 95,Jo 97 (.conv .u64 (.t 96)),Jb 98 .add 92 97,Jm 9 98] [0,1,5,7,9,10,88,89] (.seq (Js [Jm 99 10,Jm 100 5,Jb 101 .lss 99 100] [0,1,5,7,9,10,88,89,101] (.cond (.t 101) (.reg [Jm 102 9,Jm 103 1,Jm 104 10,Ji 105 1 103 104,Jl 106 105,Jo 107 (.conv .u64 (.t 106)),Jb 108 .add 102 107,Jm 9 108] [0,1,5,7,9,10,88,89]) .skip)) (Js [Jm 109 0,Jm 110 10,Jm 111 9,Jo 112 (.conv .u32 (.t 111)),Ji 113 1 109 110,⟨none,none,.store 1 (.t 113) (.t 112)⟩] [0,1,5,7,9,88,89] (.reg [Jm 114 9,Jo 115 (.bin .shr (.t 114) (.k (.int .u64 ((32:Nat):Int)))),Jm 9 115] [0,1,5,7,9,88,89])))))) (.reg [Jo 116 (.bin .add (.t 89) (Jk 1)),Jm 89 116] [0,1,5,7,9,88,89]))))))) (Js [Jm 117 7,Jo 118 (.conv .u32 (.t 117)),Jm 4 118] [4] .ret)))))))))))
def rs233:List RV:=[.t 4]
theorem enter233:EnT Tryz.prog 233 119 ac233 rs233:=Ent pl233 mixed Tryz.func233
def ac235:ACode:=Js [Jo 2 (.mov (Jk 0))] [0] (.seq (Js [Jm 5 0,Jv 6 5,Jo 7 (.mov (Jk 0))] [5,6,7] (.block 0 (.loop (Js [Jb 8 .lss 7 6] [5,6,7,8] (.seq (.cond (.t 8) .skip (.exit 0)) (.seq (.block 1 (Js [Jm 9 7,Ji 10 1 5 7,Jl 11 10,Jm 3 9,Jm 4 11] [3,4,5,6,7] (Js [Jm 12 4,Jo 13 (.bin .gtr (.t 12) (.k (.int .u32 ((0:Nat):Int))))] [3,4,5,6,7,13] (.cond (.t 13) (Js [Jm 14 3,Jo 15 (.bin .mul (Jk 32) (.t 14)),Jm 16 4,Jo 17 (Jc 225 [.t 16]),Jb 18 .add 15 17,Jm 2 18] [2] .ret) .skip)))) (.reg [Jo 19 (.bin .add (.t 7) (Jk 1)),Jm 7 19] [5,6,7]))))))) (Js [Jo 2 (.mov (Jk 0))] [2] .ret))
def rs235:List RV:=[.t 2]
theorem enter235:EnT Tryz.prog 235 20 ac235 rs235:=Ent pl235 mixed Tryz.func235
def ac236:ACode:=Js [Jo 4 (.mov (.k (.str ⟨#[]⟩)))] [0,1] (.seq (.block 0 (.loop (.seq (Js [Jm 5 0,Jo 6 (.len true (.t 5)),Jo 7 (.bin .gtr (.t 6) (Jk 0)),Jm 8 7,⟨some 9,some (8,true),.mov (.t 0)⟩,⟨some 10,some (8,true),.idxS (.t 9) (Jk 0)⟩,⟨some 11,some (8,true),.mov (.t 1)⟩,⟨some 12,some (8,true),.bin .eql (.t 10) (.t 11)⟩,Jo 13 (.pick (.t 8) (.t 12) (.k (.bool false)))] [0,1,13] (.cond (.t 13) .skip (.exit 0))) (.block 1 (.reg [Jm 14 0,Jo 15 (.slcS (.t 14) (some (Jk 1)) none),Jm 0 15] [0,1]))))) (Js [Jm 16 0,Jm 4 16] [4] .ret))
def rs236:List RV:=[.t 4]
theorem enter236:EnT Tryz.prog 236 17 ac236 rs236:=Ent pl236 mixed Tryz.func236
def ac243:ACode:=Js [Jo 2 (.mov (Jk 0))] [0,2] (.seq (Js [Jm 3 0,Jo 4 (.bin .geq (.t 3) (.k (.int .u32 ((65536:Nat):Int))))] [0,2,4] (.cond (.t 4) (Js [Jm 5 0,Jo 6 (.bin .shr (.t 5) (.k (.int .u64 ((16:Nat):Int)))),Jm 0 6] [0] (.reg [Jo 2 (.mov (Jk 16))] [0,2])) .skip)) (.seq (Js [Jm 7 0,Jo 8 (.bin .geq (.t 7) (.k (.int .u32 ((256:Nat):Int))))] [0,2,8] (.cond (.t 8) (Js [Jm 9 0,Jo 10 (.bin .shr (.t 9) (.k (.int .u64 ((8:Nat):Int)))),Jm 0 10] [0,2] (.reg [Jm 11 2,Jo 12 (.bin .add (.t 11) (Jk 8)),Jm 2 12] [0,2])) .skip)) (Js [Jm 13 2,Jm 14 0,Jo 15 (.conv .u8 (.t 14)),Jo 16 (.idxS (.k (.str ⟨#[0,1,2,2,3,3,3,3,4,4,4,4,4,4,4,4,5,5,5,5,5,5,5,5,5,5,5,5,5,5,5,5,6,6,6,6,6,6,6,6,6,6,6,6,6,6,6,6,6,6,6,6,6,6,6,6,6,6,6,6,6,6,6,6,7,7,7,7,7,7,7,7,7,7,7,7,7,7,7,7,7,7,7,7,7,7,7,7,7,7,7,7,7,7,7,7,7,7,7,7,7,7,7,7,7,7,7,7,7,7,7,7,7,7,7,7,7,7,7,7,7,7,7,7,7,7,7,7,8,8,8,8,8,8,8,8,8,8,8,8,8,8,8,8,8,8,8,8,8,8,8,8,8,8,8,8,8,8,8,8,8,8,8,8,8,8,8,8,8,8,8,8,8,8,8,8,8,8,8,8,8,8,8,8,8,8,8,8,8,8,8,8,8,8,8,8,8,8,8,8,8,8,8,8,8,8,8,8,8,8,8,8,8,8,8,8,8,8,8,8,8,8,8,8,8,8,8,8,8,8,8,8,8,8,8,8,8,8,8,8,8,8,8,8,8,8,8,8,8,8,8,8,8,8,8,8]⟩)) (.t 15)),Jo 17 (.conv .i64 (.t 16)),Jb 18 .add 13 17,Jm 2 18] [2] .ret)))
def rs243:List RV:=[.t 2]
theorem enter243:EnT Tryz.prog 243 19 ac243 rs243:=Ent pl243 mixed Tryz.func243
def ac244:ACode:=Js [Jo 6 (.mov (.k (.bool false)))] [0,1,2] (Js [Jo 7 (.mov (.k (.int .u64 ((0:Nat):Int)))),Jo 8 (.mov (.k (.int .u64 ((0:Nat):Int))))] [0,1,2,7,8] (.seq (Js [Jm 11 0,Jv 12 11,Jo 13 (.mov (Jk 0))] [0,1,2,7,8,12,13] (.block 0 (.loop (Js [Jb 14 .lss 13 12] [0,1,2,7,8,12,13,14] (.seq (.cond (.t 14) .skip (.exit 0)) (.seq (.block 1 (Js [Jm 15 13,Jm 9 15] [0,1,2,7,8,9,12,13] (.seq (Js [Jm 16 9,Jm 17 1,Jv 18 17,Jb 19 .lss 16 18] [0,1,2,7,8,9,12,13,19] (.cond (.t 19) (.reg [Jm 20 7,Jm 21 1,Jm 22 9,Ji 23 1 21 22,Jl 24 23,Jo 25 (.conv .u64 (.t 24)),Jm 26 2,Jb 27 .mul 25 26,Jb 28 .add 20 27,Jm 7 28] [0,1,2,7,8,9,12,13]) .skip)) (Js [Jm 29 0,Jm 30 9,Ji 31 1 29 30,Jl 32 31,Jo 33 (.conv .u64 (.t 32)),Jm 34 7,Jo 35 (.bin .and (.t 34) (.k (.int .u64 ((4294967295:Nat):Int)))),Jb 36 .sub 33 35,Jm 37 8,Jb 38 .sub 36 37,Jm 10 38] [0,1,2,7,9,10,12,13] (Js [Jm 39 7,Jo 40 (.bin .shr (.t 39) (.k (.int .u64 ((32:Nat):Int)))),Jm 7 40] [0,1,2,7,9,10,12,13] (Js [Jm 41 0,Jm 42 9,Jm 43 10,Jo 44 (.conv .u32 (.t 43)),Ji 45 1 41 42,⟨none,none,.store 1 (.t 45) (.t 44)⟩] [0,1,2,7,10,12,13] (.reg [Jm 46 10,Jo 47 (.bin .shr (.t 46) (.k (.int .u64 ((32:Nat):Int)))),Jo 48 (.bin .and (.t 47) (.k (.int .u64 ((1:Nat):Int)))),Jm 8 48] [0,1,2,7,8,12,13]))))))) (.reg [Jo 49 (.bin .add (.t 13) (Jk 1)),Jm 13 49] [0,1,2,7,8,12,13]))))))) (Js [Jm 50 8,Jo 51 (.bin .gtr (.t 50) (.k (.int .u64 ((0:Nat):Int)))),Jm 6 51] [6] .ret)))
def rs244:List RV:=[.t 6]
theorem enter244:EnT Tryz.prog 244 52 ac244 rs244:=Ent pl244 mixed Tryz.func244
end Go.Proofs.YtmndejlpfmmaiaaGreatDoor.Fw
namespace Go.Proofs.YtmndejlpfmmaiaaGreatDoor.Fw
open Go Go.Proofs.YtmndejlpfmmaiaaGreatDoor.Ma
theorem load_LS0{H:AHeap}{K:AV→Prop}{l:List Nat}(h:0<l.length):loadW H none (.cptr (U l)) K=K (.int .u32 ((l.getD 0 0:Nat):Int)):=by
 have:=load_LS (H:=H) (K:=K) (l:=l) (i:=0) h
 rwa[List.drop_zero]at this
theorem digs_len0{B n:Nat}(hB:2≤B):((digs B n).length=0)=(n=0):=by
 rw[List.length_eq_zero_iff];exact propext (digs_nil hB)
theorem digs_pos_len{B n:Nat}(hB:2≤B):(0<(digs B n).length)=(0<n):=by
 apply propext
 have:=digs_nil (n:=n) hB
 cases h:digs B n with
 |nil=>have:=this.1 h;simp[this]
 |cons x l=>rcases Nat.eq_zero_or_pos n with e|e
            ·rw[e,digs_zero]at h;cases h
            ·simp[e]
theorem trim_fn(l:List Nat)(t:Bool):PFn Tryz.prog 178 [LS l t] (LS (tr l) true):=by
 intro H Q hq
 refine enter178 (by simp) ?_
 simp(disch:=first|exact Xe|fail)only[ac178,len_LS,len_own,↓Xa,Xb,Xc,↓reduceIte,Nat.reduceLT,Nat.reduceEqDiff,Nat.reduceBEq,Nat.reduceLeDiff,Nat.reduceAdd,Nat.reduceMul]
 intro hl
 refine W_loop (fun n:Nat=>⟨[],[(0,LS l t),(3,.int .i64 n)],H⟩) (fun n=>n≤l.length∧∀i,n≤i→i<l.length→l.getD i 0=0) id l.length (Settle.now rfl) ⟨Nat.le_refl _,fun i h1 h2=>absurd h1 (by omega)⟩ ?_
 rintro n ⟨hn,hz⟩
 have fin:(n=0∨l.getD (n-1) 0≠0)→SetR Q (LS (l.take n) true) H:=fun h=>by rw[tr_take hn hz h];exact SetR.now hq
 by_cases h0:0<n
 ·by_cases h1:l.getD (n-1) 0=0
  ·simp(disch:=first|exact Xe|fail)only[h0,h1,len_LS,len_own,↓Xa,Xb,Xc,↓reduceIte,Nat.reduceLT,Nat.reduceEqDiff,Nat.reduceBEq,Nat.reduceLeDiff,Nat.reduceAdd,Nat.reduceMul]
   refine Settle.now ⟨n-1,?_,⟨by omega,fun i hi hl'=>?_⟩,rfl⟩
   ·show n-1<n;omega
   ·rcases Nat.lt_or_ge i n with h|h
    ·rw[show i=n-1 by omega];exact h1
    ·exact hz i h hl'
  ·simp(disch:=first|exact Xe|fail)only[h0,h1,len_LS,len_own,↓Xa,Xb,Xc,↓reduceIte,Nat.reduceLT,Nat.reduceEqDiff,Nat.reduceBEq,Nat.reduceLeDiff,Nat.reduceAdd,Nat.reduceMul]
   refine Settle.now ?_
   simp(disch:=first|exact Xe|fail)only[rs178,len_LS,len_own,↓Xa,Xb,Xc,↓reduceIte,Nat.reduceLT,Nat.reduceEqDiff,Nat.reduceBEq,Nat.reduceLeDiff,Nat.reduceAdd,Nat.reduceMul]
   exact fin (.inr h1)
 ·simp(disch:=first|exact Xe|fail)only[h0,len_LS,len_own,↓Xa,Xb,Xc,↓reduceIte,Nat.reduceLT,Nat.reduceEqDiff,Nat.reduceBEq,Nat.reduceLeDiff,Nat.reduceAdd,Nat.reduceMul]
  refine Settle.now ?_
  simp(disch:=first|exact Xe|fail)only[rs178,len_LS,len_own,↓Xa,Xb,Xc,↓reduceIte,Nat.reduceLT,Nat.reduceEqDiff,Nat.reduceBEq,Nat.reduceLeDiff,Nat.reduceAdd,Nat.reduceMul]
  exact fin (.inl (by omega))
theorem trim_own{l:List Nat}{b ty n:Nat}{t:Bool}{H:AHeap}{Q:AV→AHeap→Prop}(hH:H b=some (.row ty 1 (U l)))(hn:l.length=n)(hq:Q (.own b n 0 (tr l).length true) H):Run Tryz.prog 178 [.own b n 0 n t] H Q:=by
 subst hn
 refine enter178 (by simp) ?_
 simp(disch:=first|exact Xe|fail)only[ac178,len_LS,len_own,↓Xa,Xb,Xc,↓reduceIte,Nat.reduceLT,Nat.reduceEqDiff,Nat.reduceBEq,Nat.reduceLeDiff,Nat.reduceAdd,Nat.reduceMul]
 intro hl
 refine W_loop (fun n:Nat=>⟨[],[(0,.own b l.length 0 l.length t),(3,.int .i64 n)],H⟩) (fun n=>n≤l.length∧∀i,n≤i→i<l.length→l.getD i 0=0) id l.length (Settle.now rfl) ⟨Nat.le_refl _,fun i h1 h2=>absurd h1 (by omega)⟩ ?_
 rintro n ⟨hn,hz⟩
 have fin:(n=0∨l.getD (n-1) 0≠0)→SetR Q (.own b l.length 0 n true) H:=fun h=>by
  have:=congrArg List.length (tr_take hn hz h)
  rw[List.length_take,Nat.min_eq_left hn]at this
  rw[this];exact SetR.now hq
 by_cases h0:0<n
 ·by_cases h1:l.getD (n-1) 0=0
  ·simp(disch:=first|exact Xe|fail)only[h0,h1,hH,len_LS,len_own,↓Xa,Xb,Xc,↓reduceIte,Nat.reduceLT,Nat.reduceEqDiff,Nat.reduceBEq,Nat.reduceLeDiff,Nat.reduceAdd,Nat.reduceMul]
   refine Settle.now ⟨n-1,?_,⟨by omega,fun i hi hl'=>?_⟩,rfl⟩
   ·show n-1<n;omega
   ·rcases Nat.lt_or_ge i n with h|h
    ·rw[show i=n-1 by omega];exact h1
    ·exact hz i h hl'
  ·simp(disch:=first|exact Xe|fail)only[h0,h1,hH,len_LS,len_own,↓Xa,Xb,Xc,↓reduceIte,Nat.reduceLT,Nat.reduceEqDiff,Nat.reduceBEq,Nat.reduceLeDiff,Nat.reduceAdd,Nat.reduceMul]
   refine Settle.now ?_
   simp(disch:=first|exact Xe|fail)only[rs178,hH,len_LS,len_own,↓Xa,Xb,Xc,↓reduceIte,Nat.reduceLT,Nat.reduceEqDiff,Nat.reduceBEq,Nat.reduceLeDiff,Nat.reduceAdd,Nat.reduceMul]
   exact fin (.inr h1)
 ·simp(disch:=first|exact Xe|fail)only[h0,hH,len_LS,len_own,↓Xa,Xb,Xc,↓reduceIte,Nat.reduceLT,Nat.reduceEqDiff,Nat.reduceBEq,Nat.reduceLeDiff,Nat.reduceAdd,Nat.reduceMul]
  refine Settle.now ?_
  simp(disch:=first|exact Xe|fail)only[rs178,hH,len_LS,len_own,↓Xa,Xb,Xc,↓reduceIte,Nat.reduceLT,Nat.reduceEqDiff,Nat.reduceBEq,Nat.reduceLeDiff,Nat.reduceAdd,Nat.reduceMul]
  exact fin (.inl (by omega))
theorem trim_call{l:List Nat}{b ty n:Nat}{t:Bool}{H:AHeap}{K:AV→AHeap→Prop}(hH:H b=some (.row ty 1 (U l)))(hn:l.length=n)(k:K (.own b n 0 (tr l).length true) H):callW Tryz.prog (.fn (.func 178) [] []) [.own b n 0 n t] H K:=by
 simpa[callW]using trim_own (t:=t) hH hn k
theorem frz_tr{l:List Nat}{b n:Nat}(hn:l.length=n):frz b 1 (U l) (.own b n 0 (tr l).length true)=LS (tr l) true:=by
 subst hn
 have h1:=tr_len l
 obtain⟨k,h2⟩:=tr_pre l
 have h3:(U l).take (tr l).length=U (tr l):=by
  rw[← U_take];congr 1
  generalize tr l=x at*
  rw[h2];simp
 simp[frz,frz2,frz1,LS,h1,h3]
theorem fin_tr{l:List Nat}{b ty n:Nat}{H:AHeap}{Q:AV→AHeap→Prop}(hb:H b=none)(hn:l.length=n)(hq:Q (LS (tr l) true) H):SetR Q (.own b n 0 (tr l).length true) (H.upd b (some (.row ty 1 (U l)))):=by
 refine SetR.frz b (upd_same _ _ _) ?_
 rw[frz_tr hn,upd_upd,upd_back _ hb]
 exact SetR.now hq
theorem frz2_tr{l:List Nat}{b n:Nat}(hn:l.length=n):frz2 b 1 (U l) (.own b n 0 (tr l).length true)=LS (tr l) true:=frz_tr hn
theorem frz2_int{b es:Nat}{c:List AV}{k:IntKind}{n:Int}:frz2 b es c (.int k n)=.int k n:=rfl
theorem fin_tr2{l:List Nat}{b ty n:Nat}{H:AHeap}{Q:AV→AHeap→Prop}{k:IntKind}{m:Int}(hb:H b=none)(hn:l.length=n)(hq:Q (.tup [LS (tr l) true,.int k m]) H):SetR Q (.tup [.own b n 0 (tr l).length true,.int k m]) (H.upd b (some (.row ty 1 (U l)))):=by
 refine SetR.frz b (upd_same _ _ _) ?_
 rw[upd_upd,upd_back _ hb,frz,List.map_cons,List.map_cons,List.map_nil,frz2_tr hn,frz2_int]
 exact SetR.now hq
theorem fin_tr3{l:List Nat}{b ty n:Nat}{H:AHeap}{Q:AV→AHeap→Prop}{k k':IntKind}{m m':Int}(hb:H b=none)(hn:l.length=n)(hq:Q (.tup [LS (tr l) true,.int k m,.int k' m']) H):SetR Q (.tup [.own b n 0 (tr l).length true,.int k m,.int k' m']) (H.upd b (some (.row ty 1 (U l)))):=by
 refine SetR.frz b (upd_same _ _ _) ?_
 rw[upd_upd,upd_back _ hb,frz,List.map_cons,List.map_cons,List.map_cons,List.map_nil,frz2_tr hn,frz2_int,frz2_int]
 exact SetR.now hq
theorem norm_fn{l:List Nat}(t:Bool)(hl:l.length≤70368744177664):PFn Tryz.prog 162 [LS l t] (LS (tr l) true):=by
 intro H Q hq
 refine enter162 (by simp) ?_
 simp(disch:=first|exact Xe|fail)only[ac162,len_LS,len_own,↓Xa,Xb,Xc,↓reduceIte,Nat.reduceLT,Nat.reduceEqDiff,Nat.reduceBEq,Nat.reduceLeDiff,Nat.reduceAdd,Nat.reduceMul]
 refine(trim_fn l t).call ?_
 have h1:=tr_len l
 simp(disch:=first|exact Xe|fail)only[len_LS,len_own,↓Xa,Xb,Xc,↓reduceIte,Nat.reduceLT,Nat.reduceEqDiff,Nat.reduceBEq,Nat.reduceLeDiff,Nat.reduceAdd,Nat.reduceMul]
 intro h2
 refine newU_i fun b hb=>?_
 simp(disch:=first|exact Xe|fail)only[len_LS,len_own,↓Xa,Xb,Xc,↓reduceIte,Nat.reduceLT,Nat.reduceEqDiff,Nat.reduceBEq,Nat.reduceLeDiff,Nat.reduceAdd,Nat.reduceMul]
 refine cpy_U (upd_same _ _ _) (by simp) rfl ?_
 simp(disch:=first|exact Xe|fail)only[rs162,len_LS,len_own,↓Xa,Xb,Xc,↓reduceIte,Nat.reduceLT,Nat.reduceEqDiff,Nat.reduceBEq,Nat.reduceLeDiff,Nat.reduceAdd,Nat.reduceMul]
 refine SetR.frz b (upd_same _ _ _) ?_
 rw[upd_upd,upd_back _ hb]
 have e:frz b 1 (U (tr l)) (.own b (tr l).length 0 (tr l).length true)=LS (tr l) true:=by simp[frz,frz2,frz1,LS,List.take_of_length_le]
 rw[e];exact SetR.now hq
def cmpZ(a b:Nat):Int:=if a<b then -1 else if b<a then((1:Nat):Int)else((0:Nat):Int)
theorem cmp_fn{a b:List Nat}(ta tb:Bool)(ha:Lim 4294967296 a)(hb:Lim 4294967296 b):PFn Tryz.prog 108 [LS a ta,LS b tb] (.int .i64 (cmpZ (val 4294967296 a) (val 4294967296 b))):=by
 intro H Q hq
 refine enter108 (by simp) ?_
 simp(disch:=first|exact Xe|fail)only[ac108,len_LS,len_own,↓Xa,Xb,Xc,↓reduceIte,Nat.reduceLT,Nat.reduceEqDiff,Nat.reduceBEq,Nat.reduceLeDiff,Nat.reduceAdd,Nat.reduceMul]
 refine(trim_fn a ta).call ?_
 simp(disch:=first|exact Xe|fail)only[len_LS,len_own,↓Xa,Xb,Xc,↓reduceIte,Nat.reduceLT,Nat.reduceEqDiff,Nat.reduceBEq,Nat.reduceLeDiff,Nat.reduceAdd,Nat.reduceMul]
 refine(trim_fn b tb).call ?_
 rw[tr_digs (by omega) ha,tr_digs (by omega) hb]
 generalize val 4294967296 a=m at*
 generalize val 4294967296 b=n at*
 have hx:=lim_digs (B:=4294967296) (by omega) m
 have hy:=lim_digs (B:=4294967296) (by omega) n
 have vx:=val_digs (B:=4294967296) (by omega) m
 have vy:=val_digs (B:=4294967296) (by omega) n
 have lt1:=digs_lt_len (B:=4294967296) (a:=m) (b:=n) (by omega)
 have lt2:=digs_lt_len (B:=4294967296) (a:=n) (b:=m) (by omega)
 generalize digs 4294967296 m=x at*
 generalize digs 4294967296 n=y at*
 have less:m<n→SetR Q (.int .i64 (-1)) H:=fun h=>by
  have:cmpZ m n= -1:=by simp[cmpZ,h]
  rw[← this];exact SetR.now hq
 have more:n<m→SetR Q (.int .i64 ((1:Nat):Int)) H:=fun h=>by
  have:cmpZ m n=((1:Nat):Int):=by simp[cmpZ,h,Nat.not_lt_of_lt h]
  rw[← this];exact SetR.now hq
 by_cases c1:x.length<y.length
 ·simp(disch:=first|exact Xe|fail)only[c1,rs108,len_LS,len_own,↓Xa,Xb,Xc,↓reduceIte,Nat.reduceLT,Nat.reduceEqDiff,Nat.reduceBEq,Nat.reduceLeDiff,Nat.reduceAdd,Nat.reduceMul]
  intro _ _
  exact less (lt1 c1)
 by_cases c2:y.length<x.length
 ·simp(disch:=first|exact Xe|fail)only[c1,c2,rs108,len_LS,len_own,↓Xa,Xb,Xc,↓reduceIte,Nat.reduceLT,Nat.reduceEqDiff,Nat.reduceBEq,Nat.reduceLeDiff,Nat.reduceAdd,Nat.reduceMul]
  intro _ _ _ _
  exact more (lt2 c2)
 simp(disch:=first|exact Xe|fail)only[c1,c2,len_LS,len_own,↓Xa,Xb,Xc,↓reduceIte,Nat.reduceLT,Nat.reduceEqDiff,Nat.reduceBEq,Nat.reduceLeDiff,Nat.reduceAdd,Nat.reduceMul]
 intro l1 l2
 intros
 simp(disch:=first|exact Xe|fail)only[len_LS,len_own,↓Xa,Xb,Xc,↓reduceIte,Nat.reduceLT,Nat.reduceEqDiff,Nat.reduceBEq,Nat.reduceLeDiff,Nat.reduceAdd,Nat.reduceMul]
 have hlen:x.length=y.length:=by omega
 refine W_loop (fun k:Nat=>⟨[],[(0,LS x true),(1,LS y true),(5,.int .i64 (dn k))],H⟩) (fun k=>k≤x.length∧x.drop k=y.drop k) id x.length (Settle.now rfl) ⟨Nat.le_refl _,by rw[List.drop_of_length_le (Nat.le_refl _),List.drop_of_length_le (by omega)]⟩ ?_
 rintro k ⟨hk,hd⟩
 cases k with
 |zero=>
  simp(disch:=first|exact Xe|fail)only[len_LS,len_own,↓Xa,Xb,Xc,↓reduceIte,Nat.reduceLT,Nat.reduceEqDiff,Nat.reduceBEq,Nat.reduceLeDiff,Nat.reduceAdd,Nat.reduceMul]
  refine Settle.now ?_
  simp(disch:=first|exact Xe|fail)only[rs108,len_LS,len_own,↓Xa,Xb,Xc,↓reduceIte,Nat.reduceLT,Nat.reduceEqDiff,Nat.reduceBEq,Nat.reduceLeDiff,Nat.reduceAdd,Nat.reduceMul]
  have e:m=n:=by rw[← vx,← vy];rw[List.drop_zero,List.drop_zero]at hd;rw[hd]
  have:cmpZ m n=((0:Nat):Int):=by simp[cmpZ,e]
  rw[← this];exact SetR.now hq
 |succ k=>
  by_cases d1:x.getD k 0<y.getD k 0
  ·simp(disch:=first|exact Xe|fail)only[d1,rs108,len_LS,len_own,↓Xa,Xb,Xc,↓reduceIte,Nat.reduceLT,Nat.reduceEqDiff,Nat.reduceBEq,Nat.reduceLeDiff,Nat.reduceAdd,Nat.reduceMul]
   exact less (by rw[← vx,← vy];exact val_lt_high hx (by omega) k (by omega) hlen hd d1)
  by_cases d2:y.getD k 0<x.getD k 0
  ·simp(disch:=first|exact Xe|fail)only[d1,d2,rs108,len_LS,len_own,↓Xa,Xb,Xc,↓reduceIte,Nat.reduceLT,Nat.reduceEqDiff,Nat.reduceBEq,Nat.reduceLeDiff,Nat.reduceAdd,Nat.reduceMul]
   exact more (by rw[← vx,← vy];exact val_lt_high hy (by omega) k (by omega) hlen.symm hd.symm d2)
  simp(disch:=first|exact Xe|fail)only[d1,d2,len_LS,len_own,↓Xa,Xb,Xc,↓reduceIte,Nat.reduceLT,Nat.reduceEqDiff,Nat.reduceBEq,Nat.reduceLeDiff,Nat.reduceAdd,Nat.reduceMul]
  refine Settle.now ⟨k,Nat.lt_succ_self k,⟨by omega,?_⟩,rfl⟩
  rw[List.drop_eq_getElem_cons (by omega),List.drop_eq_getElem_cons (i:=k) (l:=y) (by omega),hd]
  congr 1
  have e1:x.getD k 0=x[k]:=by simp[List.getD_eq_getElem?_getD,List.getElem?_eq_getElem (show k<x.length by omega)]
  have e2:y.getD k 0=y[k]:=by simp[List.getD_eq_getElem?_getD,List.getElem?_eq_getElem (show k<y.length by omega)]
  omega
end Go.Proofs.YtmndejlpfmmaiaaGreatDoor.Fw
namespace Go.Proofs.YtmndejlpfmmaiaaGreatDoor.Fw
open Go Go.Proofs.YtmndejlpfmmaiaaGreatDoor.Ma
set_option maxRecDepth 20000
theorem add_tail{a b:List Nat}{ta tb:Bool}{H:AHeap}{Q:AV→AHeap→Prop}(hab:b.length≤a.length)(ha:Lim 4294967296 a)(hb:Lim 4294967296 b)(hl:a.length≤1099511627776)
 (hq:Q (LS (digs 4294967296 (val 4294967296 a+val 4294967296 b)) true) H):W Tryz.prog (hold (sndC (sndC ac204))) (retN rs204 Q) ⟨[],[(0,LS a ta),(1,LS b tb)],H⟩:=by
 simp(disch:=first|exact Xe|fail)only[ac204,hold,sndC,↓Xa,Xb,Xc,↓reduceIte,Nat.reduceLT,Nat.reduceEqDiff,Nat.reduceBEq,Nat.reduceLeDiff,Nat.reduceAdd,Nat.reduceMul]
 refine newU_i fun o ho=>?_
 simp(disch:=first|exact Xe|fail)only[↓Xa,Xb,Xc,↓reduceIte,Nat.reduceLT,Nat.reduceEqDiff,Nat.reduceBEq,Nat.reduceLeDiff,Nat.reduceAdd,Nat.reduceMul]
 refine W_loop (fun p:Nat×Nat×List Nat=>⟨[],[(0,LS a ta),(1,LS b tb),(5,.own o (a.length+1) 0 (a.length+1) true),(6,.int .u64 p.2.1),(20,LS a ta),(21,.int .i64 a.length),(22,.int .i64 p.1)],
  H.upd o (some (.row 168 1 (U (p.2.2++List.replicate (a.length+1-p.1) 0))))⟩)
  (fun p=>p.1≤a.length∧AddI a b p.1 p.2.1 p.2.2) (fun p=>a.length-p.1) (0,0,[]) (Settle.now rfl) ⟨by simp,AddI.zero a b⟩ ?_
 rintro⟨i,c,done⟩ ⟨h1,h2⟩
 dsimp only at h1 h2 ⊢
 have hdl:=h2.1
 have hc:=h2.2.2.1
 by_cases hi:i<a.length
 ·have hx:=ha.getD (by omega) i
  have hy:=hb.getD (by omega) i
  by_cases hj:i<b.length
  ·simp(disch:=first|exact Xe|fail)only[hi,hj,↓Xa,Xb,Xc,↓reduceIte,Nat.reduceLT,Nat.reduceEqDiff,Nat.reduceBEq,Nat.reduceLeDiff,Nat.reduceAdd,Nat.reduceMul]
   refine Settle.now ⟨(i+1,_,done++[_]),by dsimp only;omega,⟨by dsimp only;omega,h2.step ha hb rfl⟩,?_⟩
   rw[set_zeros' _ _ _ _ hdl (by omega)]
  ·simp(disch:=first|exact Xe|fail)only[hi,hj,↓Xa,Xb,Xc,↓reduceIte,Nat.reduceLT,Nat.reduceEqDiff,Nat.reduceBEq,Nat.reduceLeDiff,Nat.reduceAdd,Nat.reduceMul]
   have:=getD_beyond (show b.length≤i by omega)
   refine Settle.now ⟨(i+1,_,done++[_]),by dsimp only;omega,⟨by dsimp only;omega,h2.step ha hb (s:=c+a.getD i 0) (by omega)⟩,?_⟩
   rw[set_zeros' _ _ _ _ hdl (by omega)]
 ·obtain rfl:i=a.length:=by omega
  simp(disch:=first|exact Xe|fail)only[hi,↓Xa,Xb,Xc,↓reduceIte,Nat.reduceLT,Nat.reduceEqDiff,Nat.reduceBEq,Nat.reduceLeDiff,Nat.reduceAdd,Nat.reduceMul]
  refine Settle.now ?_
  simp(disch:=first|exact Xe|fail)only[↓Xa,Xb,Xc,↓reduceIte,Nat.reduceLT,Nat.reduceEqDiff,Nat.reduceBEq,Nat.reduceLeDiff,Nat.reduceAdd,Nat.reduceMul]
  rw[set_zeros _ _ _ _ hdl (by omega),show a.length+1-a.length-1=0 by omega,List.replicate_zero,List.append_nil]
  refine trim_call (upd_same _ _ _) (by simp[hdl]) ?_
  simp(disch:=first|exact Xe|fail)only[rs204,↓Xa,Xb,Xc,↓reduceIte,Nat.reduceLT,Nat.reduceEqDiff,Nat.reduceBEq,Nat.reduceLeDiff,Nat.reduceAdd,Nat.reduceMul]
  exact fin_tr ho (by simp[hdl]) (by rw[h2.end hab];exact hq)
theorem add_fn{a b:List Nat}(ta tb:Bool)(ha:Lim 4294967296 a)(hb:Lim 4294967296 b)(hla:a.length≤1099511627776)(hlb:b.length≤1099511627776):PFn Tryz.prog 204 [LS a ta,LS b tb] (LS (digs 4294967296 (val 4294967296 a+val 4294967296 b)) true):=by
 intro H Q hq
 refine enter204 (by simp) ?_
 rw[show ac204=.seq (fstC ac204) (.seq (fstC (sndC ac204)) (hold (sndC (sndC ac204))))from rfl]
 by_cases c:a.length<b.length
 ·simp(disch:=first|exact Xe|fail)only[c,fstC,sndC,ac204,↓Xa,Xb,Xc,↓reduceIte,Nat.reduceLT,Nat.reduceEqDiff,Nat.reduceBEq,Nat.reduceLeDiff,Nat.reduceAdd,Nat.reduceMul]
  exact add_tail (by omega) hb ha hlb (by rw[Nat.add_comm];exact hq)
 ·simp(disch:=first|exact Xe|fail)only[c,fstC,sndC,ac204,↓Xa,Xb,Xc,↓reduceIte,Nat.reduceLT,Nat.reduceEqDiff,Nat.reduceBEq,Nat.reduceLeDiff,Nat.reduceAdd,Nat.reduceMul]
  exact add_tail (by omega) ha hb hla hq
theorem sub_fn{a b:List Nat}(ta tb:Bool)(ha:Lim 4294967296 a)(hb:Lim 4294967296 b)(hab:val 4294967296 b≤val 4294967296 a)(hl:a.length≤1099511627776)(hlb:b.length≤1099511627776):
 PFn Tryz.prog 205 [LS a ta,LS b tb] (.tup [LS (digs 4294967296 (val 4294967296 a-val 4294967296 b)) true,.int .i64 ((0:Nat):Int)]):=by
 intro H Q hq
 refine enter205 (by simp) ?_
 simp(disch:=first|exact Xe|fail)only[ac205,↓Xa,Xb,Xc,↓reduceIte,Nat.reduceLT,Nat.reduceEqDiff,Nat.reduceBEq,Nat.reduceLeDiff,Nat.reduceAdd,Nat.reduceMul]
 refine(cmp_fn ta tb ha hb).call ?_
 have hc: ∃n:Nat,cmpZ (val 4294967296 a) (val 4294967296 b)=(n:Int):=by
  by_cases e:val 4294967296 b<val 4294967296 a
  ·exact⟨1,by simp[cmpZ,e,Nat.not_lt_of_lt e]⟩
  ·exact⟨0,by simp[cmpZ,show val 4294967296 a=val 4294967296 b by omega]⟩
 obtain⟨n,hc⟩:=hc
 simp(disch:=first|exact Xe|fail)only[hc,↓Xa,Xb,Xc,↓reduceIte,Nat.reduceLT,Nat.reduceEqDiff,Nat.reduceBEq,Nat.reduceLeDiff,Nat.reduceAdd,Nat.reduceMul]
 refine newU_i fun o ho=>?_
 simp(disch:=first|exact Xe|fail)only[↓Xa,Xb,Xc,↓reduceIte,Nat.reduceLT,Nat.reduceEqDiff,Nat.reduceBEq,Nat.reduceLeDiff,Nat.reduceAdd,Nat.reduceMul]
 refine W_loop (fun p:Nat×Nat×List Nat=>⟨[],[(1,LS b tb),(6,.own o a.length 0 a.length true),(7,.int .u64 p.2.1),(19,LS a ta),(20,.int .i64 a.length),(21,.int .i64 p.1)],
  H.upd o (some (.row 168 1 (U (p.2.2++List.replicate (a.length-p.1) 0))))⟩)
  (fun p=>p.1≤a.length∧SubI a b p.1 p.2.1 p.2.2) (fun p=>a.length-p.1) (0,0,[]) (Settle.now rfl) ⟨by simp,SubI.zero a b⟩ ?_
 rintro⟨i,c,done⟩ ⟨h1,h2⟩
 dsimp only at h1 h2 ⊢
 have hdl:=h2.1
 have hc:=h2.2.2.1
 by_cases hi:i<a.length
 ·have hx:=ha.getD (by omega) i
  have hy:=hb.getD (by omega) i
  by_cases hj:i<b.length
  ·simp(disch:=first|exact Xe|fail)only[hi,hj,↓Xa,Xb,Xc,↓reduceIte,Nat.reduceLT,Nat.reduceEqDiff,Nat.reduceBEq,Nat.reduceLeDiff,Nat.reduceAdd,Nat.reduceMul]
   refine Settle.now ⟨(i+1,_,done++[_]),by dsimp only;omega,⟨by dsimp only;omega,h2.step ha hb rfl rfl⟩,?_⟩
   rw[set_zeros' _ _ _ _ hdl (by omega)]
  ·simp(disch:=first|exact Xe|fail)only[hi,hj,↓Xa,Xb,Xc,↓reduceIte,Nat.reduceLT,Nat.reduceEqDiff,Nat.reduceBEq,Nat.reduceLeDiff,Nat.reduceAdd,Nat.reduceMul]
   have:=getD_beyond (show b.length≤i by omega)
   refine Settle.now ⟨(i+1,_,done++[_]),by dsimp only;omega,⟨by dsimp only;omega,h2.step ha hb (y:=c) (by omega) rfl⟩,?_⟩
   rw[set_zeros' _ _ _ _ hdl (by omega)]
 ·obtain rfl:i=a.length:=by omega
  simp(disch:=first|exact Xe|fail)only[hi,↓Xa,Xb,Xc,↓reduceIte,Nat.reduceLT,Nat.reduceEqDiff,Nat.reduceBEq,Nat.reduceLeDiff,Nat.reduceAdd,Nat.reduceMul]
  refine Settle.now ?_
  simp(disch:=first|exact Xe|fail)only[Nat.sub_self,List.replicate_zero,↓Xa,Xb,Xc,↓reduceIte,Nat.reduceLT,Nat.reduceEqDiff,Nat.reduceBEq,Nat.reduceLeDiff,Nat.reduceAdd,Nat.reduceMul]
  refine trim_call (upd_same _ _ _) hdl ?_
  simp(disch:=first|exact Xe|fail)only[rs205,↓Xa,Xb,Xc,↓reduceIte,Nat.reduceLT,Nat.reduceEqDiff,Nat.reduceBEq,Nat.reduceLeDiff,Nat.reduceAdd,Nat.reduceMul]
  exact fin_tr2 ho hdl (by rw[h2.end ha hab];exact hq)
theorem mul_fn{a b:List Nat}(ta tb:Bool)(ha:Lim 4294967296 a)(hb:Lim 4294967296 b)(hla:a.length≤1099511627776)(hlb:b.length≤1099511627776):
 PFn Tryz.prog 194 [LS a ta,LS b tb] (LS (digs 4294967296 (val 4294967296 a*val 4294967296 b)) true):=by
 intro H Q hq
 refine enter194 (by simp) ?_
 simp(disch:=first|exact Xe|fail)only[ac194,↓Xa,Xb,Xc,↓reduceIte,Nat.reduceLT,Nat.reduceEqDiff,Nat.reduceBEq,Nat.reduceLeDiff,Nat.reduceAdd,Nat.reduceMul]
 refine newU_i fun o ho=>?_
 simp(disch:=first|exact Xe|fail)only[↓Xa,Xb,Xc,↓reduceIte,Nat.reduceLT,Nat.reduceEqDiff,Nat.reduceBEq,Nat.reduceLeDiff,Nat.reduceAdd,Nat.reduceMul]
 refine W_loop (fun p:Nat×List Nat=>⟨[],[(1,LS b tb),(5,.own o (a.length+b.length) 0 (a.length+b.length) true),(17,LS a ta),(18,.int .i64 a.length),(19,.int .i64 p.1)],
  H.upd o (some (.row 168 1 (U p.2)))⟩)
  (fun p=>p.1≤a.length∧MulI a b p.1 p.2) (fun p=>a.length-p.1) (0,List.replicate (a.length+b.length) 0) (Settle.now rfl) ⟨by simp,MulI.zero a b⟩ ?_
 rintro⟨i,out⟩ ⟨h1,h2⟩
 dsimp only at h1 h2 ⊢
 have hol:=h2.1
 by_cases hi:i<a.length
 ·simp(disch:=first|exact Xe|fail)only[hi,↓Xa,Xb,Xc,↓reduceIte,Nat.reduceLT,Nat.reduceEqDiff,Nat.reduceBEq,Nat.reduceLeDiff,Nat.reduceAdd,Nat.reduceMul]
  refine W_loop (fun p:Nat×Nat×List Nat=>⟨[],[(1,LS b tb),(5,.own o (a.length+b.length) 0 (a.length+b.length) true),(6,.int .i64 i),(7,.int .u32 (a.getD i 0:Nat)),(8,.int .u64 p.2.1),(17,LS a ta),(18,.int .i64 a.length),(19,.int .i64 i),(24,LS b tb),(25,.int .i64 b.length),(26,.int .i64 p.1)],
   H.upd o (some (.row 168 1 (U p.2.2)))⟩)
   (fun p=>p.1≤b.length∧MulK a b i p.1 p.2.1 p.2.2) (fun p=>b.length-p.1) (0,0,out) (Settle.now rfl) ⟨by simp,MulK.start h2⟩ ?_
  rintro⟨k,c,out⟩ ⟨g1,g2⟩
  dsimp only at g1 g2 ⊢
  have gol:=g2.1
  have gc:=g2.2.2.1
  have hx:=ha.getD (by omega) i
  by_cases hk:k<b.length
  ·have hy:=hb.getD (by omega) k
   have ho:=g2.2.1.getD (by omega) (i+k)
   have hm:a.getD i 0*b.getD k 0≤4294967295*4294967295:=Nat.mul_le_mul (by omega) (by omega)
   simp(disch:=first|exact Xe|fail)only[hk,↓Xa,Xb,Xc,↓reduceIte,Nat.reduceLT,Nat.reduceEqDiff,Nat.reduceBEq,Nat.reduceLeDiff,Nat.reduceAdd,Nat.reduceMul]
   refine Settle.now ⟨(k+1,_,_),by dsimp only;omega,⟨by dsimp only;omega,g2.step hi hk ha hb rfl⟩,rfl⟩
  ·obtain rfl:k=b.length:=by omega
   simp(disch:=first|exact Xe|fail)only[hk,↓Xa,Xb,Xc,↓reduceIte,Nat.reduceLT,Nat.reduceEqDiff,Nat.reduceBEq,Nat.reduceLeDiff,Nat.reduceAdd,Nat.reduceMul]
   refine Settle.now ?_
   simp(disch:=first|exact Xe|fail)only[↓Xa,Xb,Xc,↓reduceIte,Nat.reduceLT,Nat.reduceEqDiff,Nat.reduceBEq,Nat.reduceLeDiff,Nat.reduceAdd,Nat.reduceMul]
   refine Settle.now ⟨(i+1,_),by dsimp only;omega,⟨by dsimp only;omega,g2.end hi⟩,rfl⟩
 ·obtain rfl:i=a.length:=by omega
  simp(disch:=first|exact Xe|fail)only[hi,↓Xa,Xb,Xc,↓reduceIte,Nat.reduceLT,Nat.reduceEqDiff,Nat.reduceBEq,Nat.reduceLeDiff,Nat.reduceAdd,Nat.reduceMul]
  refine Settle.now ?_
  simp(disch:=first|exact Xe|fail)only[↓Xa,Xb,Xc,↓reduceIte,Nat.reduceLT,Nat.reduceEqDiff,Nat.reduceBEq,Nat.reduceLeDiff,Nat.reduceAdd,Nat.reduceMul]
  refine trim_call (upd_same _ _ _) hol ?_
  simp(disch:=first|exact Xe|fail)only[rs194,↓Xa,Xb,Xc,↓reduceIte,Nat.reduceLT,Nat.reduceEqDiff,Nat.reduceBEq,Nat.reduceLeDiff,Nat.reduceAdd,Nat.reduceMul]
  exact fin_tr ho hol (by rw[h2.end];exact hq)
theorem divsmall_fn{a:List Nat}{d:Nat}(ta:Bool)(ha:Lim 4294967296 a)(hd:0<d)(hd':d<4294967296)(hla:a.length≤1099511627776):
 PFn Tryz.prog 227 [LS a ta,.int .u32 (d:Nat)] (.tup [LS (digs 4294967296 (val 4294967296 a / d)) true,.int .u32 ((val 4294967296 a%d:Nat):Int),.int .i64 ((0:Nat):Int)]):=by
 intro H Q hq
 refine enter227 (by simp) ?_
 have hne:(d=0)=False:=by simp;omega
 simp(disch:=first|exact Xe|fail)only[ac227,hne,↓Xa,Xb,Xc,↓reduceIte,Nat.reduceLT,Nat.reduceEqDiff,Nat.reduceBEq,Nat.reduceLeDiff,Nat.reduceAdd,Nat.reduceMul]
 refine newU_i fun o ho=>?_
 simp(disch:=first|exact Xe|fail)only[↓Xa,Xb,Xc,↓reduceIte,Nat.reduceLT,Nat.reduceEqDiff,Nat.reduceBEq,Nat.reduceLeDiff,Nat.reduceAdd,Nat.reduceMul]
 refine W_loop (fun p:Nat×Nat×List Nat=>⟨[],[(0,LS a ta),(1,.int .u32 (d:Nat)),(7,.own o a.length 0 a.length true),(8,.int .u64 p.2.1),(9,.int .i64 (dn p.1))],
  H.upd o (some (.row 168 1 (U p.2.2)))⟩)
  (fun p=>p.1≤a.length∧DivI a d p.1 p.2.1 p.2.2) (fun p=>p.1) (a.length,0,List.replicate a.length 0) (Settle.now rfl) ⟨by simp,DivI.zero a hd⟩ ?_
 rintro⟨k,r,out⟩ ⟨h1,h2⟩
 dsimp only at h1 h2 ⊢
 have hol:=h2.1
 have hr:=h2.2.2.1
 cases k with
 |zero=>
  simp(disch:=first|exact Xe|fail)only[↓Xa,Xb,Xc,↓reduceIte,Nat.reduceLT,Nat.reduceEqDiff,Nat.reduceBEq,Nat.reduceLeDiff,Nat.reduceAdd,Nat.reduceMul]
  refine Settle.now ?_
  simp(disch:=first|exact Xe|fail)only[↓Xa,Xb,Xc,↓reduceIte,Nat.reduceLT,Nat.reduceEqDiff,Nat.reduceBEq,Nat.reduceLeDiff,Nat.reduceAdd,Nat.reduceMul]
  refine trim_call (upd_same _ _ _) hol ?_
  simp(disch:=first|exact Xe|fail)only[rs227,↓Xa,Xb,Xc,↓reduceIte,Nat.reduceLT,Nat.reduceEqDiff,Nat.reduceBEq,Nat.reduceLeDiff,Nat.reduceAdd,Nat.reduceMul]
  rw[h2.end.2]
  exact fin_tr3 ho hol (by rw[h2.end.1];exact hq)
 |succ k=>
  have hx:=ha.getD (by omega) k
  have hs:r*2^32+a.getD k 0<18446744073709551616:=by omega
  have hq:(r*2^32+a.getD k 0) / d<18446744073709551616:=Nat.lt_of_le_of_lt (Nat.div_le_self _ _) hs
  simp(disch:=first|exact Xe|fail)only[hne,ne_eq,↓Xa,Xb,Xc,↓reduceIte,Nat.reduceLT,Nat.reduceEqDiff,Nat.reduceBEq,Nat.reduceLeDiff,Nat.reduceAdd,Nat.reduceMul]
  refine Settle.now ⟨(k,_,_),by dsimp only;omega,⟨by dsimp only;omega,h2.step (by omega) ha hd' rfl⟩,rfl⟩
theorem lss_f{n:Nat}{K:AV→Prop}:binW .lss (.int .i64 (n:Int)) (.int .i64 ((0:Nat):Int)) K↔K (.bool false):=by rw[bin_lss];simp
theorem idxS_nat{s:ByteArray}{k:IntKind}{j:Nat}{K:AV→Prop}(h:j<s.size):idxSW (.str s) (.int k (j:Int)) K=K (.int .u8 ((byteAt s j:Nat):Int)):=by
 simp[idxSW,h]
theorem len8: ∀j,j<256→byteAt ⟨#[0,1,2,2,3,3,3,3,4,4,4,4,4,4,4,4,5,5,5,5,5,5,5,5,5,5,5,5,5,5,5,5,6,6,6,6,6,6,6,6,6,6,6,6,6,6,6,6,6,6,6,6,6,6,6,6,6,6,6,6,6,6,6,6,7,7,7,7,7,7,7,7,7,7,7,7,7,7,7,7,7,7,7,7,7,7,7,7,7,7,7,7,7,7,7,7,7,7,7,7,7,7,7,7,7,7,7,7,7,7,7,7,7,7,7,7,7,7,7,7,7,7,7,7,7,7,7,7,8,8,8,8,8,8,8,8,8,8,8,8,8,8,8,8,8,8,8,8,8,8,8,8,8,8,8,8,8,8,8,8,8,8,8,8,8,8,8,8,8,8,8,8,8,8,8,8,8,8,8,8,8,8,8,8,8,8,8,8,8,8,8,8,8,8,8,8,8,8,8,8,8,8,8,8,8,8,8,8,8,8,8,8,8,8,8,8,8,8,8,8,8,8,8,8,8,8,8,8,8,8,8,8,8,8,8,8,8,8,8,8,8,8,8,8,8,8,8,8,8,8,8,8,8,8,8,8]⟩ j=blen j:=by decide+kernel
theorem idx8{k:IntKind}{j:Nat}{K:AV→Prop}(h:j<256):idxSW (.str ⟨#[0,1,2,2,3,3,3,3,4,4,4,4,4,4,4,4,5,5,5,5,5,5,5,5,5,5,5,5,5,5,5,5,6,6,6,6,6,6,6,6,6,6,6,6,6,6,6,6,6,6,6,6,6,6,6,6,6,6,6,6,6,6,6,6,7,7,7,7,7,7,7,7,7,7,7,7,7,7,7,7,7,7,7,7,7,7,7,7,7,7,7,7,7,7,7,7,7,7,7,7,7,7,7,7,7,7,7,7,7,7,7,7,7,7,7,7,7,7,7,7,7,7,7,7,7,7,7,7,8,8,8,8,8,8,8,8,8,8,8,8,8,8,8,8,8,8,8,8,8,8,8,8,8,8,8,8,8,8,8,8,8,8,8,8,8,8,8,8,8,8,8,8,8,8,8,8,8,8,8,8,8,8,8,8,8,8,8,8,8,8,8,8,8,8,8,8,8,8,8,8,8,8,8,8,8,8,8,8,8,8,8,8,8,8,8,8,8,8,8,8,8,8,8,8,8,8,8,8,8,8,8,8,8,8,8,8,8,8,8,8,8,8,8,8,8,8,8,8,8,8,8,8,8,8,8,8]⟩) (.int k (j:Int)) K=K (.int .u8 ((blen j:Nat):Int)):=by
 have sz:(⟨#[0,1,2,2,3,3,3,3,4,4,4,4,4,4,4,4,5,5,5,5,5,5,5,5,5,5,5,5,5,5,5,5,6,6,6,6,6,6,6,6,6,6,6,6,6,6,6,6,6,6,6,6,6,6,6,6,6,6,6,6,6,6,6,6,7,7,7,7,7,7,7,7,7,7,7,7,7,7,7,7,7,7,7,7,7,7,7,7,7,7,7,7,7,7,7,7,7,7,7,7,7,7,7,7,7,7,7,7,7,7,7,7,7,7,7,7,7,7,7,7,7,7,7,7,7,7,7,7,8,8,8,8,8,8,8,8,8,8,8,8,8,8,8,8,8,8,8,8,8,8,8,8,8,8,8,8,8,8,8,8,8,8,8,8,8,8,8,8,8,8,8,8,8,8,8,8,8,8,8,8,8,8,8,8,8,8,8,8,8,8,8,8,8,8,8,8,8,8,8,8,8,8,8,8,8,8,8,8,8,8,8,8,8,8,8,8,8,8,8,8,8,8,8,8,8,8,8,8,8,8,8,8,8,8,8,8,8,8,8,8,8,8,8,8,8,8,8,8,8,8,8,8,8,8,8,8]⟩:ByteArray).size=256:=by decide+kernel
 rw[idxS_nat (by rw[sz];exact h),len8 j h]
theorem len32_fn{x:Nat}(hx:x<4294967296):PFn Tryz.prog 243 [.int .u32 (x:Int)] (.int .i64 ((blen x:Nat):Int)):=by
 intro H Q hq
 have hb:blen x≤32:=blen_le.2 (by omega)
 refine enter243 (by simp) ?_
 by_cases h1:65536≤x
 ·have e1:=blen_shift (n:=x) (s:=16) h1
  by_cases h2:256≤x / 2^16
  ·have e2:=blen_shift (n:=x / 2^16) (s:=8) h2
   have h3:x / 2^16 / 2^8<256:=by omega
   have hl:blen (x / 2^16 / 2^8)≤8:=blen_le.2 h3
   simp(disch:=first|exact Xe|fail)only[ac243,h1,h2,idx8,rs243,↓Xa,Xb,Xc,↓reduceIte,Nat.reduceLT,Nat.reduceEqDiff,Nat.reduceBEq,Nat.reduceLeDiff,Nat.reduceAdd,Nat.reduceMul]
   refine SetR.now ?_
   rwa[show 16+8+blen (x / 2^16 / 2^8)=blen x by omega]
  ·have h3:x / 2^16<256:=by omega
   have hl:blen (x / 2^16)≤8:=blen_le.2 h3
   simp(disch:=first|exact Xe|fail)only[ac243,h1,h2,idx8,rs243,↓Xa,Xb,Xc,↓reduceIte,Nat.reduceLT,Nat.reduceEqDiff,Nat.reduceBEq,Nat.reduceLeDiff,Nat.reduceAdd,Nat.reduceMul]
   refine SetR.now ?_
   rwa[show 16+blen (x / 2^16)=blen x by omega]
 ·by_cases h2:256≤x
  ·have e2:=blen_shift (n:=x) (s:=8) h2
   have h3:x / 2^8<256:=by omega
   have hl:blen (x / 2^8)≤8:=blen_le.2 h3
   simp(disch:=first|exact Xe|fail)only[ac243,h1,h2,idx8,rs243,↓Xa,Xb,Xc,↓reduceIte,Nat.reduceLT,Nat.reduceEqDiff,Nat.reduceBEq,Nat.reduceLeDiff,Nat.reduceAdd,Nat.reduceMul]
   refine SetR.now ?_
   rwa[show 0+8+blen (x / 2^8)=blen x by omega]
  ·have hl:blen x≤8:=blen_le.2 (by omega)
   simp(disch:=first|exact Xe|fail)only[ac243,h1,h2,idx8,rs243,↓Xa,Xb,Xc,↓reduceIte,Nat.reduceLT,Nat.reduceEqDiff,Nat.reduceBEq,Nat.reduceLeDiff,Nat.reduceAdd,Nat.reduceMul]
   refine SetR.now ?_
   exact hq
theorem lz_fn{x:Nat}(hx:x<4294967296):PFn Tryz.prog 232 [.int .u32 (x:Int)] (.int .i64 ((32-blen x:Nat):Int)):=by
 intro H Q hq
 have hb:blen x≤32:=blen_le.2 (by omega)
 refine enter232 (by simp) ?_
 simp(disch:=first|exact Xe|fail)only[ac232,↓Xa,Xb,Xc,↓reduceIte,Nat.reduceLT,Nat.reduceEqDiff,Nat.reduceBEq,Nat.reduceLeDiff,Nat.reduceAdd,Nat.reduceMul]
 refine(len32_fn hx).call ?_
 simp(disch:=first|exact Xe|fail)only[rs232,↓Xa,Xb,Xc,↓reduceIte,Nat.reduceLT,Nat.reduceEqDiff,Nat.reduceBEq,Nat.reduceLeDiff,Nat.reduceAdd,Nat.reduceMul]
 exact SetR.now hq
theorem shl_fn{a:List Nat}{s:Nat}(t:Bool)(ha:Lim 4294967296 a)(hs:s≤65536)(hn:a.length≤1099511627776):PFn Tryz.prog 222 [LS a t,.int .i64 (s:Int)] (.tup [LS (digs 4294967296 (val 4294967296 a*2^s)) true,.int .i64 ((0:Nat):Int)]):=by
 intro H Q hq
 have hnl: ¬65536<s:=by omega
 refine enter222 (by simp) ?_
 simp(disch:=first|exact Xe|fail)only[ac222,lss_f,hnl,ne_eq,Nat.reduceEqDiff,↓Xa,Xb,Xc,↓reduceIte,Nat.reduceLT,Nat.reduceEqDiff,Nat.reduceBEq,Nat.reduceLeDiff,Nat.reduceAdd,Nat.reduceMul]
 refine newU_i fun o ho=>?_
 simp(disch:=first|exact Xe|fail)only[ne_eq,Nat.reduceEqDiff,↓Xa,Xb,Xc,↓reduceIte,Nat.reduceLT,Nat.reduceEqDiff,Nat.reduceBEq,Nat.reduceLeDiff,Nat.reduceAdd,Nat.reduceMul]
 have hr:s%32<32:=Nat.mod_lt _ (by omega)
 have hse:32*(s / 32)+s%32=s:=Nat.div_add_mod s 32
 generalize hq32:s / 32=q at*
 generalize hp32:s%32=p at*
 refine W_loop (fun x:Nat×Nat×List Nat=>⟨[],[(1,.int .i64 s),(6,.own o (a.length+q+1) 0 (a.length+q+1) true),(7,.int .i64 p),(24,LS a t),(25,.int .i64 a.length),(26,.int .i64 x.1)],
  H.upd o (some (.row 168 1 (U (rowS q x.2.2 x.2.1 (a.length-x.1)))))⟩)
  (fun x=>x.1≤a.length∧ShlI a p x.1 x.2.1 x.2.2) (fun x=>a.length-x.1) (0,0,[]) (Settle.now (by rw[Nat.sub_zero,rowS_zero,show q+(a.length+1)=a.length+q+1 by omega])) ⟨by simp,ShlI.zero a p⟩ ?_
 rintro⟨i,c,done⟩ ⟨h1,h2⟩
 dsimp only at h1 h2 ⊢
 have hd:=h2.1
 by_cases hi:i<a.length
 ·have hx:=ha.getD (by omega) i
  subst hd
  obtain⟨k1,k2,k3⟩:=h2.step hr ha rfl
  have hc:=h2.2.2.1
  obtain⟨m,hm⟩: ∃m,a.length-done.length=m+1:=⟨a.length-done.length-1,by omega⟩
  have hy:a.getD done.length 0*2^p<18446744073709551616:=by
   have:a.getD done.length 0*2^p≤4294967295*2^31:=Nat.mul_le_mul (by omega) (Nat.pow_le_pow_right (by omega) (by omega))
   omega
  have hp64:p≤64:=by omega
  have hpl:(2:Nat)^p≤2^31:=Nat.pow_le_pow_right (by omega) (by omega)
  have lo:=or_low (m:=a.getD done.length 0*2^p%4294967296) hc (shl_low hr)
  generalize hY:a.getD done.length 0*2^p=y at*
  have len1: ∀c,(rowS q done c (m+1)).length=a.length+q+1:=fun c=>by rw[rowS_len];omega
  have len2:=len1 c
  have len3:=len1 (c+y%4294967296)
  have or1: ∀K,binW .or (.int .u32 (c:Int)) (.int .u32 ((y%4294967296:Nat):Int)) K↔K (.int .u32 ((c+y%4294967296:Nat):Int)):=fun K=>by
   rw[bin_or .u32 (by simp only[IntKind.bits];omega) (by simp only[IntKind.bits];omega),lo,wn_u32 k1]
  have or2: ∀K,binW .or (.int .u32 ((0:Nat):Int)) (.int .u32 ((y / 2^32:Nat):Int)) K↔K (.int .u32 ((y / 2^32:Nat):Int)):=fun K=>by
   rw[bin_or .u32 (by simp[IntKind.bits]) (by simp only[IntKind.bits];omega),Nat.zero_or,wn_u32 (by omega)]
  rw[hm]
  simp(disch:=first|exact Xe|fail)only[hi,hq32,hp32,hY,bin_shl64,rowS_get,rowS_set,rowS_get1,rowS_set1,or1,or2,ne_eq,Nat.reduceEqDiff,↓Xa,Xb,Xc,↓reduceIte,Nat.reduceLT,Nat.reduceEqDiff,Nat.reduceBEq,Nat.reduceLeDiff,Nat.reduceAdd,Nat.reduceMul]
  refine Settle.now ⟨(done.length+1,_,_),by dsimp only;omega,⟨by dsimp only;omega,k3⟩,?_⟩
  rw[show a.length-(done.length+1)=m by omega]
 ·obtain rfl:i=a.length:=by omega
  simp(disch:=first|exact Xe|fail)only[hi,Nat.sub_self,↓Xa,Xb,Xc,↓reduceIte,Nat.reduceLT,Nat.reduceEqDiff,Nat.reduceBEq,Nat.reduceLeDiff,Nat.reduceAdd,Nat.reduceMul]
  refine Settle.now ?_
  have len0:(rowS q done c 0).length=a.length+q+1:=by rw[rowS_len];omega
  simp(disch:=first|exact Xe|fail)only[↓Xa,Xb,Xc,↓reduceIte,Nat.reduceLT,Nat.reduceEqDiff,Nat.reduceBEq,Nat.reduceLeDiff,Nat.reduceAdd,Nat.reduceMul]
  refine trim_call (upd_same _ _ _) len0 ?_
  simp(disch:=first|exact Xe|fail)only[rs222,↓Xa,Xb,Xc,↓reduceIte,Nat.reduceLT,Nat.reduceEqDiff,Nat.reduceBEq,Nat.reduceLeDiff,Nat.reduceAdd,Nat.reduceMul]
  have e:=h2.end (q:=q) hr
  rw[hse]at e
  exact fin_tr2 ho len0 (by rw[e];exact hq)
theorem shr_fn{a:List Nat}{s:Nat}(t:Bool)(ha:Lim 4294967296 a)(hs:s<9223372036854775808)(hn:a.length≤1099511627776):PFn Tryz.prog 224 [LS a t,.int .i64 (s:Int)] (.tup [LS (digs 4294967296 (val 4294967296 a / 2^s)) true,.int .i64 ((0:Nat):Int)]):=by
 intro H Q hq
 refine enter224 (by simp) ?_
 simp(disch:=first|exact Xe|fail)only[ac224,lss_f,ne_eq,Nat.reduceEqDiff,↓Xa,Xb,Xc,↓reduceIte,Nat.reduceLT,Nat.reduceEqDiff,Nat.reduceBEq,Nat.reduceLeDiff,Nat.reduceAdd,Nat.reduceMul]
 refine(trim_fn a t).call ?_
 have ht:=tr_len a
 rw[tr_digs (by omega) ha]at ht ⊢
 generalize val 4294967296 a=N at*
 have hse:32*(s / 32)+s%32=s:=Nat.div_add_mod s 32
 have hr:s%32<32:=Nat.mod_lt _ (by omega)
 have hsq:s / 32<9223372036854775808:=by omega
 generalize hq32:s / 32=q at*
 generalize hp32:s%32=p at*
 have hN:=val_digs (B:=4294967296) (by omega) N
 have hX:=lim_digs (B:=4294967296) (by omega) N
 have hpow:(2:Nat)^s=4294967296^q*2^p:=by rw[← hse,Nat.pow_add,Nat.pow_mul]
 by_cases hql:(digs 4294967296 N).length≤q
 ·simp(disch:=first|exact Xe|fail)only[hq32,hql,ne_eq,Nat.reduceEqDiff,rs224,↓Xa,Xb,Xc,↓reduceIte,Nat.reduceLT,Nat.reduceEqDiff,Nat.reduceBEq,Nat.reduceLeDiff,Nat.reduceAdd,Nat.reduceMul]
  have h0:N / 2^s=0:=by
   apply Nat.div_eq_of_lt
   have h1:=val_lt hX
   rw[hN]at h1
   have h2:(4294967296:Nat)^(digs 4294967296 N).length≤4294967296^q:=Nat.pow_le_pow_right (by omega) hql
   have h3:4294967296^q*1≤4294967296^q*2^p:=Nat.mul_le_mul_left _ (Nat.pow_pos (by omega))
   omega
  rw[h0,digs_zero]at hq
  exact SetR.now hq
 ·have hvd:=val_drop_div (B:=4294967296) (by omega) hX (q:=q) (by omega)
  rw[hN]at hvd
  have hXd:=hX.drop q
  have hdl:((digs 4294967296 N).drop q).length≤a.length:=by rw[List.length_drop];omega
  simp(disch:=first|exact Xe|fail)only[hq32,hql,ne_eq,Nat.reduceEqDiff,↓Xa,Xb,Xc,↓reduceIte,Nat.reduceLT,Nat.reduceEqDiff,Nat.reduceBEq,Nat.reduceLeDiff,Nat.reduceAdd,Nat.reduceMul]
  generalize(digs 4294967296 N).drop q=x at*
  simp(disch:=first|exact Xe|fail)only[hq32,hp32,ne_eq,Nat.reduceEqDiff,↓Xa,Xb,Xc,↓reduceIte,Nat.reduceLT,Nat.reduceEqDiff,Nat.reduceBEq,Nat.reduceLeDiff,Nat.reduceAdd,Nat.reduceMul]
  refine newU_i fun o ho=>?_
  simp(disch:=first|exact Xe|fail)only[↓Xa,Xb,Xc,↓reduceIte,Nat.reduceLT,Nat.reduceEqDiff,Nat.reduceBEq,Nat.reduceLeDiff,Nat.reduceAdd,Nat.reduceMul]
  refine W_loop (fun z:Nat×List Nat=>⟨[],[(0,LS x true),(6,.int .i64 p),(7,.own o x.length 0 x.length true),(29,LS x true),(30,.int .i64 x.length),(31,.int .i64 z.1)],
   H.upd o (some (.row 168 1 (U (z.2++List.replicate (x.length-z.1) 0))))⟩)
   (fun z=>z.1≤x.length∧ShrI (val 4294967296 x) p z.1 z.2) (fun z=>x.length-z.1) (0,[]) (Settle.now rfl) ⟨by simp,rfl,Lim.nil _,by simp[val,Nat.mod_one]⟩ ?_
  rintro⟨i,done⟩ ⟨h1,h2⟩
  dsimp only at h1 h2 ⊢
  have hd:=h2.1
  by_cases hi:i<x.length
  ·have hx0:=hXd.getD (by omega) i
   have hx1:=hXd.getD (by omega) (i+1)
   have hp64:p≤64:=by omega
   by_cases hj:i+1<x.length
   ·have hyb:(x.getD i 0+x.getD (i+1) 0*2^32) / 2^p<18446744073709551616:=Nat.lt_of_le_of_lt (Nat.div_le_self _ _) (by omega)
    simp(disch:=first|exact Xe|fail)only[hi,hj,↓Xa,Xb,Xc,↓reduceIte,Nat.reduceLT,Nat.reduceEqDiff,Nat.reduceBEq,Nat.reduceLeDiff,Nat.reduceAdd,Nat.reduceMul]
    refine Settle.now ⟨(i+1,done++[_]),by dsimp only;omega,⟨by dsimp only;omega,h2.step hr hXd hi rfl⟩,?_⟩
    rw[set_zeros' _ _ _ _ hd hi]
   ·have h0:=getD_beyond (show x.length≤i+1 by omega)
    have e0:x.getD i 0 / 2^p<18446744073709551616:=Nat.lt_of_le_of_lt (Nat.div_le_self _ _) (by omega)
    simp(disch:=first|exact Xe|fail)only[hi,hj,↓Xa,Xb,Xc,↓reduceIte,Nat.reduceLT,Nat.reduceEqDiff,Nat.reduceBEq,Nat.reduceLeDiff,Nat.reduceAdd,Nat.reduceMul]
    refine Settle.now ⟨(i+1,done++[_]),by dsimp only;omega,⟨by dsimp only;omega,h2.step hr hXd hi (y:=x.getD i 0) (by rw[h0];omega)⟩,?_⟩
    rw[set_zeros' _ _ _ _ hd hi]
  ·obtain rfl:i=x.length:=by omega
   simp(disch:=first|exact Xe|fail)only[hi,Nat.sub_self,List.replicate_zero,↓Xa,Xb,Xc,↓reduceIte,Nat.reduceLT,Nat.reduceEqDiff,Nat.reduceBEq,Nat.reduceLeDiff,Nat.reduceAdd,Nat.reduceMul]
   refine Settle.now ?_
   simp(disch:=first|exact Xe|fail)only[↓Xa,Xb,Xc,↓reduceIte,Nat.reduceLT,Nat.reduceEqDiff,Nat.reduceBEq,Nat.reduceLeDiff,Nat.reduceAdd,Nat.reduceMul]
   refine trim_call (upd_same _ _ _) hd ?_
   simp(disch:=first|exact Xe|fail)only[rs224,↓Xa,Xb,Xc,↓reduceIte,Nat.reduceLT,Nat.reduceEqDiff,Nat.reduceBEq,Nat.reduceLeDiff,Nat.reduceAdd,Nat.reduceMul]
   refine fin_tr2 ho hd ?_
   rw[h2.end hXd,hvd,Nat.div_div_eq_div_mul,← hpow];exact hq
section
variable {H:AHeap} {b ty off L n:Nat} {ti:Bool} {pre u post:List Nat}
theorem less_run{v:List Nat}{t:Nat}(tv:Bool){Q:AV→AHeap→Prop}(hH:H b=some (.row ty 1 (U (pre++(u++post)))))(hL:L=pre.length+(u.length+post.length))(ho:off=pre.length)(hn:n=u.length)
 (hu:Lim 4294967296 u) (hv:Lim 4294967296 v) (ht:t<4294967296) (hvu:v.length<u.length) (hul:L≤2199023255552)
 (hq: ∀(w:List Nat)(bo:Nat),w.length=u.length→Lim 4294967296 w→bo≤1→val 4294967296 u+4294967296^u.length*bo=val 4294967296 w+t*val 4294967296 v→Q (.bool (decide (0<bo))) (H.upd b (some (.row ty 1 (U (pre++(w++post))))))):
 Run Tryz.prog 244 [.own b L off n ti,LS v tv,.int .u64 (t:Int)] H Q:=by
 subst hL;subst ho;subst hn
 refine enter244 (by simp) ?_
 simp(disch:=first|exact Xe|fail)only[ac244,↓Xa,Xb,Xc,↓reduceIte,Nat.reduceLT,Nat.reduceEqDiff,Nat.reduceBEq,Nat.reduceLeDiff,Nat.reduceAdd,Nat.reduceMul]
 refine W_loop (fun s:Nat×Nat×Nat×List Nat=>⟨[],[(0,.own b (pre.length+(u.length+post.length)) pre.length u.length ti),(1,LS v tv),(2,.int .u64 t),(7,.int .u64 s.2.1),(8,.int .u64 s.2.2.1),(12,.int .i64 u.length),(13,.int .i64 s.1)],
  H.upd b (some (.row ty 1 (U (pre++((s.2.2.2++u.drop s.1)++post)))))⟩)
  (fun s=>s.1≤u.length∧LessI u v t s.1 s.2.1 s.2.2.1 s.2.2.2) (fun s=>u.length-s.1) (0,0,0,[]) (Settle.now (by simp[upd_back _ hH])) ⟨by simp,LessI.zero u v t⟩ ?_
 rintro⟨i,c,bo,done⟩ ⟨h1,h2⟩
 dsimp only at h1 h2 ⊢
 have hd:=h2.1
 have hc:=h2.2.2.1
 have hbo:=h2.2.2.2.1
 by_cases hi:i<u.length
 ·have hx:=hu.getD (by omega) i
  have hy:=hv.getD (by omega) i
  have hm:v.getD i 0*t≤4294967295*4294967295:=Nat.mul_le_mul (by omega) (by omega)
  have hcl:(done++u.drop i).length=u.length:=by simp[hd];omega
  have len1:(pre++((done++u.drop i)++post)).length=pre.length+(u.length+post.length):=by simp only[List.length_append,hd,List.length_drop];omega
  have g1:(pre++((done++u.drop i)++post)).getD (pre.length+i) 0=u.getD i 0:=by rw[mid_get (by omega),part_get hd hi]
  have s1: ∀x,(pre++((done++u.drop i)++post)).set (pre.length+i) x=pre++(((done++[x])++u.drop (i+1))++post):=fun x=>by rw[mid_set (by omega),part_set hd hi]
  generalize hrow:pre++((done++u.drop i)++post)=row at*
  by_cases hj:i<v.length
  ·simp(disch:=first|exact Xe|fail)only[hi,hj,g1,↓Xa,Xb,Xc,↓reduceIte,Nat.reduceLT,Nat.reduceEqDiff,Nat.reduceBEq,Nat.reduceLeDiff,Nat.reduceAdd,Nat.reduceMul]
   rw[s1]
   refine Settle.now ⟨(i+1,_,_,_),by dsimp only;omega,⟨by dsimp only;omega,h2.step hu hv ht rfl rfl⟩,rfl⟩
  ·have h0:=getD_beyond (show v.length≤i by omega)
   simp(disch:=first|exact Xe|fail)only[hi,hj,g1,↓Xa,Xb,Xc,↓reduceIte,Nat.reduceLT,Nat.reduceEqDiff,Nat.reduceBEq,Nat.reduceLeDiff,Nat.reduceAdd,Nat.reduceMul]
   rw[s1]
   refine Settle.now ⟨(i+1,_,_,_),by dsimp only;omega,⟨by dsimp only;omega,h2.step hu hv ht (c1:=c) (by rw[h0];omega) rfl⟩,rfl⟩
 ·obtain rfl:i=u.length:=by omega
  simp(disch:=first|exact Xe|fail)only[hi,↓Xa,Xb,Xc,↓reduceIte,Nat.reduceLT,Nat.reduceEqDiff,Nat.reduceBEq,Nat.reduceLeDiff,Nat.reduceAdd,Nat.reduceMul]
  refine Settle.now ?_
  simp(disch:=first|exact Xe|fail)only[rs244,↓Xa,Xb,Xc,↓reduceIte,Nat.reduceLT,Nat.reduceEqDiff,Nat.reduceBEq,Nat.reduceLeDiff,Nat.reduceAdd,Nat.reduceMul]
  refine SetR.now ?_
  rw[List.drop_of_length_le (Nat.le_refl _),List.append_nil]
  exact hq done bo hd h2.2.1 hbo (h2.end hvu)
def scC:ACode→ACode
 |.scope0 c=>c
 |x=>x
theorem digit_run{v:List Nat}{m:Nat}(tv:Bool){Q:AV→AHeap→Prop}(h:DigI u v m)(hH:H b=some (.row ty 1 (U (pre++(u++post)))))(hL:L=pre.length+(u.length+post.length))(ho:off=pre.length)(hn:n=u.length)(hul:L≤2199023255552)
 (hq: ∀(w:List Nat),w.length=u.length→Lim 4294967296 w→val 4294967296 w=val 4294967296 u%val 4294967296 v→Q (.int .u32 ((val 4294967296 u / val 4294967296 v:Nat):Int)) (H.upd b (some (.row ty 1 (U (pre++(w++post))))))):
 Run Tryz.prog 233 [.own b L off n ti,LS v tv] H Q:=by
 subst hL;subst ho;subst hn
 have hlu:=h.hu
 have hlv:=h.hv
 have hq1:=h.q_lt
 have hl:=h.lims
 have htop:=h.top
 have hqm:val 4294967296 u / val 4294967296 v*val 4294967296 v+val 4294967296 u%val 4294967296 v=val 4294967296 u:=Nat.div_add_mod' _ _
 have hml:=Nat.mod_lt (val 4294967296 u) h.vpos
 have hvl:=val_lt h.lu
 refine enter233 (by simp) ?_
 have fin: ∀g,val 4294967296 u / val 4294967296 v≤g→g≤val 4294967296 u / val 4294967296 v+1→g<4294967296→W Tryz.prog (sndC (sndC (sndC (sndC (sndC (scC (sndC ac233))))))) (scopeA (retN rs233 Q)) ⟨[],[(0,.own b (pre.length+(u.length+post.length)) pre.length u.length ti),(1,LS v tv),(5,.int .i64 v.length),(7,.int .u64 g)],H⟩:=by
  intro g g1 g2 g3
  simp(disch:=first|exact Xe|fail)only[ac233,sndC,scC,↓Xa,Xb,Xc,↓reduceIte,Nat.reduceLT,Nat.reduceEqDiff,Nat.reduceBEq,Nat.reduceLeDiff,Nat.reduceAdd,Nat.reduceMul]
  refine run_call (less_run tv hH rfl rfl rfl h.lu h.lv g3 (by omega) hul fun w bo hw1 hw2 hb e=>?_)
  have hwl:=val_lt hw2
  rw[hw1]at hwl
  generalize val 4294967296 u / val 4294967296 v=q at*
  have hgv:g=q∨g=q+1:=by omega
  have hgm:g*val 4294967296 v=q*val 4294967296 v∨g*val 4294967296 v=q*val 4294967296 v+val 4294967296 v:=by
   rcases hgv with e|e
   ·left;rw[e]
   ·right;rw[e,Nat.add_mul,Nat.one_mul]
  have hbc:bo=0∨bo=1:=by omega
  rcases hbc with rfl|rfl
  ·have hg:g=q:=by
    rcases hgv with e1|e1
    ·exact e1
    ·rw[e1,Nat.add_mul,Nat.one_mul]at e;omega
   simp(disch:=first|exact Xe|fail)only[rs233,↓Xa,Xb,Xc,↓reduceIte,Nat.reduceLT,Nat.reduceEqDiff,Nat.reduceBEq,Nat.reduceLeDiff,Nat.reduceAdd,Nat.reduceMul]
   refine SetR.now ?_
   rw[hg]
   exact hq w hw1 hw2 (by rw[hg]at e;omega)
  ·have hg:g=q+1:=by
    rcases hgv with e1|e1
    ·rw[e1]at e;omega
    ·exact e1
   subst hg
   simp(disch:=first|exact Xe|fail)only[↓Xa,Xb,Xc,↓reduceIte,Nat.reduceLT,Nat.reduceEqDiff,Nat.reduceBEq,Nat.reduceLeDiff,Nat.reduceAdd,Nat.reduceMul]
   refine W_loop (fun s:Nat×Nat×List Nat=>⟨[],[(0,.own b (pre.length+(u.length+post.length)) pre.length u.length ti),(1,LS v tv),(5,.int .i64 v.length),(7,.int .u64 q),(9,.int .u64 s.2.1),(88,.int .i64 u.length),(89,.int .i64 s.1)],
    H.upd b (some (.row ty 1 (U (pre++((s.2.2++w.drop s.1)++post)))))⟩)
    (fun s=>s.1≤u.length∧AddI w v s.1 s.2.1 s.2.2) (fun s=>u.length-s.1) (0,0,[]) (Settle.now rfl) ⟨by simp,AddI.zero w v⟩ ?_
   rintro⟨i,c,done⟩ ⟨h1,h2⟩
   dsimp only at h1 h2 ⊢
   have hd:=h2.1
   have hc:=h2.2.2.1
   by_cases hi:i<u.length
   ·have hiw:i<w.length:=by omega
    have hx:=hw2.getD (by omega) i
    have hy:=h.lv.getD (by omega) i
    have len1:(pre++((done++w.drop i)++post)).length=pre.length+(u.length+post.length):=by simp only[List.length_append,hd,List.length_drop];omega
    have hcl:i<(done++w.drop i).length:=by simp only[List.length_append,hd,List.length_drop];omega
    have g1:(pre++((done++w.drop i)++post)).getD (pre.length+i) 0=w.getD i 0:=by rw[mid_get hcl,part_get hd hiw]
    have s1: ∀x,(pre++((done++w.drop i)++post)).set (pre.length+i) x=pre++(((done++[x])++w.drop (i+1))++post):=fun x=>by rw[mid_set hcl,part_set hd hiw]
    generalize hrow:pre++((done++w.drop i)++post)=row at*
    by_cases hj:i<v.length
    ·simp(disch:=first|exact Xe|fail)only[hi,hj,g1,↓Xa,Xb,Xc,↓reduceIte,Nat.reduceLT,Nat.reduceEqDiff,Nat.reduceBEq,Nat.reduceLeDiff,Nat.reduceAdd,Nat.reduceMul]
     rw[s1]
     refine Settle.now ⟨(i+1,_,_),by dsimp only;omega,⟨by dsimp only;omega,h2.step hw2 h.lv rfl⟩,rfl⟩
    ·have h0:=getD_beyond (show v.length≤i by omega)
     simp(disch:=first|exact Xe|fail)only[hi,hj,g1,↓Xa,Xb,Xc,↓reduceIte,Nat.reduceLT,Nat.reduceEqDiff,Nat.reduceBEq,Nat.reduceLeDiff,Nat.reduceAdd,Nat.reduceMul]
     rw[s1]
     refine Settle.now ⟨(i+1,_,_),by dsimp only;omega,⟨by dsimp only;omega,h2.step hw2 h.lv (s:=c+w.getD i 0) (by omega)⟩,rfl⟩
   ·obtain rfl:i=u.length:=by omega
    simp(disch:=first|exact Xe|fail)only[hi,↓Xa,Xb,Xc,↓reduceIte,Nat.reduceLT,Nat.reduceEqDiff,Nat.reduceBEq,Nat.reduceLeDiff,Nat.reduceAdd,Nat.reduceMul]
    refine Settle.now ?_
    simp(disch:=first|exact Xe|fail)only[rs233,↓Xa,Xb,Xc,↓reduceIte,Nat.reduceLT,Nat.reduceEqDiff,Nat.reduceBEq,Nat.reduceLeDiff,Nat.reduceAdd,Nat.reduceMul]
    refine SetR.now ?_
    rw[List.drop_of_length_le (by omega),List.append_nil]
    refine hq done hd h2.2.1 ?_
    have e2:=h2.2.2.2
    rw[List.take_of_length_le (by omega),List.take_of_length_le (by omega)]at e2
    have hdl:=val_lt h2.2.1
    rw[hd]at hdl
    rw[Nat.add_mul,Nat.one_mul]at e
    have hcc:c=0∨c=1:=by omega
    rcases hcc with rfl|rfl<;>omega
 have gl: ∀i,i<u.length→(pre++(u++post)).getD (pre.length+i) 0=u.getD i 0:=fun i hi=>mid_get hi
 have hul2:(pre++(u++post)).length=pre.length+(u.length+post.length):=by simp
 have g1:=gl (m+2) (by omega)
 have g2:=gl (m+1) (by omega)
 have g3:=gl m (by omega)
 have e1:m+2-1=m+1:=by omega
 have e2:m+2-2=m:=by omega
 have hst:=h.start
 have hU2:U2 u m=u.getD (m+2) 0*2^32+u.getD (m+1) 0:=rfl
 have hne:(v.getD (m+1) 0=0)=False:=eq_false (by omega)
 have hrl:U2 u m%v.getD (m+1) 0<v.getD (m+1) 0:=Nat.mod_lt _ (by omega)
 have hgl:U2 u m / v.getD (m+1) 0<18446744073709551616:=Nat.lt_of_le_of_lt (Nat.div_le_self _ _) (by rw[hU2];omega)
 generalize hrow:pre++(u++post)=row at*
 simp(disch:=first|exact Xe|fail)only[ac233,hH,hlv,e1,e2,g1,g2,← hU2,hne,ne_eq,↓Xa,Xb,Xc,↓reduceIte,Nat.reduceLT,Nat.reduceEqDiff,Nat.reduceBEq,Nat.reduceLeDiff,Nat.reduceAdd,Nat.reduceMul]
 simp only[hlv]at fin
 refine W_loop (fun s:Nat×Nat=>⟨[],[(0,.own b (pre.length+(u.length+post.length)) pre.length u.length ti),(1,LS v tv),(5,.int .i64 ((m+2:Nat):Int)),(7,.int .u64 s.1),(8,.int .u64 s.2)],H⟩)
  (fun s=>GuessI u v m s.1 s.2∧s.2<4294967296) (fun s=>s.1) (U2 u m / v.getD (m+1) 0,U2 u m%v.getD (m+1) 0) (Settle.now rfl) ⟨hst,by dsimp only;omega⟩ ?_
 rintro⟨g,r⟩ ⟨hg,hr⟩
 dsimp only at hg hr ⊢
 have hgm:=hg.2.2
 have next:(4294967296≤g∨r*2^32+u.getD m 0<g*v.getD m 0)→0<g∧GuessI u v m (g-1) (r+v.getD (m+1) 0):=fun hc=>hg.step h hc
 have leave:(4294967296≤g∨r*2^32+u.getD m 0<g*v.getD m 0)→4294967296≤r+v.getD (m+1) 0→val 4294967296 u / val 4294967296 v≤g-1∧g-1≤val 4294967296 u / val 4294967296 v+1∧g-1<4294967296:=fun hc hr'=>by
  have h1:=next hc
  have h2:=h1.2.endB h hr' (by omega)
  have h3:=h1.2.2.1
  exact⟨h3,by omega,Nat.lt_of_le_of_lt h2 hq1⟩
 by_cases hgB:4294967296≤g
 ·have c1:0<g / 2^32:=by omega
  have hp:=(next (.inl hgB)).1
  by_cases hr':4294967296≤r+v.getD (m+1) 0
  ·have c2:0<(r+v.getD (m+1) 0) / 2^32:=by omega
   obtain⟨f1,f2,f3⟩:=leave (.inl hgB) hr'
   simp(disch:=first|exact Xe|fail)only[hH,e1,e2,g1,g2,g3,c1,c2,↓Xa,Xb,Xc,↓reduceIte,Nat.reduceLT,Nat.reduceEqDiff,Nat.reduceBEq,Nat.reduceLeDiff,Nat.reduceAdd,Nat.reduceMul]
   exact Settle.keep [0,1,5,7] (fin (g-1) f1 f2 f3)
  ·have c2: ¬0<(r+v.getD (m+1) 0) / 2^32:=by omega
   simp(disch:=first|exact Xe|fail)only[hH,e1,e2,g1,g2,g3,c1,c2,↓Xa,Xb,Xc,↓reduceIte,Nat.reduceLT,Nat.reduceEqDiff,Nat.reduceBEq,Nat.reduceLeDiff,Nat.reduceAdd,Nat.reduceMul]
   exact Settle.keep [0,1,5,7,8] ⟨(g-1,r+v.getD (m+1) 0),by dsimp only;omega,⟨(next (.inl hgB)).2,by dsimp only;omega⟩,rfl⟩
 ·have c1: ¬0<g / 2^32:=by omega
  have hm2:g*v.getD m 0≤4294967295*4294967295:=Nat.mul_le_mul (by omega) (by omega)
  by_cases hc:r*2^32+u.getD m 0<g*v.getD m 0
  ·have hp:=(next (.inr hc)).1
   by_cases hr':4294967296≤r+v.getD (m+1) 0
   ·have c2:0<(r+v.getD (m+1) 0) / 2^32:=by omega
    obtain⟨f1,f2,f3⟩:=leave (.inr hc) hr'
    simp(disch:=first|exact Xe|fail)only[hH,e1,e2,g1,g2,g3,c1,c2,hc,↓Xa,Xb,Xc,↓reduceIte,Nat.reduceLT,Nat.reduceEqDiff,Nat.reduceBEq,Nat.reduceLeDiff,Nat.reduceAdd,Nat.reduceMul]
    exact Settle.keep [0,1,5,7] (fin (g-1) f1 f2 f3)
   ·have c2: ¬0<(r+v.getD (m+1) 0) / 2^32:=by omega
    simp(disch:=first|exact Xe|fail)only[hH,e1,e2,g1,g2,g3,c1,c2,hc,↓Xa,Xb,Xc,↓reduceIte,Nat.reduceLT,Nat.reduceEqDiff,Nat.reduceBEq,Nat.reduceLeDiff,Nat.reduceAdd,Nat.reduceMul]
    exact Settle.keep [0,1,5,7,8] ⟨(g-1,r+v.getD (m+1) 0),by dsimp only;omega,⟨(next (.inr hc)).2,by dsimp only;omega⟩,rfl⟩
  ·simp(disch:=first|exact Xe|fail)only[hH,e1,e2,g1,g2,g3,c1,hc,↓Xa,Xb,Xc,↓reduceIte,Nat.reduceLT,Nat.reduceEqDiff,Nat.reduceBEq,Nat.reduceLeDiff,Nat.reduceAdd,Nat.reduceMul]
   exact Settle.keep [0,1,5,7] (fin g hg.2.1 (hg.endA h (by omega) (by omega)) (by omega))
end
theorem LS_0(B:Nat):AV.seq 0 [] true=LS (digs B 0) true:=by rw[digs_zero];rfl
theorem lss_cmp{m n:Nat}{K:AV→Prop}:binW .lss (.int .i64 (cmpZ m n)) (.int .i64 ((0:Nat):Int)) K↔K (.bool (decide (m<n))):=by
 have:(cmpZ m n<((0:Nat):Int))↔m<n:=by unfold cmpZ;split<;>simp_all;split<;>omega
 simp only[binW,binInt,true_and,this]
theorem fin_trL{l x:List Nat}{b ty n:Nat}{t:Bool}{H:AHeap}{Q:AV→AHeap→Prop}{k:IntKind}{m:Int}(hb:H b=none)(hn:l.length=n)(hq:Q (.tup [LS (tr l) true,LS x t,.int k m]) H):SetR Q (.tup [.own b n 0 (tr l).length true,LS x t,.int k m]) (H.upd b (some (.row ty 1 (U l)))):=by
 refine SetR.frz b (upd_same _ _ _) ?_
 rw[upd_upd,upd_back _ hb,frz,List.map_cons,List.map_cons,List.map_cons,List.map_nil,frz2_tr hn,frz2_int]
 exact SetR.now hq
theorem app_LS{H:AHeap}{ty n:Nat}{l m:List Nat}{t:Bool}{K:AV→AHeap→Prop}(hn:n=m.length)(hm:m≠[])(hb:l.length+m.length≤17592186044416)
 (k: ∀b,H b=none→K (.own b (l.length+m.length) 0 (l.length+m.length) false) (H.upd b (some (.row ty 1 (U (l++m)))))):appV H ty 1 4 (LS l true) (.seq n (U m) t) K:=by
 subst hn
 have hpos:0<m.length:=List.length_pos_iff.2 hm
 refine .inl ⟨by simp,U_cell m,rfl,by simp,by omega,by omega,fun e=>absurd e (by omega),fun _ b hb'=>?_⟩
 have:=k b hb'
 rw[U_app]at this
 simpa using this
theorem divmod_lt{a b:List Nat}(ta tb:Bool)(ha:Lim 4294967296 a)(hb:Lim 4294967296 b)(h0:0<val 4294967296 b)(hla:a.length≤549755813888)(hlb:b.length≤549755813888)(hlt:val 4294967296 a<val 4294967296 b):
 PFn Tryz.prog 213 [LS a ta,LS b tb] (.tup [LS (digs 4294967296 (val 4294967296 a / val 4294967296 b)) true,LS (digs 4294967296 (val 4294967296 a%val 4294967296 b)) true,.int .i64 ((0:Nat):Int)]):=by
 intro H Q hq
 refine enter213 (by simp) ?_
 simp(disch:=first|exact Xe|fail)only[ac213,↓Xa,Xb,Xc,↓reduceIte,Nat.reduceLT,Nat.reduceEqDiff,Nat.reduceBEq,Nat.reduceLeDiff,Nat.reduceAdd,Nat.reduceMul]
 refine(trim_fn b tb).call ?_
 have htb:=tr_len b
 rw[tr_digs (by omega) hb]at htb ⊢
 generalize val 4294967296 b=Bv at*
 have hY:=lim_digs (B:=4294967296) (by omega) Bv
 have hYv:=val_digs (B:=4294967296) (by omega) Bv
 have hYp:0<(digs 4294967296 Bv).length:=by rw[digs_pos (by omega) h0];simp
 generalize digs 4294967296 Bv=Y at*
 have hY0:(Y.length=0)=False:=eq_false (by omega)
 simp(disch:=first|exact Xe|fail)only[hY0,↓Xa,Xb,Xc,↓reduceIte,Nat.reduceLT,Nat.reduceEqDiff,Nat.reduceBEq,Nat.reduceLeDiff,Nat.reduceAdd,Nat.reduceMul]
 refine(cmp_fn ta true ha hY).call ?_
 rw[hYv]
 simp(disch:=first|exact Xe|fail)only[lss_cmp,hlt,↓Xa,Xb,Xc,↓reduceIte,Nat.reduceLT,Nat.reduceEqDiff,Nat.reduceBEq,Nat.reduceLeDiff,Nat.reduceAdd,Nat.reduceMul]
 refine(norm_fn ta (by omega)).call ?_
 rw[tr_digs (by omega) ha]
 simp(disch:=first|exact Xe|fail)only[rs213,↓Xa,Xb,Xc,↓reduceIte,Nat.reduceLT,Nat.reduceEqDiff,Nat.reduceBEq,Nat.reduceLeDiff,Nat.reduceAdd,Nat.reduceMul]
 rw[Nat.div_eq_of_lt hlt,Nat.mod_eq_of_lt hlt,← LS_0 4294967296]at hq
 exact SetR.now hq
theorem divmod_one{a b:List Nat}(ta tb:Bool)(ha:Lim 4294967296 a)(hb:Lim 4294967296 b)(h0:0<val 4294967296 b)(hla:a.length≤549755813888)(hlb:b.length≤549755813888)(hlt: ¬val 4294967296 a<val 4294967296 b)(h1:(digs 4294967296 (val 4294967296 b)).length=1):
 PFn Tryz.prog 213 [LS a ta,LS b tb] (.tup [LS (digs 4294967296 (val 4294967296 a / val 4294967296 b)) true,LS (digs 4294967296 (val 4294967296 a%val 4294967296 b)) true,.int .i64 ((0:Nat):Int)]):=by
 intro H Q hq
 refine enter213 (by simp) ?_
 simp(disch:=first|exact Xe|fail)only[ac213,↓Xa,Xb,Xc,↓reduceIte,Nat.reduceLT,Nat.reduceEqDiff,Nat.reduceBEq,Nat.reduceLeDiff,Nat.reduceAdd,Nat.reduceMul]
 refine(trim_fn b tb).call ?_
 rw[tr_digs (by omega) hb]
 generalize val 4294967296 b=Bv at*
 have hY:=lim_digs (B:=4294967296) (by omega) Bv
 have hYv:=val_digs (B:=4294967296) (by omega) Bv
 generalize digs 4294967296 Bv=Y at*
 simp(disch:=first|exact Xe|fail)only[h1,↓Xa,Xb,Xc,↓reduceIte,Nat.reduceLT,Nat.reduceEqDiff,Nat.reduceBEq,Nat.reduceLeDiff,Nat.reduceAdd,Nat.reduceMul]
 refine(cmp_fn ta true ha hY).call ?_
 rw[hYv]
 have hd:val 4294967296 Y=Y.getD 0 0:=by
  have:=val_take_all 4294967296 Y (0+1) (by omega)
  rw[← this,val_take];simp[val]
 rw[hYv]at hd
 have hBl:Bv<4294967296:=by rw[hd];exact hY.getD (by omega) 0
 simp(disch:=first|exact Xe|fail)only[lss_cmp,hlt,h1,load_LS0,← hd,↓Xa,Xb,Xc,↓reduceIte,Nat.reduceLT,Nat.reduceEqDiff,Nat.reduceBEq,Nat.reduceLeDiff,Nat.reduceAdd,Nat.reduceMul]
 refine(divsmall_fn ta ha h0 hBl (by omega)).call ?_
 simp(disch:=first|exact Xe|fail)only[↓Xa,Xb,Xc,↓reduceIte,Nat.reduceLT,Nat.reduceEqDiff,Nat.reduceBEq,Nat.reduceLeDiff,Nat.reduceAdd,Nat.reduceMul]
 have hm:val 4294967296 a%Bv<4294967296:=Nat.lt_trans (Nat.mod_lt _ h0) hBl
 refine(norm_fn (l:=[val 4294967296 a%Bv]) true (by simp)).call ?_
 rw[tr_digs (by omega) (Lim.one hm),val_one]
 simp(disch:=first|exact Xe|fail)only[rs213,↓Xa,Xb,Xc,↓reduceIte,Nat.reduceLT,Nat.reduceEqDiff,Nat.reduceBEq,Nat.reduceLeDiff,Nat.reduceAdd,Nat.reduceMul]
 exact SetR.now hq
theorem divmod_many{a b:List Nat}(ta tb:Bool)(ha:Lim 4294967296 a)(hb:Lim 4294967296 b)(h0:0<val 4294967296 b)(hla:a.length≤549755813888)(hlb:b.length≤549755813888)(hlt: ¬val 4294967296 a<val 4294967296 b)(h1: ¬(digs 4294967296 (val 4294967296 b)).length=1):
 PFn Tryz.prog 213 [LS a ta,LS b tb] (.tup [LS (digs 4294967296 (val 4294967296 a / val 4294967296 b)) true,LS (digs 4294967296 (val 4294967296 a%val 4294967296 b)) true,.int .i64 ((0:Nat):Int)]):=by
 intro H Q hq
 refine enter213 (by simp) ?_
 simp(disch:=first|exact Xe|fail)only[ac213,↓Xa,Xb,Xc,↓reduceIte,Nat.reduceLT,Nat.reduceEqDiff,Nat.reduceBEq,Nat.reduceLeDiff,Nat.reduceAdd,Nat.reduceMul]
 refine(trim_fn b tb).call ?_
 have htb:=tr_len b
 rw[tr_digs (by omega) hb]at htb ⊢
 generalize val 4294967296 b=Bv at*
 have hY:=lim_digs (B:=4294967296) (by omega) Bv
 have hYv:=val_digs (B:=4294967296) (by omega) Bv
 have hYp:0<(digs 4294967296 Bv).length:=by rw[digs_pos (by omega) h0];simp
 have hY0:((digs 4294967296 Bv).length=0)=False:=eq_false (by omega)
 simp(disch:=first|exact Xe|fail)only[hY0,↓Xa,Xb,Xc,↓reduceIte,Nat.reduceLT,Nat.reduceEqDiff,Nat.reduceBEq,Nat.reduceLeDiff,Nat.reduceAdd,Nat.reduceMul]
 refine(cmp_fn ta true ha hY).call ?_
 rw[hYv]
 have hn2:2≤(digs 4294967296 Bv).length:=by omega
 have htop:=hY.getD (by omega) ((digs 4294967296 Bv).length-1)
 have htl:blen ((digs 4294967296 Bv).getD ((digs 4294967296 Bv).length-1) 0)≤32:=blen_le.2 (by omega)
 simp(disch:=first|exact Xe|fail)only[lss_cmp,hlt,h1,↓Xa,Xb,Xc,↓reduceIte,Nat.reduceLT,Nat.reduceEqDiff,Nat.reduceBEq,Nat.reduceLeDiff,Nat.reduceAdd,Nat.reduceMul]
 refine(lz_fn htop).call ?_
 generalize hs:32-blen ((digs 4294967296 Bv).getD ((digs 4294967296 Bv).length-1) 0)=s at*
 have hs32:s≤32:=by omega
 obtain⟨w1,w2,w3⟩:=shifted h0 hs.symm
 simp(disch:=first|exact Xe|fail)only[↓Xa,Xb,Xc,↓reduceIte,Nat.reduceLT,Nat.reduceEqDiff,Nat.reduceBEq,Nat.reduceLeDiff,Nat.reduceAdd,Nat.reduceMul]
 refine(shl_fn true hY (by omega) (by omega)).call ?_
 rw[hYv]
 simp(disch:=first|exact Xe|fail)only[↓Xa,Xb,Xc,↓reduceIte,Nat.reduceLT,Nat.reduceEqDiff,Nat.reduceBEq,Nat.reduceLeDiff,Nat.reduceAdd,Nat.reduceMul]
 refine(shl_fn ta ha (by omega) (by omega)).call ?_
 have hV0:0<Bv*2^s:=Nat.mul_pos h0 (Nat.pow_pos (by omega))
 have hlv:=lim_digs (B:=4294967296) (by omega) (Bv*2^s)
 have hvv:=val_digs (B:=4294967296) (by omega) (Bv*2^s)
 have hlu:=lim_digs (B:=4294967296) (by omega) (val 4294967296 a*2^s)
 have hvu:=val_digs (B:=4294967296) (by omega) (val 4294967296 a*2^s)
 have hAB:Bv*2^s≤val 4294967296 a*2^s:=Nat.mul_le_mul_right _ (by omega)
 have hll:(digs 4294967296 (Bv*2^s)).length≤(digs 4294967296 (val 4294967296 a*2^s)).length:=by
  rcases Nat.lt_or_ge (digs 4294967296 (val 4294967296 a*2^s)).length (digs 4294967296 (Bv*2^s)).length with h|h
  ·have:=digs_lt_len (by omega) h;omega
  ·exact h
 have hul:(digs 4294967296 (val 4294967296 a*2^s)).length≤a.length+1:=digs_len (by omega) _ _ (by
  have h1:=val_lt ha
  have h2:(2:Nat)^s≤2^32:=Nat.pow_le_pow_right (by omega) hs32
  rw[Nat.pow_succ]
  exact Nat.mul_lt_mul_of_lt_of_le h1 h2 (by omega))
 rw[w1]at hll
 have hdiv:val 4294967296 a*2^s / (Bv*2^s)=val 4294967296 a / Bv:=Nat.mul_div_mul_right _ _ (Nat.pow_pos (by omega))
 have hmod:val 4294967296 a*2^s%(Bv*2^s) / 2^s=val 4294967296 a%Bv:=by
  rw[Nat.mul_mod_mul_right,Nat.mul_div_cancel _ (Nat.pow_pos (by omega))]
 generalize val 4294967296 a*2^s=T at*
 generalize Bv*2^s=V at*
 generalize digs 4294967296 V=v at*
 generalize hn:(digs 4294967296 Bv).length=n at*
 generalize digs 4294967296 T=u0 at*
 simp(disch:=first|exact Xe|fail)only[↓Xa,Xb,Xc,↓reduceIte,Nat.reduceLT,Nat.reduceEqDiff,Nat.reduceBEq,Nat.reduceLeDiff,Nat.reduceAdd,Nat.reduceMul]
 refine app_LS (l:=u0) (m:=[0]) rfl (by simp) (by simp;omega) fun bu hbu=>?_
 obtain⟨k0,hk0⟩: ∃k0,u0.length=n+k0:=⟨u0.length-n,by omega⟩
 have hum:u0.length+[0].length=n+k0+1:=by simp[hk0]
 rw[hum]
 have hdn:n+k0+1-n=k0+1:=by omega
 simp(disch:=first|exact Xe|fail)only[w1,hdn,↓Xa,Xb,Xc,↓reduceIte,Nat.reduceLT,Nat.reduceEqDiff,Nat.reduceBEq,Nat.reduceLeDiff,Nat.reduceAdd,Nat.reduceMul]
 refine newU_i fun bq hbq=>?_
 have nb:=hbq
 simp only[upd_none]at nb
 obtain⟨nbA,nbq⟩:=nb
 simp(disch:=first|exact Xe|fail)only[hdn,Nat.add_sub_cancel,↓Xa,Xb,Xc,↓reduceIte,Nat.reduceLT,Nat.reduceEqDiff,Nat.reduceBEq,Nat.reduceLeDiff,Nat.reduceAdd,Nat.reduceMul]
 have hlz:(u0++[0]).length=n+k0+1:=by simp[hk0]
 refine W_loop (fun z:Nat×List Nat×List Nat=>⟨[],[(10,.int .i64 s),(11,LS v true),(13,.own bu (n+k0+1) 0 (n+k0+1) false),(15,.int .i64 n),(16,.own bq (k0+1) 0 (k0+1) true),(17,.int .i64 (dn z.1))],
  (H.upd bu (some (.row 168 1 (U z.2.1)))).upd bq (some (.row 168 1 (U z.2.2)))⟩)
  (fun z=>DivK T V n k0 z.1 z.2.1 z.2.2) (fun z=>z.1) (k0+1,u0++[0],List.replicate (k0+1) 0) (Settle.now rfl) ?_ ?_
 ·refine⟨Nat.le_refl _,hlz,lim_snoc hlu (by omega),by simp,lim_zeros (by omega) _,?_,?_⟩
  ·
   have e:=val_append 4294967296 (u0.drop (k0+1)) [0]
   have h1:=val_lt (hlu.drop (k0+1))
   rw[List.length_drop]at h1
   have h2:(u0++[0]).drop (k0+1)=u0.drop (k0+1)++[0]:=by rw[List.drop_append_of_le_length (by omega)]
   rw[h2,e,val_one,Nat.mul_zero,Nat.add_zero]
   have h3:=val_top1 (B:=4294967296) (l:=v) (n:=n-1) (by omega)
   rw[hvv]at h3
   have h4:4294967296^(n-1)*1≤4294967296^(n-1)*v.getD (n-1) 0:=Nat.mul_le_mul_left _ (by omega)
   rw[show u0.length-(k0+1)=n-1 by omega]at h1
   omega
  ·have z:val 4294967296 []=0:=rfl
   show T=V*(4294967296^(k0+1)*val 4294967296 ((List.replicate (k0+1) 0).drop (k0+1)))+val 4294967296 (u0++[0])
   rw[List.drop_of_length_le (Nat.le_of_eq List.length_replicate),val_snoc,hvu,z,Nat.mul_zero,Nat.mul_zero,Nat.mul_zero,Nat.zero_add,Nat.add_zero]
 rintro⟨M,ul,ql⟩ hk
 dsimp only at hk ⊢
 have hu1:=hk.ulen
 have hq1:=hk.qlen
 cases M with
 |zero=>
  obtain⟨d1,d2⟩:=hk.end
  simp(disch:=first|exact Xe|fail)only[↓Xa,Xb,Xc,↓reduceIte,Nat.reduceLT,Nat.reduceEqDiff,Nat.reduceBEq,Nat.reduceLeDiff,Nat.reduceAdd,Nat.reduceMul]
  refine Settle.freeze 13 rfl (by rw[upd_otherA nbA.symm,upd_same]) (by simp[hu1]) (.inr (by simp)) ?_
  have e1:AV.seq (n+k0+1) (((U ul).drop 0).take ((n+k0+1)*1)) false=LS ul false:=by
   rw[List.drop_zero,Nat.mul_one,← hu1,List.take_of_length_le (by simp)];rfl
  rw[e1,upd_over nbA,upd_back H hbu]
  refine Settle.now ?_
  simp(disch:=first|exact Xe|fail)only[↓Xa,Xb,Xc,↓reduceIte,Nat.reduceLT,Nat.reduceEqDiff,Nat.reduceBEq,Nat.reduceLeDiff,Nat.reduceAdd,Nat.reduceMul]
  refine(shr_fn false hk.ulim (by omega) (by omega)).call ?_
  rw[d2,hmod]
  simp(disch:=first|exact Xe|fail)only[↓Xa,Xb,Xc,↓reduceIte,Nat.reduceLT,Nat.reduceEqDiff,Nat.reduceBEq,Nat.reduceLeDiff,Nat.reduceAdd,Nat.reduceMul]
  refine trim_call (upd_same _ _ _) hq1 ?_
  simp(disch:=first|exact Xe|fail)only[rs213,↓Xa,Xb,Xc,↓reduceIte,Nat.reduceLT,Nat.reduceEqDiff,Nat.reduceBEq,Nat.reduceLeDiff,Nat.reduceAdd,Nat.reduceMul]
  refine fin_trL nbq hq1 ?_
  rw[tr_digs (by omega) hk.qlim,d1,hdiv]
  exact hq
 |succ k=>
  have hM:=hk.hM
  have hkl:k≤k0:=by omega
  obtain⟨s1,s2,s3⟩:=hk.seg w2
  have hseg:((ul.drop k).take (n+1)).length=n+1:=by rw[List.length_take,List.length_drop];omega
  have hparts:ul=ul.take k++((ul.drop k).take (n+1)++ul.drop (k+(n+1))):=by
   rw[← List.drop_drop,List.take_append_drop,List.take_append_drop]
  have hD:DigI ((ul.drop k).take (n+1)) v (n-2):=by
   refine⟨by omega,by omega,(hk.ulim.drop k).take _,hlv,?_,?_⟩
   ·rw[show n-2+1=n-1 by omega];exact w3
   ·rw[s1,hvv];exact s2
  have hkn:k+n+1-k=n+1:=by omega
  have hpre:(ul.take k).length=k:=by rw[List.length_take];omega
  simp(disch:=first|exact Xe|fail)only[hkn,↓Xa,Xb,Xc,↓reduceIte,Nat.reduceLT,Nat.reduceEqDiff,Nat.reduceBEq,Nat.reduceLeDiff,Nat.reduceAdd,Nat.reduceMul]
  refine run_call (digit_run (pre:=ul.take k) (u:=(ul.drop k).take (n+1)) (post:=ul.drop (k+(n+1))) true hD (by rw[upd_otherA nbA.symm,upd_same,← hparts]) (by rw[hpre,hseg,List.length_drop];omega) hpre.symm hseg.symm (by omega) fun w g1 g2 g3=>?_)
  rw[hseg]at g1
  rw[hvv]at g3 ⊢
  have hqd:val 4294967296 ((ul.drop k).take (n+1)) / V<4294967296:=Nat.div_lt_of_lt_mul (by rw[s1,Nat.mul_comm];exact s2)
  have stp:=hk.step w2 hV0 g1 g2 g3 rfl
  rw[Nat.mod_eq_of_lt hqd]at stp
  generalize val 4294967296 ((ul.drop k).take (n+1)) / V=qd at*
  simp(disch:=first|exact Xe|fail)only[↓Xa,Xb,Xc,↓reduceIte,Nat.reduceLT,Nat.reduceEqDiff,Nat.reduceBEq,Nat.reduceLeDiff,Nat.reduceAdd,Nat.reduceMul]
  exact Settle.keep [10,11,13,15,16,17] ⟨(k,_,_),by dsimp only;omega,stp,rfl⟩
theorem divmod_fn{a b:List Nat}(ta tb:Bool)(ha:Lim 4294967296 a)(hb:Lim 4294967296 b)(h0:0<val 4294967296 b)(hla:a.length≤549755813888)(hlb:b.length≤549755813888):
 PFn Tryz.prog 213 [LS a ta,LS b tb] (.tup [LS (digs 4294967296 (val 4294967296 a / val 4294967296 b)) true,LS (digs 4294967296 (val 4294967296 a%val 4294967296 b)) true,.int .i64 ((0:Nat):Int)]):=by
 by_cases hlt:val 4294967296 a<val 4294967296 b
 ·exact divmod_lt ta tb ha hb h0 hla hlb hlt
 ·by_cases h1:(digs 4294967296 (val 4294967296 b)).length=1
  ·exact divmod_one ta tb ha hb h0 hla hlb hlt h1
  ·exact divmod_many ta tb ha hb h0 hla hlb hlt h1
end Go.Proofs.YtmndejlpfmmaiaaGreatDoor.Fw
