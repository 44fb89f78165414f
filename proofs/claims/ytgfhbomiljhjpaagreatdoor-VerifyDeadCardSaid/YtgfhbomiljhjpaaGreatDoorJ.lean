/- Part J of the proof of VerifyDead: texts of the interpreter and what it shows, under short names. No condition. -/
import Derived.Test.YtgfhbomiljhjpaaGreatDoorIH
import Derived.Test.YtgfhbomiljhjpaaGreatDoorProg
import Derived.KernelRfl
namespace Go.Proofs.Sai
section
open Go
set_option maxRecDepth 100000
def P1:List Int:=(List.range 256).map fun c=>if c==9||c==10||c==11||c==12||c==13||c==32 then 1 else 0
noncomputable def bs:List aY:=[.cells false 0 256 (.of (P1.map fun z=>.int .u8 z)),.cells false 0 0 (.o5 []),.cells false 0 0 (.o5 []),.cells false 0 0 (.o5 []),.cells false 0 0 (.o5 []),.cells false 0 0 (.o5 [])]
abbrev tL:Ty:=.aF [.str]
abbrev tS:Ty:=.aF [.int .i64,.str,.str]
abbrev tV:Ty:=.aF [.str,.str]
abbrev tM:Ty:=.aF [.str,tV,.str]
abbrev tF:Ty:=.aF [.str,.str,tL,.aF [.int .i64,.int .i64,.int .i64,.int .i64]]
abbrev tT:Ty:=.aF [.str,.str,tV,tM]
abbrev v0:Tm:=.var 0
abbrev v1:Tm:=.var 1
abbrev v2:Tm:=.var 2
abbrev v3:Tm:=.var 3
abbrev v4:Tm:=.var 4
abbrev v5:Tm:=.var 5
abbrev v6:Tm:=.var 6
abbrev v7:Tm:=.var 7
abbrev v8:Tm:=.var 8
abbrev v9:Tm:=.var 9
abbrev v10:Tm:=.var 10
abbrev v11:Tm:=.var 11
abbrev v12:Tm:=.var 12
abbrev v13:Tm:=.var 13
abbrev v14:Tm:=.var 14
abbrev v15:Tm:=.var 15
abbrev v16:Tm:=.var 16
abbrev v17:Tm:=.var 17
abbrev v18:Tm:=.var 18
abbrev v19:Tm:=.var 19
abbrev v20:Tm:=.var 20
abbrev v21:Tm:=.var 21
abbrev v22:Tm:=.var 22
abbrev v23:Tm:=.var 23
abbrev v24:Tm:=.var 24
abbrev v25:Tm:=.var 25
abbrev v26:Tm:=.var 26
abbrev v27:Tm:=.var 27
abbrev v28:Tm:=.var 28
abbrev v29:Tm:=.var 29
abbrev v30:Tm:=.var 30
abbrev v31:Tm:=.var 31
abbrev v32:Tm:=.var 32
abbrev v33:Tm:=.var 33
abbrev v34:Tm:=.var 34
abbrev zs:Tm→AV:=(.tm .str ·)
abbrev zn:Tm→AV:=(.tm (.int .i64) ·)
abbrev zb:Tm→AV:=(.tm .bool ·)
abbrev zT:Tm→AV:=(.tm tT ·)
abbrev zL:Tm→AV:=(.tm tL ·)
abbrev zF:Tm→AV:=(.tm tF ·)
abbrev zS:Tm→AV:=(.tm tS ·)
abbrev zV:Tm→AV:=(.tm tV ·)
abbrev zM:Tm→AV:=(.tm tM ·)
abbrev z0:Tm→AV:=(.tm (.aF []) ·)
abbrev oL:List Tm→Tm:=(.op .len ·)
abbrev oS:List Tm→Tm:=(.op .snoc ·)
abbrev oE:List Tm→Tm:=(.op .zZ ·)
abbrev oT:List Tm→Tm:=(.op .not ·)
abbrev oe:List Tm→Tm:=(.op (.kr .eql) ·)
abbrev of:List Tm→Tm:=(.op (.kr .neq) ·)
abbrev og:List Tm→Tm:=(.op (.cmp .leq) ·)
abbrev oh:List Tm→Tm:=(.op (.cmp .lss) ·)
abbrev oj:List Tm→Tm:=(.op (.cmp .neq) ·)
abbrev ok:List Tm→Tm:=(.op (.cmp .eql) ·)
abbrev om:List Tm→Tm:=(.op (.cmp .gtr) ·)
abbrev oo:List Tm→Tm:=(.op (.cmp .geq) ·)
abbrev oa:List Tm→Tm:=(.op (.kp .add .i64) ·)
abbrev ob:List Tm→Tm:=(.op (.kp .sub .i64) ·)
abbrev oN:Tm:=.op .nil []
abbrev oc (k:Nat):List Tm→Tm:=(.op (.cell k) ·)
noncomputable abbrev zp (n:Nat):AV:=.ptr (pos n) 0
abbrev zk (t n:Nat) (l:List AV):aY:=.cells true t n (.o5 l)
abbrev oi (k:Int):Tm:=.int .i64 k
end
end Go.Proofs.Sai
