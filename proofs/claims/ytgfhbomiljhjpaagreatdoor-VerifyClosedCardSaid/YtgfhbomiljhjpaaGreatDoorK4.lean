/- Part K4 of the proof of VerifyClosed: texts of the interpreter and what it shows, under short names. No condition. -/
import Derived.Test.YtgfhbomiljhjpaaGreatDoorJ
namespace Go.Proofs.Sai
section
open Go
set_option maxRecDepth 100000
noncomputable def Tf:LD:=.mk 13 .one none aV.none (aZ bs 17 [(12,zk 55 24 [.int .i64 3,.int .i64 1,.int .i64 0,.int .i64 0,.int .i64 12,.int .i64 4,.int .i64 0,.int .i64 0,.int .i64 1,.int .i64 1,.int .i64 0,.int .i64 0,.int .i64 11,.int .i64 5,.int .i64 0,.int .i64 0,.int .i64 1,.int .i64 2,.int .i64 0,.int .i64 0,.int .i64 28,.int .i64 0,.int .i64 0,.int .i64 0]),(14,zk 9 1 [.str [97]]),(15,zk 9 2 [.str [105,110,116],.str [63]]),(16,zk 48 4 [.str [],.str [109,97,105,110],.slice (pos 15) 0 2 true true,.slice (pos 12) 0 6 true true])]) 0 [pos 0,pos 1,pos 2,pos 3,pos 4,pos 5,pos 12,pos 14,pos 15,pos 16]
 [⟨.ret,aV.none,aZ bs 463 [(12,zk 55 24 [.int .i64 3,.int .i64 1,.int .i64 0,.int .i64 0,.int .i64 12,.int .i64 4,.int .i64 0,.int .i64 0,.int .i64 1,.int .i64 1,.int .i64 0,.int .i64 0,.int .i64 11,.int .i64 5,.int .i64 0,.int .i64 0,.int .i64 1,.int .i64 2,.int .i64 0,.int .i64 0,.int .i64 28,.int .i64 0,.int .i64 0,.int .i64 0]),(14,zk 9 1 [.str [97]]),(15,zk 9 2 [.str [105,110,116],.str [63]]),(16,zk 48 4 [.str [],.str [109,97,105,110],.slice (pos 15) 0 2 true true,.slice (pos 12) 0 6 true true]),(65,zk 43 12 [.bool true,.aJ,.bool true,.slice (pos 126) 0 1 false true,.bool true,.slice (pos 201) 0 0 true true,.bool true,.slice (pos 264) 0 1 false true,.bool true,.slice (pos 204) 0 0 true true,.bool true,.slice (pos 403) 0 1 false true]),(126,zk 9 1 [.str [98,111,111,108]]),(201,zk 9 0 []),(204,zk 9 0 []),(264,zk 9 1 [.str [105,110,116]]),(403,zk 9 1 [.str [105,110,116]])],0,.tuple [.slice (pos 65) 0 6 true true,.agg [.int .i64 0,.int .i64 0]],[pos 12,pos 14,pos 15,pos 16],[pos 12,pos 14,pos 15,pos 16,pos 65,pos 126,pos 201,pos 204,pos 264,pos 403]⟩]
 true [.agg [.aJ,.aJ,.slice (pos 14) 0 1 true true,.slice (pos 16) 0 1 true true],.int .i64 0]
noncomputable def M4:PT:=.exit 0 []
theorem Ru:bJ Tryz.prog 100000 Tf [] [] M4=true:=by kernel_rfl
noncomputable def Tg:LD:=.mk 23 .one none aV.none (aZ bs 25 [(12,zk 55 24 [.int .i64 3,.int .i64 1,.int .i64 0,.int .i64 0,.int .i64 12,.int .i64 4,.int .i64 0,.int .i64 0,.int .i64 1,.int .i64 1,.int .i64 0,.int .i64 0,.int .i64 11,.int .i64 5,.int .i64 0,.int .i64 0,.int .i64 1,.int .i64 2,.int .i64 0,.int .i64 0,.int .i64 28,.int .i64 0,.int .i64 0,.int .i64 0])]) 0 [pos 0,pos 1,pos 2,pos 3,pos 4,pos 5,pos 12]
 [⟨.ret,aV.none,aZ bs 477 [(12,zk 55 24 [.int .i64 3,.int .i64 1,.int .i64 0,.int .i64 0,.int .i64 12,.int .i64 4,.int .i64 0,.int .i64 0,.int .i64 1,.int .i64 1,.int .i64 0,.int .i64 0,.int .i64 11,.int .i64 5,.int .i64 0,.int .i64 0,.int .i64 1,.int .i64 2,.int .i64 0,.int .i64 0,.int .i64 28,.int .i64 0,.int .i64 0,.int .i64 0])],0,.bool true,[pos 12],[pos 12]⟩]
 true [.slice (pos 12) 0 6 true true]
noncomputable def M5:PT:=.exit 0 []
theorem Rv:bJ Tryz.prog 100000 Tg [] [] M5=true:=by kernel_rfl
noncomputable def Th:LD:=.mk 25 .one none aV.none (aZ bs 32 [(31,zk 55 24 [.int .i64 3,.int .i64 1,.int .i64 0,.int .i64 0,.int .i64 12,.int .i64 4,.int .i64 0,.int .i64 0,.int .i64 1,.int .i64 1,.int .i64 0,.int .i64 0,.int .i64 11,.int .i64 5,.int .i64 0,.int .i64 0,.int .i64 4,.int .i64 0,.int .i64 0,.int .i64 0,.int .i64 28,.int .i64 0,.int .i64 0,.int .i64 0])]) 0 [pos 0,pos 1,pos 2,pos 3,pos 4,pos 5,pos 31]
 [⟨.ret,aV.none,aZ bs 436 [(31,zk 55 24 [.int .i64 3,.int .i64 1,.int .i64 0,.int .i64 0,.int .i64 12,.int .i64 4,.int .i64 0,.int .i64 0,.int .i64 1,.int .i64 1,.int .i64 0,.int .i64 0,.int .i64 11,.int .i64 5,.int .i64 0,.int .i64 0,.int .i64 4,.int .i64 0,.int .i64 0,.int .i64 0,.int .i64 28,.int .i64 0,.int .i64 0,.int .i64 0])],0,.bool true,[pos 31],[pos 31]⟩]
 true [.int .i64 7,.int .i64 4,.slice (pos 31) 0 6 true true]
noncomputable def M6:PT:=.exit 0 []
theorem Rw:bJ Tryz.prog 100000 Th [] [] M6=true:=by kernel_rfl
noncomputable def Jo:LD:=.mk 25 .one none aV.none (aZ bs 36 [(35,zk 55 12 [.int .i64 5,.int .i64 0,.int .i64 0,.int .i64 0,.int .i64 5,.int .i64 0,.int .i64 0,.int .i64 0,.int .i64 28,.int .i64 0,.int .i64 0,.int .i64 0])]) 0 [pos 0,pos 1,pos 2,pos 3,pos 4,pos 5,pos 35]
 [⟨.ret,aV.none,aZ bs 268 [(35,zk 55 12 [.int .i64 5,.int .i64 0,.int .i64 0,.int .i64 0,.int .i64 5,.int .i64 0,.int .i64 0,.int .i64 0,.int .i64 28,.int .i64 0,.int .i64 0,.int .i64 0])],0,.bool true,[pos 35],[pos 35]⟩]
 true [.int .i64 15,.int .i64 2,.slice (pos 35) 0 3 true true]
noncomputable def DY:PT:=.exit 0 []
theorem Lb:bJ Tryz.prog 100000 Jo [] [] DY=true:=by kernel_rfl
noncomputable def Jp:LD:=.mk 25 .one none aV.none (aZ bs 38 [(37,zk 55 4 [.int .i64 5,.int .i64 0,.int .i64 0,.int .i64 0])]) 0 [pos 0,pos 1,pos 2,pos 3,pos 4,pos 5,pos 37]
 [⟨.ret,aV.none,aZ bs 151 [(37,zk 55 4 [.int .i64 5,.int .i64 0,.int .i64 0,.int .i64 0])],0,.bool true,[pos 37],[pos 37]⟩]
 true [.int .i64 16,.int .i64 0,.slice (pos 37) 0 1 true true]
noncomputable def DZ:PT:=.exit 0 []
theorem Lc:bJ Tryz.prog 100000 Jp [] [] DZ=true:=by kernel_rfl
noncomputable def Jq:LD:=.mk 23 .one none aV.none (aZ bs 43 [(42,zk 55 16 [.int .i64 1,.int .i64 1,.int .i64 0,.int .i64 0,.int .i64 9,.int .i64 0,.int .i64 0,.int .i64 0,.int .i64 8,.int .i64 0,.int .i64 0,.int .i64 0,.int .i64 28,.int .i64 0,.int .i64 0,.int .i64 0])]) 0 [pos 0,pos 1,pos 2,pos 3,pos 4,pos 5,pos 42]
 [⟨.ret,aV.none,aZ bs 360 [(42,zk 55 16 [.int .i64 1,.int .i64 1,.int .i64 0,.int .i64 0,.int .i64 9,.int .i64 0,.int .i64 0,.int .i64 0,.int .i64 8,.int .i64 0,.int .i64 0,.int .i64 0,.int .i64 28,.int .i64 0,.int .i64 0,.int .i64 0])],0,.bool true,[pos 42],[pos 42]⟩]
 true [.slice (pos 42) 0 4 true true]
noncomputable def D0:PT:=.exit 0 []
theorem Ld:bJ Tryz.prog 100000 Jq [] [] D0=true:=by kernel_rfl
noncomputable def Jr:LD:=.mk 25 .one none aV.none (aZ bs 47 [(46,zk 55 12 [.int .i64 10,.int .i64 0,.int .i64 0,.int .i64 0,.int .i64 5,.int .i64 0,.int .i64 0,.int .i64 0,.int .i64 28,.int .i64 0,.int .i64 0,.int .i64 0])]) 0 [pos 0,pos 1,pos 2,pos 3,pos 4,pos 5,pos 46]
 [⟨.ret,aV.none,aZ bs 153 [(46,zk 55 12 [.int .i64 10,.int .i64 0,.int .i64 0,.int .i64 0,.int .i64 5,.int .i64 0,.int .i64 0,.int .i64 0,.int .i64 28,.int .i64 0,.int .i64 0,.int .i64 0])],0,.bool true,[pos 46],[pos 46]⟩]
 true [.int .i64 15,.int .i64 0,.slice (pos 46) 0 3 true true]
noncomputable def D1:PT:=.exit 0 []
theorem Le:bJ Tryz.prog 100000 Jr [] [] D1=true:=by kernel_rfl
noncomputable def Js:LD:=.mk 25 .one none aV.none (aZ bs 52 [(51,zk 55 16 [.int .i64 4,.int .i64 0,.int .i64 0,.int .i64 0,.int .i64 9,.int .i64 0,.int .i64 0,.int .i64 0,.int .i64 5,.int .i64 0,.int .i64 0,.int .i64 0,.int .i64 28,.int .i64 0,.int .i64 0,.int .i64 0])]) 0 [pos 0,pos 1,pos 2,pos 3,pos 4,pos 5,pos 51]
 [⟨.ret,aV.none,aZ bs 247 [(51,zk 55 16 [.int .i64 4,.int .i64 0,.int .i64 0,.int .i64 0,.int .i64 9,.int .i64 0,.int .i64 0,.int .i64 0,.int .i64 5,.int .i64 0,.int .i64 0,.int .i64 0,.int .i64 28,.int .i64 0,.int .i64 0,.int .i64 0])],0,.bool true,[pos 51],[pos 51]⟩]
 true [.int .i64 7,.int .i64 1,.slice (pos 51) 0 4 true true]
noncomputable def D2:PT:=.exit 0 []
theorem Lf:bJ Tryz.prog 100000 Js [] [] D2=true:=by kernel_rfl
noncomputable def Jt:LD:=.mk 23 .one none aV.none (aZ bs 57 [(56,zk 55 16 [.int .i64 11,.int .i64 2,.int .i64 0,.int .i64 0,.int .i64 10,.int .i64 0,.int .i64 0,.int .i64 0,.int .i64 5,.int .i64 0,.int .i64 0,.int .i64 0,.int .i64 28,.int .i64 0,.int .i64 0,.int .i64 0])]) 0 [pos 0,pos 1,pos 2,pos 3,pos 4,pos 5,pos 56]
 [⟨.ret,aV.none,aZ bs 293 [(56,zk 55 16 [.int .i64 11,.int .i64 2,.int .i64 0,.int .i64 0,.int .i64 10,.int .i64 0,.int .i64 0,.int .i64 0,.int .i64 5,.int .i64 0,.int .i64 0,.int .i64 0,.int .i64 28,.int .i64 0,.int .i64 0,.int .i64 0])],0,.bool true,[pos 56],[pos 56]⟩]
 true [.slice (pos 56) 0 4 true true]
noncomputable def D3:PT:=.exit 0 []
theorem Lg:bJ Tryz.prog 100000 Jt [] [] D3=true:=by kernel_rfl
noncomputable def Ju:LD:=.mk 25 .one none aV.none (aZ bs 61 [(60,zk 55 12 [.int .i64 11,.int .i64 2,.int .i64 0,.int .i64 0,.int .i64 5,.int .i64 0,.int .i64 0,.int .i64 0,.int .i64 11,.int .i64 1,.int .i64 0,.int .i64 0])]) 0 [pos 0,pos 1,pos 2,pos 3,pos 4,pos 5,pos 60]
 [⟨.ret,aV.none,aZ bs 235 [(60,zk 55 12 [.int .i64 11,.int .i64 2,.int .i64 0,.int .i64 0,.int .i64 5,.int .i64 0,.int .i64 0,.int .i64 0,.int .i64 11,.int .i64 1,.int .i64 0,.int .i64 0])],0,.bool true,[pos 60],[pos 60]⟩]
 true [.int .i64 16,.int .i64 2,.slice (pos 60) 0 3 true true]
noncomputable def D4:PT:=.exit 0 []
theorem Lh:bJ Tryz.prog 100000 Ju [] [] D4=true:=by kernel_rfl
noncomputable def M7:PT:=.loop 0 []
 (.cons 0
 (.loop 1 []
  (.cons 0
  (.loop 2 []
   (.cons 0
   (.loop 3 []
    (.cons 0
    (.loop 4 []
     (.cons 0
     (.loop 5 []
      (.cons 0
      (.loop 6 []
       (.cons 0
       (.loop 7 []
        (.cons 0
        (.loop 8 []
         (.cons 0
         (.loop 9 []
          (.cons 0
          (.ret (.bool true))
          (.nil)))
         (.nil)))
        (.nil)))
       (.nil)))
      (.nil)))
     (.nil)))
    (.nil)))
   (.nil)))
  (.nil)))
 (.nil))
theorem Rx:bt Tryz.prog bs 100000 18 [] [] [Tf,Tg,Th,Jo,Jp,Jq,Jr,Js,Jt,Ju] M7 0=true:=by kernel_rfl
end
end Go.Proofs.Sai
