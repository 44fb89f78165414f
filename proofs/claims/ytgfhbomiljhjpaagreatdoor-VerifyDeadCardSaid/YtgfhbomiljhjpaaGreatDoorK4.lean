/- Part K4 of the proof of VerifyDead: texts of the interpreter and what it shows, under short names. No condition. -/
import Derived.Test.YtgfhbomiljhjpaaGreatDoorJ
namespace Go.Proofs.Sai
section
open Go
set_option maxRecDepth 100000
noncomputable def UU:LD:=.mk 23 .one none aN.none (aS bs 11 [(10,zk 55 16 [.int .i64 1,.int .i64 1,.int .i64 0,.int .i64 0,.int .i64 9,.int .i64 0,.int .i64 0,.int .i64 0,.int .i64 8,.int .i64 0,.int .i64 0,.int .i64 0,.int .i64 28,.int .i64 0,.int .i64 0,.int .i64 0])]) 0 [pos 0,pos 1,pos 2,pos 3,pos 4,pos 5,pos 10]
 [⟨.ret,aN.none,aS bs 328 [(10,zk 55 16 [.int .i64 1,.int .i64 1,.int .i64 0,.int .i64 0,.int .i64 9,.int .i64 0,.int .i64 0,.int .i64 0,.int .i64 8,.int .i64 0,.int .i64 0,.int .i64 0,.int .i64 28,.int .i64 0,.int .i64 0,.int .i64 0])],0,.bool true,[pos 10],[pos 10]⟩]
 true [.slice (pos 10) 0 4 true true]
noncomputable def OT:PT:=.exit 0 []
theorem Tj:cD Tryz.prog 100000 UU [] [] OT=true:=by kernel_rfl
noncomputable def UW:LD:=.mk 25 .one none aN.none (aS bs 15 [(14,zk 55 12 [.int .i64 10,.int .i64 0,.int .i64 0,.int .i64 0,.int .i64 5,.int .i64 0,.int .i64 0,.int .i64 0,.int .i64 28,.int .i64 0,.int .i64 0,.int .i64 0])]) 0 [pos 0,pos 1,pos 2,pos 3,pos 4,pos 5,pos 14]
 [⟨.ret,aN.none,aS bs 121 [(14,zk 55 12 [.int .i64 10,.int .i64 0,.int .i64 0,.int .i64 0,.int .i64 5,.int .i64 0,.int .i64 0,.int .i64 0,.int .i64 28,.int .i64 0,.int .i64 0,.int .i64 0])],0,.bool true,[pos 14],[pos 14]⟩]
 true [.int .i64 15,.int .i64 0,.slice (pos 14) 0 3 true true]
noncomputable def OU:PT:=.exit 0 []
theorem Tk:cD Tryz.prog 100000 UW [] [] OU=true:=by kernel_rfl
noncomputable def KS:LD:=.mk 25 .one none aN.none (aS bs 20 [(19,zk 55 16 [.int .i64 4,.int .i64 0,.int .i64 0,.int .i64 0,.int .i64 9,.int .i64 0,.int .i64 0,.int .i64 0,.int .i64 5,.int .i64 0,.int .i64 0,.int .i64 0,.int .i64 28,.int .i64 0,.int .i64 0,.int .i64 0])]) 0 [pos 0,pos 1,pos 2,pos 3,pos 4,pos 5,pos 19]
 [⟨.ret,aN.none,aS bs 215 [(19,zk 55 16 [.int .i64 4,.int .i64 0,.int .i64 0,.int .i64 0,.int .i64 9,.int .i64 0,.int .i64 0,.int .i64 0,.int .i64 5,.int .i64 0,.int .i64 0,.int .i64 0,.int .i64 28,.int .i64 0,.int .i64 0,.int .i64 0])],0,.bool true,[pos 19],[pos 19]⟩]
 true [.int .i64 7,.int .i64 1,.slice (pos 19) 0 4 true true]
noncomputable def Fz:PT:=.exit 0 []
theorem M3:cD Tryz.prog 100000 KS [] [] Fz=true:=by kernel_rfl
noncomputable def Tl:PT:=.loop 0 []
 (.cons 0
 (.loop 1 []
  (.cons 0
  (.loop 2 []
   (.cons 0
   (.ret (.bool true))
   (.nil)))
  (.nil)))
 (.nil))
theorem UX:bt Tryz.prog bs 100000 8 [] [] [UU,UW,KS] Tl 0=true:=by kernel_rfl
abbrev iS:List Ty:=[.int .i64,.int .i64,.int .i64,.int .i64]
abbrev fS:List Ty:=[.str,.str,tL,.aF iS]
noncomputable def LX:LD:=.mk 28 .one none aN.none (aS bs 10 []) 1 [pos 0,pos 1,pos 2,pos 3,pos 4,pos 5]
 [⟨.ret,aN.none,aS bs 12 [(11,.vec true 9 [.str] (oL [v0]) v0)],1,.vl [.str] (oL [v0]) (pos 11),[],[pos 11]⟩]
 true [.tm (.aF [.str]) v0]
noncomputable def OV:PT:=.split (og [oL [v0],oi 100000000])
 (.split (oh [oi 0,oL [v0]])
  (.exit 0 [.op .app [oN,v0]])
  (.exit 0 [oN]))
 (.dead)
theorem Tn:cD Tryz.prog 100000 LX [] [] OV=true:=by kernel_rfl
noncomputable def X9:LO:=⟨.exit 0,(aK 46 [(1,zp 8),(2,zp 9),(3,.vl fS (oL [v0]) (pos 11))]),(aS bs 12 [(8,zk 27 4 [zT v2,zS v3,.vl [.str] (oL [v1]) (pos 10),zF v4]),(9,zk 27 4 [.an,.an,.an,.an]),(10,.vec true 9 [.str] (oL [v1]) v1),(11,.vec true 48 fS (oL [v0]) v0)]),5,.bad,[pos 8,pos 9,pos 10,pos 11],[pos 8,pos 9,pos 10,pos 11]⟩
noncomputable def Vk:LO:=⟨.exit 0,(aK 46 [(1,zp 8),(2,zp 9),(3,.vl fS (oL [v0]) (pos 11))]),(aS bs 13 [(8,zk 27 4 [zT v2,zS v3,.vl [.str] (oL [v1]) (pos 10),zF v4]),(9,zk 27 4 [.an,.an,.an,.an]),(10,.vec true 9 [.str] (oL [v1]) v1),(11,.eE 48 fS (oL [v0]) v0 v5 (.vl iS (oL [v6]) (pos 12))),(12,.vec true 55 iS (oL [v6]) v6)]),7,.bad,[pos 8,pos 9,pos 10,pos 11,pos 12],[pos 8,pos 9,pos 10,pos 11,pos 12]⟩
noncomputable def Ei:LD:=.mk 9 (pos 505) none (aK 46 [(1,zp 8),(2,zp 9),(3,.vl fS (oL [v0]) (pos 11)),(4,zn v1)]) (aS bs 12 [(8,zk 27 4 [zT v2,zS v3,.vl [.str] (oL [v4]) (pos 10),zF v5]),(9,zk 27 4 [.an,.an,.an,.an]),(10,.vec true 9 [.str] (oL [v4]) v4),(11,.vec true 48 fS (oL [v0]) v0)]) 6 [pos 0,pos 1,pos 2,pos 3,pos 4,pos 5,pos 8,pos 9,pos 10] [X9] false []
noncomputable def vI:PT:=.split (oh [v1,oL [v5]])
 (.split (og [oi 0,v1])
  (.loop 0 [oc 2 [oE [v5,v1]]]
   (.cons 1
   (.split (og [oL [oc 3 [oE [v5,v1]]],oi 100000000])
   (.split (oh [oi 0,oL [oc 3 [oE [v5,v1]]]])
   (.split (og [oL [v0],oi 100000000])
    (.next [oS [v0,oc 0 [oE [v5,v1]],oc 1 [oE [v5,v1]],v6,.op .app [oN,oc 3 [oE [v5,v1]]]],oa [v1,oi 1],v2,v3,v4,v5])
    (.dead))
   (.split (og [oL [v0],oi 100000000])
    (.next [oS [v0,oc 0 [oE [v5,v1]],oc 1 [oE [v5,v1]],v6,oN],oa [v1,oi 1],v2,v3,v4,v5])
    (.dead)))
   (.dead))
   (.nil)))
  (.dead))
 (.exit 0 [v0,v4,v2,v3,v5])
theorem KT:bg Tryz.prog 100000 Ei [] [LX] vI=true:=by kernel_rfl
noncomputable def UY:LD:=.mk 9 (pos 505) none (aK 46 [(1,zp 8),(2,zp 9),(3,.vl fS (oL [v0]) (pos 11)),(4,zn v1)]) (aS bs 13 [(8,zk 27 4 [zT v2,zS v3,.vl [.str] (oL [v4]) (pos 10),zF v5]),(9,zk 27 4 [.an,.an,.an,.an]),(10,.vec true 9 [.str] (oL [v4]) v4),(11,.eE 48 fS (oL [v0]) v0 v6 (.vl iS (oL [v7]) (pos 12))),(12,.vec true 55 iS (oL [v7]) v7)]) 8 [pos 0,pos 1,pos 2,pos 3,pos 4,pos 5,pos 8,pos 9,pos 10] [Vk] false []
noncomputable def KV:PT:=.split (oh [v1,oL [v5]])
 (.split (og [oi 0,v1])
  (.loop 0 [oc 2 [oE [v5,v1]]]
   (.cons 1
   (.split (og [oL [oc 3 [oE [v5,v1]]],oi 100000000])
   (.split (oh [oi 0,oL [oc 3 [oE [v5,v1]]]])
   (.split (og [oL [v0],oi 100000000])
    (.next [oS [v0,oc 0 [oE [v5,v1]],oc 1 [oE [v5,v1]],v8,.op .app [oN,oc 3 [oE [v5,v1]]]],oa [v1,oi 1],v2,v3,v4,v5,v6,v7])
    (.dead))
   (.split (og [oL [v0],oi 100000000])
    (.next [oS [v0,oc 0 [oE [v5,v1]],oc 1 [oE [v5,v1]],v8,oN],oa [v1,oi 1],v2,v3,v4,v5,v6,v7])
    (.dead)))
   (.dead))
   (.nil)))
  (.dead))
 (.exit 0 [v0,v4,v2,v3,v5,v6,v7])
theorem Tp:bg Tryz.prog 100000 UY [] [LX] KV=true:=by kernel_rfl
noncomputable def UZ:LD:=.mk 9 (pos 505) none (aK 46 [(1,zp 8),(2,zp 9),(3,.vl fS (oL [v0]) (pos 11)),(4,zn v1)]) (aS bs 12 [(8,zk 27 4 [zT v2,zS v3,.vl [.str] (oL [v4]) (pos 10),zF v5]),(9,zk 27 4 [.an,.an,.an,.an]),(10,.vec true 9 [.str] (oL [v4]) v4),(11,.vec true 48 fS (oL [v0]) v0)]) 7 [pos 0,pos 1,pos 2,pos 3,pos 4,pos 5,pos 8,pos 9,pos 10] [Vk] false []
noncomputable def OW:PT:=.split (oh [v1,oL [v5]])
 (.split (og [oi 0,v1])
  (.loop 0 [oc 2 [oE [v5,v1]]]
   (.cons 1
   (.split (og [oL [oc 3 [oE [v5,v1]]],oi 100000000])
   (.split (ok [v6,oL [v0]])
   (.split (.op .beq [.bool true,.bool true])
   (.split (oh [oi 0,oL [oc 3 [oE [v5,v1]]]])
    (.split (og [oL [v0],oi 100000000])
     (.ret (.agg [zs (oS [v0,oc 0 [oE [v5,v1]],oc 1 [oE [v5,v1]],v7,oN]),zs (oa [v1,oi 1]),zs v2,zs v3,zs v4,zs v5,zs v6,zs (.op .app [oN,oc 3 [oE [v5,v1]]])]))
     (.dead))
    (.dead))
   (.dead))
   (.split (oh [oi 0,oL [oc 3 [oE [v5,v1]]]])
   (.split (og [oL [v0],oi 100000000])
    (.next [oS [v0,oc 0 [oE [v5,v1]],oc 1 [oE [v5,v1]],v7,.op .app [oN,oc 3 [oE [v5,v1]]]],oa [v1,oi 1],v2,v3,v4,v5,v6])
    (.dead))
   (.split (og [oL [v0],oi 100000000])
    (.next [oS [v0,oc 0 [oE [v5,v1]],oc 1 [oE [v5,v1]],v7,oN],oa [v1,oi 1],v2,v3,v4,v5,v6])
    (.dead))))
   (.dead))
   (.nil)))
  (.dead))
 (.dead)
theorem Ts:qf Tryz.prog 100000 UZ UY [] [LX] OW=true:=by kernel_rfl
noncomputable def vJ:LD:=.mk 5 (pos 16377) (none) (aK 115 [(7,zb v0),(9,.tm (.aF [.bool,.aF [.str]]) v1),(12,.tm (.aF [.bool,.aF [.str]]) v2),(14,zn v3)]) (aS bs 14 []) 4 [pos 0,pos 1,pos 2,pos 3,pos 4,pos 5]
 [⟨.ret,aK 115 [(6,.bool false)],aS bs 14 [],0,.bad,[],[]⟩,
  ⟨.exit 0,aK 115 [(7,zb v0),(9,.tm (.aF [.bool,.aF [.str]]) v1),(12,.tm (.aF [.bool,.aF [.str]]) v2)],aS bs 14 [],3,.bad,[],[]⟩]
 false []
noncomputable def vK:PT:=.split (oh [v3,oL [v2]])
 (.split (og [oi 0,v3])
  (.split (oc 0 [oE [v2,v3]])
   (.exit 0 [])
   (.split (om [oL [oc 1 [oE [v2,v3]]],oi 0])
    (.exit 0 [])
    (.next [v0,v1,v2,oa [v3,oi 1]])))
  (.dead))
 (.exit 1 [v0,v1,v2])
theorem Ej:bg Tryz.prog 100000 vJ [] [] vK=true:=by kernel_rfl
noncomputable def Tt:PT:=.call 0 [] (zb v6) 1
 (.call 1 [.agg [zT v0,zS v1,zL v2,zF v3]] (zb v7) 1
  (.split v7
   (.ret (zb v6))
   (.split (ok [oL [v3],oi 0])
    (.ret (zb v6))
    (.split (om [oL [v5],oi 10])
     (.ret (zb v6))
     (.call 2 [zn v4,zn (oL [v3])] (zn v8) 1
      (.call 3 [.agg [zT v0,zS v1,zL v2,zF v3],zn v8] (.tuple [.tm (.aF [.bool,.aF [.str]]) v9,.agg [zn v10,zn v11]]) 3
       (.call 4 [zT v0] (zT v12) 1
        (.call 5 [zS v1] (zS v13) 1
(.loop 0 [v2]
 (.cons 1
 (.split (ok [v10,oi 0])
 (.split (ok [oL [v9],oi 0])
 (.loop 1 [oN,.int .i64 0,v12,v13,v14,v3]
 (.cons 5
 (.split (oj [v10,oi 0]) (.dead) (.ret (zb v6)))
 (.nil)))
 (.loop 2 [oN,.int .i64 0,v12,v13,v14,v3,v8]
 (.cons 7
 (.split (oj [v10,oi 0]) (.dead)
 (.split (og [oi 0,v8])
 (.split (oh [v8,oL [v15]])
 (.split (ok [v8,v20])
 (.split (og [oL [v5],oi 100000000])
 (.split (og [oL [v21],oi 100000000])
 (.split (oh [oi 0,oL [v5]])
  (.call 3 [.agg [zT v17,zS v18,zL v16,zF (.op (.dm 3 1) [v15,v8,.op .app [v21,v5]])],zn v8] (.tuple [.tm (.aF [.bool,.aF [.str]]) v22,.agg [zn v23,zn v24]]) 3
  (.split (ok [v23,oi 0])
  (.split (ok [v24,oi 0])
  (.split (oj [oL [v22],oa [oL [v9],oL [v5]]])
  (.ret (.bool false))
  (.loop 3 [v6,v9,v22,oL [v9]]
  (.cons 0
  (.ret (.bool false))
  (.cons 3
  (.split v25
  (.split (og [oi 0,oL [v26]])
  (.split (og [oL [v26],oL [v27]])
  (.call 6 [.tm (.aF [.bool,.aF [.str]]) (.op .sub [v27,oi 0,oL [v26]]),.tm (.aF [.bool,.aF [.str]]) v26] (zb v28) 1
  (.ret (zb v28)))
  (.dead))
  (.dead))
  (.ret (.bool false)))
  (.nil)))))
  (.ret (.bool false)))
  (.ret (.bool false))))
  (.call 3 [.agg [zT v17,zS v18,zL v16,zF (.op (.dm 3 1) [v15,v8,v21])],zn v8] (.tuple [.tm (.aF [.bool,.aF [.str]]) v22,.agg [zn v23,zn v24]]) 3
  (.split (ok [v23,oi 0])
  (.split (ok [v24,oi 0])
  (.split (oj [oL [v22],oa [oL [v9],oL [v5]]])
  (.ret (.bool false))
  (.loop 3 [v6,v9,v22,oL [v9]]
  (.cons 0
  (.ret (.bool false))
  (.cons 3
  (.split v25
  (.split (og [oi 0,oL [v26]])
  (.split (og [oL [v26],oL [v27]])
  (.call 6 [.tm (.aF [.bool,.aF [.str]]) (.op .sub [v27,oi 0,oL [v26]]),.tm (.aF [.bool,.aF [.str]]) v26] (zb v28) 1
  (.ret (zb v28)))
  (.dead))
  (.dead))
  (.ret (.bool false)))
  (.nil)))))
  (.ret (.bool false)))
  (.ret (.bool false)))))
 (.dead)) (.dead)) (.dead)) (.dead)) (.dead)))
 (.nil))))
 (.loop 1 [oN,.int .i64 0,v12,v13,v14,v3]
 (.cons 5
 (.split (oj [v10,oi 0]) (.ret (zb v6)) (.dead))
 (.nil))))
 (.nil)))))))))))
theorem U0:bt Tryz.prog bs 100000 5 [.agg [zT v0,zS v1,zL v2,zF v3],zn v4,.tm (.aF [.int .i64,.int .i64,.int .i64,.int .i64]) v5] [(8,none),(7,none),(17,none),(13,none),(26,none),(27,none),(15,none)] [LX,Ei,UZ,vJ] Tt 6=true:=by kernel_rfl
end
end Go.Proofs.Sai
