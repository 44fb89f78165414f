/- Part K0 of the proof of VerifyDead: texts of the interpreter and what it shows, under short names. No condition. -/
import Derived.Test.YtgfhbomiljhjpaaGreatDoorJ
namespace Go.Proofs.Sai
section
open Go
set_option maxRecDepth 100000
noncomputable def JU:LD:=.mk 41 (pos 25) (none) (aK 26 [(0,zV v0),(3,zn v1)]) (aS bs 6 []) 2 [pos 0,pos 1,pos 2,pos 3,pos 4,pos 5]
 [⟨.ret,aK 26 [(2,.bool true)],aS bs 6 [],0,.bad,[],[]⟩,
  ⟨.exit 0,aK 26 [],aS bs 6 [],0,.bad,[],[]⟩]
 false []
noncomputable def vd:PT:=.split (oh [v1,oL [v0]])
 (.split (og [oi 0,v1])
  (.split (om [.op .gB [oc 0 [oE [v0,v1]]],oi 30])
   (.exit 0 [])
   (.split (om [.op .gB [oc 1 [oE [v0,v1]]],oi 30])
    (.exit 0 [])
    (.next [v0,oa [v1,oi 1]])))
  (.dead))
 (.exit 1 [])
theorem JV:bg Tryz.prog 100000 JU [] [] vd=true:=by kernel_rfl
noncomputable def N7:PT:=.loop 0 [v0,.int .i64 0]
 (.cons 0
 (.ret (.bool true))
 (.cons 0
 (.ret (.bool false))
 (.nil)))
theorem Sv:bt Tryz.prog bs 100000 41 [zV v0] [] [JU] N7 1=true:=by kernel_rfl
noncomputable def qg:LD:=.mk 150 (pos 121) (none) (aK 53 [(0,zs v0),(5,zp 6),(23,zn v1),(24,zn v2)]) (aS bs 7 [(6,zk 249 3 [.func 199 [] [],.func 151 [] [],.func 206 [] []])]) 3 [pos 0,pos 1,pos 2,pos 3,pos 4,pos 5,pos 6]
 [⟨.ret,aK 53 [(4,.bool false)],aS bs 7 [(6,zk 249 3 [.func 199 [] [],.func 151 [] [],.func 206 [] []])],0,.bad,[pos 6],[pos 6]⟩,
  ⟨.exit 0,aK 53 [],aS bs 7 [(6,zk 249 3 [.func 199 [] [],.func 151 [] [],.func 206 [] []])],0,.bad,[pos 6],[pos 6]⟩]
 false []
noncomputable def oC:PT:=.split (oh [v2,v1])
 (.split (og [oi 0,v2])
  (.split (oh [v2,.op .gB [v0]])
   (.split (oo [.op .ic [v0,v2],.int .u8 97])
    (.split (oT [og [.op .ic [v0,v2],.int .u8 122]])
     (.split (oo [.op .ic [v0,v2],.int .u8 65])
      (.split (oT [og [.op .ic [v0,v2],.int .u8 90]])
       (.split (oo [.op .ic [v0,v2],.int .u8 48])
        (.split (oT [og [.op .ic [v0,v2],.int .u8 57]])
         (.exit 0 [])
         (.next [v0,v1,oa [v2,oi 1]]))
        (.exit 0 []))
       (.next [v0,v1,oa [v2,oi 1]]))
      (.split (oo [.op .ic [v0,v2],.int .u8 48])
       (.split (oT [og [.op .ic [v0,v2],.int .u8 57]])
        (.exit 0 [])
        (.next [v0,v1,oa [v2,oi 1]]))
       (.exit 0 [])))
     (.next [v0,v1,oa [v2,oi 1]]))
    (.split (oo [.op .ic [v0,v2],.int .u8 65])
     (.split (oT [og [.op .ic [v0,v2],.int .u8 90]])
      (.split (oo [.op .ic [v0,v2],.int .u8 48])
       (.split (oT [og [.op .ic [v0,v2],.int .u8 57]])
        (.exit 0 [])
        (.next [v0,v1,oa [v2,oi 1]]))
       (.exit 0 []))
      (.next [v0,v1,oa [v2,oi 1]]))
     (.split (oo [.op .ic [v0,v2],.int .u8 48])
      (.split (oT [og [.op .ic [v0,v2],.int .u8 57]])
       (.exit 0 [])
       (.next [v0,v1,oa [v2,oi 1]]))
      (.exit 0 []))))
   (.dead))
  (.dead))
 (.exit 1 [])
theorem DX:bg Tryz.prog 100000 qg [] [] oC=true:=by kernel_rfl
noncomputable def JW:PT:=.split (oe [v0,.str []])
 (.ret (.bool false))
 (.split (om [.op .gB [v0],oi 20])
  (.ret (.bool false))
  (.split (oh [oi 0,.op .gB [v0]])
   (.split (oo [.op .ic [v0,oi 0],.int .u8 65])
    (.split (oT [og [.op .ic [v0,oi 0],.int .u8 90]])
     (.ret (.bool false))
     (.loop 0 [v0,.op .gB [v0],.int .i64 0]
      (.cons 0
      (.ret (.bool false))
      (.cons 0
      (.ret (.bool true))
      (.nil)))))
    (.ret (.bool false)))
   (.dead)))
theorem P2:bt Tryz.prog bs 100000 108 [zs v0] [] [qg] JW 1=true:=by kernel_rfl
noncomputable def ve:LD:=.mk 7 (pos 121) (none) (aK 80 [(1,zp 6),(3,zn v0),(4,.int .i64 0),(5,zn v1)]) (aS bs 7 [(6,zk 27 4 [zT v2,zS v3,zL v4,zF v5])]) 6 [pos 0,pos 1,pos 2,pos 3,pos 4,pos 5,pos 6]
 [⟨.ret,aK 80 [(2,.bool true)],aS bs 7 [(6,zk 27 4 [zT v0,zS v1,zL v2,zF v3])],4,.bad,[pos 6],[pos 6]⟩,
  ⟨.exit 0,aK 80 [(1,zp 6),(3,zn v0),(4,.int .i64 0)],aS bs 7 [(6,zk 27 4 [zT v1,zS v2,zL v3,zF v4])],5,.bad,[pos 6],[pos 6]⟩]
 false []
noncomputable def vf:PT:=.split (oh [v1,oL [v4]])
 (.split (og [oi 0,v1])
  (.split (om [.op .gB [oc 0 [oE [v4,v1]]],oi 1100])
   (.exit 0 [v2,v3,v4,v5])
   (.next [oa [v0,.op .gB [oc 0 [oE [v4,v1]]]],oa [v1,oi 1],v2,v3,v4,v5]))
  (.dead))
 (.exit 1 [v0,v2,v3,v4,v5])
theorem JX:bg Tryz.prog 100000 ve [] [] vf=true:=by kernel_rfl
noncomputable def vg:LD:=.mk 7 (pos 249) (none) (aK 80 [(1,zp 6),(3,zn v0),(4,zn v1),(6,zn v2)]) (aS bs 7 [(6,zk 27 4 [zT v3,zS v4,zL v5,zF v6])]) 7 [pos 0,pos 1,pos 2,pos 3,pos 4,pos 5,pos 6]
 [⟨.ret,aK 80 [(2,.bool true)],aS bs 7 [(6,zk 27 4 [zT v0,zS v1,zL v2,zF v3])],4,.bad,[pos 6],[pos 6]⟩,
  ⟨.exit 2,aK 80 [(3,zn v0)],aS bs 7 [(6,zk 27 4 [zT v1,zS v2,zL v3,zF v4])],5,.bad,[pos 6],[pos 6]⟩]
 false []
noncomputable def vh:PT:=.split (oh [v2,oL [v6]])
 (.split (og [oi 0,v2])
  (.split (om [oL [oc 2 [oE [v6,v2]]],oi 60])
   (.exit 0 [v3,v4,v5,v6])
   (.split (om [oa [v1,oL [oc 3 [oE [v6,v2]]]],oi 1500])
    (.exit 0 [v3,v4,v5,v6])
    (.next [v0,oa [v1,oL [oc 3 [oE [v6,v2]]]],oa [v2,oi 1],v3,v4,v5,v6])))
  (.dead))
 (.exit 1 [v0,v3,v4,v5,v6])
theorem JY:bg Tryz.prog 100000 vg [] [] vh=true:=by kernel_rfl
noncomputable def Sw:PT:=.call 0 [zT v0] (zb v4) 1
 (.split v4
  (.ret (.bool true))
  (.split (om [oL [v1],oi 200])
   (.ret (.bool true))
   (.split (om [oL [v2],oi 120])
    (.ret (.bool true))
    (.split (om [oL [v3],oi 40])
     (.ret (.bool true))
     (.loop 0 [.int .i64 0,.int .i64 0,v0,v1,v2,v3]
      (.cons 4
      (.ret (.bool true))
      (.cons 5
      (.loop 1 [v5,.int .i64 0,.int .i64 0,v6,v7,v8,v9]
       (.cons 4
       (.ret (.bool true))
       (.cons 5
       (.ret (zb (om [v10,oi 5000])))
       (.nil))))
      (.nil))))))))
theorem UN:bt Tryz.prog bs 100000 7 [.agg [zT v0,zS v1,zL v2,zF v3]] [(22,none)] [ve,vg] Sw 4=true:=by kernel_rfl
noncomputable def JZ:PT:=.call 0 [.agg [zT v0,zS v1,zL v2,zF v3]] (.agg [zn v5,zn v6]) 2
 (.split (oj [v5,oi 0])
  (.ret (.tuple [z0 (oN),.agg [zn v5,zn v6]]))
  (.split (oh [v4,oi 0])
   (.ret (.tuple [z0 (oN),.agg [.int .i64 2,.int .i64 0]]))
   (.split (oo [v4,oL [v3]])
    (.ret (.tuple [z0 (oN),.agg [.int .i64 2,.int .i64 0]]))
    (.call 1 [.agg [zT v0,zS v1,zL v2,zF v3],zn v4] (.tuple [.tm (.aF [.bool,tL]) v7,.agg [zn v8,zn v9]]) 3
     (.ret (.tuple [.tm (.aF [.bool,tL]) v7,.agg [zn v8,zn v9]]))))))
theorem N8:bt Tryz.prog bs 100000 13 [.agg [zT v0,zS v1,zL v2,zF v3],zn v4] [(29,none),(30,none)] [] JZ 5=true:=by kernel_rfl
noncomputable def J0:LD:=.mk 15 (pos 57) (none) (aK 46 [(0,.tm (.aF [.bool,tL]) v0),(1,.tm (.aF [.bool,tL]) v1),(5,zb v2),(6,zn v3)]) (aS bs 6 []) 4 [pos 0,pos 1,pos 2,pos 3,pos 4,pos 5]
 [⟨.exit 0,aK 46 [(5,zb v0)],aS bs 6 [],1,.bad,[],[]⟩]
 false []
noncomputable def vi:PT:=.split v2
 (.split (oh [v3,oL [v0]])
  (.split (og [oi 0,v3])
   (.split (oh [v3,oL [v1]])
    (.split (.op .beq [oc 0 [oE [v0,v3]],oc 0 [oE [v1,v3]]])
     (.call 0 [zL (oc 1 [oE [v0,v3]]),zL (oc 1 [oE [v1,v3]])] (zb v4) 1
      (.next [v0,v1,v4,oa [v3,oi 1]]))
     (.next [v0,v1,.bool false,oa [v3,oi 1]]))
    (.dead))
   (.dead))
  (.exit 0 [v2]))
 (.exit 0 [v2])
theorem J1:bg Tryz.prog 100000 J0 [(35,none)] [] vi=true:=by kernel_rfl
noncomputable def N9:PT:=.loop 0 [v0,v1,ok [oL [v0],oL [v1]],.int .i64 0]
 (.cons 1
 (.ret (zb v2))
 (.nil))
theorem Sy:bt Tryz.prog bs 100000 15 [.tm (.aF [.bool,tL]) v0,.tm (.aF [.bool,tL]) v1] [] [J0] N9 2=true:=by kernel_rfl
noncomputable def Oa:PT:=.split (og [v1,oi 0])
 (.ret (.int .i64 0))
 (.split (oh [oi 0,v1])
  (.split (oh [.op (.kp .rem .i64) [v0,v1],oi 0])
   (.ret (zn (oa [.op (.kp .rem .i64) [v0,v1],v1])))
   (.ret (zn (.op (.kp .rem .i64) [v0,v1]))))
  (.dead))
theorem Sz:bt Tryz.prog bs 100000 17 [zn v0,zn v1] [] [] Oa 2=true:=by kernel_rfl
noncomputable def mG:LD:=.mk 22 (pos 6733) (none) (aK 84 [(0,zT v0),(3,zn v1),(4,zp 6),(5,zn v2),(12,zn v3),(13,.bool true),(26,.ptr (pos 6) 1),(27,zs v4),(28,zn v5),(29,.bool false),(32,.ptr (pos 6) 2),(33,zV v6),(34,zn (oL [v6])),(35,.bool false),(38,.ptr (pos 6) 3),(39,zM v7),(40,zn (oL [v7])),(41,.bool false),(44,.ptr (pos 6) 2),(45,zV v6),(46,zb v8)]) (aS bs 7 [(6,zk 77 4 [zs v9,zs v4,zV v6,zM v7])]) 10 [pos 0,pos 1,pos 2,pos 3,pos 4,pos 5,pos 6]
 [⟨.ret,aK 84 [(2,.bool true)],aS bs 8 [(6,zk 77 4 [zs v0,zs v1,zV v2,zM v3])],4,.bad,[pos 6],[pos 6]⟩,
  ⟨.exit 2,aK 84 [(0,zT v0),(3,zn v1),(12,zn v2),(13,.bool true),(26,.ptr (pos 6) 1),(27,zs v3),(28,zn v4),(29,.bool false),(32,.ptr (pos 6) 2),(33,zV v5),(34,zn (oL [v5])),(35,.bool false),(38,.ptr (pos 6) 3),(39,zM v6),(40,zn (oL [v6])),(41,.bool false),(44,.ptr (pos 6) 2),(45,zV v5),(46,zb v7)],aS bs 7 [(6,zk 77 4 [zs v8,zs v3,zV v5,zM v6])],9,.bad,[pos 6],[pos 6]⟩]
 false []
noncomputable def oD:PT:=.split (oh [v2,oL [v7]])
 (.split (og [oi 0,v2])
  (.split (om [.op .gB [oc 0 [oE [v7,v2]]],oi 30])
   (.exit 0 [v9,v4,v6,v7])
   (.split (om [.op .gB [oc 2 [oE [v7,v2]]],oi 30])
    (.exit 0 [v9,v4,v6,v7])
    (.split (om [oL [oc 1 [oE [v7,v2]]],oi 10])
     (.exit 0 [v9,v4,v6,v7])
     (.call 0 [zV (oc 1 [oE [v7,v2]])] (zb v10) 1
      (.split v10
       (.exit 0 [v9,v4,v6,v7])
       (.next [v0,v1,oa [v2,oi 1],v3,v4,v5,v6,v7,v8,v9]))))))
  (.dead))
 (.exit 1 [v0,v1,v3,v4,v5,v6,v7,v8,v9])
theorem DY:bg Tryz.prog 100000 mG [(41,none)] [] oD=true:=by kernel_rfl
noncomputable def DZ:LD:=.mk 22 (pos 25) (none) (aK 84 [(0,zT v0),(3,zn v1)]) (aS bs 6 []) 2 [pos 0,pos 1,pos 2,pos 3,pos 4,pos 5]
 [⟨.ret,aK 84 [(2,.bool true)],aS bs 7 [],0,.bad,[],[]⟩,
  ⟨.exit 0,aK 84 [(0,zT v0)],aS bs 6 [],1,.bad,[],[]⟩]
 false []
noncomputable def B5:PT:=.split (oh [v1,oL [v0]])
 (.split (oh [v1,oi 10])
  (.split (og [oi 0,v1])
   (.split (om [.op .gB [oc 0 [oE [v0,v1]]],oi 30])
    (.exit 0 [])
    (.split (om [.op .gB [oc 1 [oE [v0,v1]]],oi 30])
     (.exit 0 [])
     (.split (om [oL [oc 2 [oE [v0,v1]]],oi 7])
      (.exit 0 [])
      (.split (om [oL [oc 3 [oE [v0,v1]]],oi 7])
       (.exit 0 [])
       (.call 0 [zV (oc 2 [oE [v0,v1]])] (zb v2) 1
        (.split v2
         (.exit 0 [])
         (.loop 0 [v0,v1,.int .i64 0,v1,oc 1 [oE [v0,v1]],.op .gB [oc 1 [oE [v0,v1]]],oc 2 [oE [v0,v1]],oc 3 [oE [v0,v1]],v2,oc 0 [oE [v0,v1]]]
          (.cons 4
          (.exit 0 [])
          (.cons 9
          (.next [v3,oa [v4,oi 1]])
          (.nil))))))))))
   (.dead))
  (.exit 1 [v0]))
 (.exit 1 [v0])
theorem J2:bg Tryz.prog 100000 DZ [(41,none)] [mG] B5=true:=by kernel_rfl
noncomputable def Ob:PT:=.loop 0 [v0,.int .i64 0]
 (.cons 0
 (.ret (.bool true))
 (.cons 1
 (.ret (zb (om [oL [v1],oi 9])))
 (.nil)))
theorem SA:bt Tryz.prog bs 100000 22 [zT v0] [] [DZ] Ob 1=true:=by kernel_rfl
noncomputable def D0:LD:=.mk 26 (pos 57) (none) (aK 20 [(0,zT v0),(3,.vl [.str,.str,tV,tM] (oL [v1]) (pos 6)),(4,zn v2)]) (aS bs 7 [(6,.vec true 77 [.str,.str,tV,tM] (oL [v1]) v1)]) 3 [pos 0,pos 1,pos 2,pos 3,pos 4,pos 5]
 [⟨.exit 0,aK 20 [(3,.vl [.str,.str,tV,tM] (oL [v0]) (pos 6))],aS bs 7 [(6,.vec true 77 [.str,.str,tV,tM] (oL [v0]) v0)],1,.bad,[pos 6],[pos 6]⟩]
 false []
noncomputable def vj:PT:=.split (oh [v2,oL [v0]])
 (.split (og [oi 0,v2])
  (.call 0 [.agg [zs (oc 0 [oE [v0,v2]]),zs (oc 1 [oE [v0,v2]]),zV (oc 2 [oE [v0,v2]]),zM (oc 3 [oE [v0,v2]])]] (.agg [zs v3,zs v4,zV v5,zM v6]) 4
   (.split (og [oL [v1],oi 100000000])
    (.next [v0,oS [v1,v3,v4,v5,v6],oa [v2,oi 1]])
    (.dead)))
  (.dead))
 (.exit 0 [v1])
theorem J3:bg Tryz.prog 100000 D0 [(42,none)] [] vj=true:=by kernel_rfl
noncomputable def Oc:PT:=.loop 0 [v0,oN,.int .i64 0]
 (.cons 1
 (.ret (zT v1))
 (.nil))
theorem SB:bt Tryz.prog bs 100000 26 [zT v0] [] [D0] Oc 1=true:=by kernel_rfl
noncomputable def Od:PT:=.split (og [oL [v0],oi 100000000])
 (.split (oh [oi 0,oL [v0]])
  (.ret (zS (.op .app [oN,v0])))
  (.ret (zS (oN))))
 (.dead)
theorem SC:bt Tryz.prog bs 100000 27 [zS v0] [] [] Od 1=true:=by kernel_rfl
noncomputable def J4:LD:=.mk 35 (pos 57) (none) (aK 31 [(0,zL v0),(1,zL v1),(5,zb v2),(6,zn v3)]) (aS bs 6 []) 4 [pos 0,pos 1,pos 2,pos 3,pos 4,pos 5]
 [⟨.exit 0,aK 31 [(5,zb v0)],aS bs 6 [],1,.bad,[],[]⟩]
 false []
noncomputable def vk:PT:=.split v2
 (.split (oh [v3,oL [v0]])
  (.split (og [oi 0,v3])
   (.split (oh [v3,oL [v1]])
    (.next [v0,v1,oe [oc 0 [oE [v0,v3]],oc 0 [oE [v1,v3]]],oa [v3,oi 1]])
    (.dead))
   (.dead))
  (.exit 0 [v2]))
 (.exit 0 [v2])
theorem J5:bg Tryz.prog 100000 J4 [] [] vk=true:=by kernel_rfl
noncomputable def Oe:PT:=.loop 0 [v0,v1,ok [oL [v0],oL [v1]],.int .i64 0]
 (.cons 1
 (.ret (zb v2))
 (.nil))
theorem SD:bt Tryz.prog bs 100000 35 [zL v0,zL v1] [] [J4] Oe 2=true:=by kernel_rfl
noncomputable def Of:PT:=.call 0 [zT v0] (.agg [zn v3,zn v4]) 2
 (.split (ok [v3,oi 0])
  (.split (ok [v4,oi 0])
   (.call 1 [.agg [zT v0],zs v1] (zb v5) 1
    (.split (oT [v5])
     (.ret (.bool false))
     (.call 1 [.agg [zT v0],zs v2] (zb v6) 1
      (.split (oT [v6])
       (.ret (.bool false))
       (.split (oe [v1,v2])
        (.ret (.bool true))
        (.call 2 [zT v0,zs v1] (zL v7) 1
         (.call 3 [zL v7,zs v2] (zb v8) 1
          (.ret (zb v8)))))))))
   (.ret (.bool false)))
  (.ret (.bool false)))
theorem SE:bt Tryz.prog bs 100000 40 [zT v0,zs v1,zs v2] [(43,none),(102,none),(61,none),(60,none)] [] Of 3=true:=by kernel_rfl
noncomputable def zg:LD:=.mk 42 (pos 121) (none) (aK 35 [(1,zp 6),(2,zp 7),(3,.vl [.str,tV,.str] (oL [v0]) (pos 10)),(4,zn v1)]) (aS bs 11 [(6,zk 77 4 [zs v2,zs v3,.vl [.str,.str] (oL [v4]) (pos 9),zM v5]),(7,zk 77 4 [.str [],.str [],.an,.an]),(9,.vec true 117 [.str,.str] (oL [v4]) v4),(10,.vec true 80 [.str,tV,.str] (oL [v0]) v0)]) 6 [pos 0,pos 1,pos 2,pos 3,pos 4,pos 5,pos 6,pos 7,pos 9]
 [⟨.exit 0,aK 35 [(1,zp 6),(2,zp 7),(3,.vl [.str,tV,.str] (oL [v0]) (pos 10))],aS bs 11 [(6,zk 77 4 [zs v2,zs v3,.vl [.str,.str] (oL [v1]) (pos 9),zM v4]),(7,zk 77 4 [.str [],.str [],.an,.an]),(9,.vec true 117 [.str,.str] (oL [v1]) v1),(10,.vec true 80 [.str,tV,.str] (oL [v0]) v0)],5,.bad,[pos 6,pos 7,pos 9,pos 10],[pos 6,pos 7,pos 9,pos 10]⟩]
 false []
noncomputable def rp:PT:=.split (oh [v1,oL [v5]])
 (.split (og [oi 0,v1])
  (.split (og [oL [oc 1 [oE [v5,v1]]],oi 100000000])
   (.split (oh [oi 0,oL [oc 1 [oE [v5,v1]]]])
    (.split (og [oL [v0],oi 100000000])
     (.next [oS [v0,oc 0 [oE [v5,v1]],.op .app [oN,oc 1 [oE [v5,v1]]],oc 2 [oE [v5,v1]]],oa [v1,oi 1],v2,v3,v4,v5])
     (.dead))
    (.split (og [oL [v0],oi 100000000])
     (.next [oS [v0,oc 0 [oE [v5,v1]],oN,oc 2 [oE [v5,v1]]],oa [v1,oi 1],v2,v3,v4,v5])
     (.dead)))
   (.dead))
  (.dead))
 (.exit 0 [v0,v4,v2,v3,v5])
theorem G1:bg Tryz.prog 100000 zg [] [] rp=true:=by kernel_rfl
noncomputable def Og:PT:=.split (og [oL [v2],oi 100000000])
 (.split (oh [oi 0,oL [v2]])
  (.loop 0 [oN,.int .i64 0,v0,v1,.op .app [oN,v2],v3]
   (.cons 5
   (.ret (.agg [zs v6,zs v7,zV v5,zM v4]))
   (.nil)))
  (.loop 0 [oN,.int .i64 0,v0,v1,oN,v3]
   (.cons 5
   (.ret (.agg [zs v6,zs v7,zV v5,zM v4]))
   (.nil))))
 (.dead)
theorem SF:bt Tryz.prog bs 100000 42 [.agg [zs v0,zs v1,zV v2,zM v3]] [] [zg] Og 4=true:=by kernel_rfl
noncomputable def J6:LD:=.mk 44 (pos 57) (none) (aK 29 [(0,zT v0),(4,zp 6),(12,zS v1),(13,zn (oL [v1])),(14,zn v2)]) (aS bs 7 [(6,zk 33 2 [.int .i64 0,.int .i64 0])]) 3 [pos 0,pos 1,pos 2,pos 3,pos 4,pos 5,pos 6]
 [⟨.ret,aK 29 [(4,zp 6)],aS bs 8 [(6,zk 33 2 [zn v0,zn v1])],2,.bad,[pos 6],[pos 6]⟩,
  ⟨.exit 0,aK 29 [(4,zp 6)],aS bs 7 [(6,zk 33 2 [.int .i64 0,.int .i64 0])],0,.bad,[pos 6],[pos 6]⟩]
 false []
noncomputable def vn:PT:=.split (oh [v2,oL [v1]])
 (.split (og [oi 0,v2])
  (.call 0 [zT v0,.agg [zn (oc 0 [oE [v1,v2]]),zs (oc 1 [oE [v1,v2]]),zs (oc 2 [oE [v1,v2]])]] (zn v3) 1
   (.split (oj [v3,oi 0])
    (.exit 0 [v3,v2])
    (.next [v0,v1,oa [v2,oi 1]])))
  (.dead))
 (.exit 1 [])
theorem J7:bg Tryz.prog 100000 J6 [(65,none)] [] vn=true:=by kernel_rfl
noncomputable def Oh:PT:=.split (om [oL [v1],oi 5000])
 (.ret (.agg [.int .i64 12,.int .i64 5000]))
 (.loop 0 [v0,v1,.int .i64 0]
  (.cons 2
  (.ret (.agg [zn v2,zn v3]))
  (.cons 0
  (.ret (.agg [.int .i64 0,.int .i64 0]))
  (.nil))))
theorem SG:bt Tryz.prog bs 100000 44 [zT v0,zS v1] [] [J6] Oh 2=true:=by kernel_rfl
noncomputable def vp:LD:=.mk 46 (pos 6757) (none) (aK 37 [(2,.vl [.str,.str,tL,.aF [.int .i64,.int .i64,.int .i64,.int .i64]] (oL [v0]) (pos 7)),(4,zp 6),(7,zT v1),(8,zn (oL [v1])),(9,zn v2),(14,zM v3),(15,zn (oL [v3])),(16,zn v4)]) (aS bs 8 [(6,zk 77 4 [zs v5,zs v6,zV v7,zM v3]),(7,.vec true 48 [.str,.str,tL,.aF [.int .i64,.int .i64,.int .i64,.int .i64]] (oL [v0]) v0)]) 8 [pos 0,pos 1,pos 2,pos 3,pos 4,pos 5,pos 6]
 [⟨.exit 2,aK 37 [(2,.vl [.str,.str,tL,.aF [.int .i64,.int .i64,.int .i64,.int .i64]] (oL [v0]) (pos 7)),(7,zT v1),(8,zn (oL [v1])),(9,zn v2)],aS bs 8 [(6,zk 77 4 [zs v3,zs v4,zV v5,zM v6]),(7,.vec true 48 [.str,.str,tL,.aF [.int .i64,.int .i64,.int .i64,.int .i64]] (oL [v0]) v0)],7,.bad,[pos 6,pos 7],[pos 6,pos 7]⟩]
 false []
noncomputable def oF:PT:=.split (oh [v4,oL [v3]])
 (.split (og [oi 0,v4])
  (.call 0 [zV (oc 1 [oE [v3,v4]])] (zL v8) 1
   (.split (og [oL [v0],oi 100000000])
    (.next [oS [v0,v5,oc 0 [oE [v3,v4]],v8,oN],v1,v2,v3,oa [v4,oi 1],v5,v6,v7])
    (.dead)))
  (.dead))
 (.exit 0 [v0,v1,v2,v5,v6,v7,v3])
theorem D1:bg Tryz.prog 100000 vp [(66,none)] [] oF=true:=by kernel_rfl
noncomputable def J8:LD:=.mk 46 (pos 25) (none) (aK 37 [(2,.vl [.str,.str,tL,.aF [.int .i64,.int .i64,.int .i64,.int .i64]] (oL [v0]) (pos 6)),(7,zT v1),(8,zn (oL [v1])),(9,zn v2)]) (aS bs 7 [(6,.vec true 48 [.str,.str,tL,.aF [.int .i64,.int .i64,.int .i64,.int .i64]] (oL [v0]) v0)]) 3 [pos 0,pos 1,pos 2,pos 3,pos 4,pos 5]
 [⟨.exit 0,aK 37 [(2,.vl [.str,.str,tL,.aF [.int .i64,.int .i64,.int .i64,.int .i64]] (oL [v0]) (pos 6))],aS bs 7 [(6,.vec true 48 [.str,.str,tL,.aF [.int .i64,.int .i64,.int .i64,.int .i64]] (oL [v0]) v0)],1,.bad,[pos 6],[pos 6]⟩]
 false []
noncomputable def vq:PT:=.split (oh [v2,oL [v1]])
 (.split (og [oi 0,v2])
  (.loop 0 [v0,v1,v2,oc 3 [oE [v1,v2]],.int .i64 0,oc 0 [oE [v1,v2]],oc 1 [oE [v1,v2]],oc 2 [oE [v1,v2]]]
   (.cons 7
   (.next [v3,v4,oa [v5,oi 1]])
   (.nil)))
  (.dead))
 (.exit 0 [v0])
theorem J9:bg Tryz.prog 100000 J8 [] [vp] vq=true:=by kernel_rfl
noncomputable def Oi:PT:=.loop 0 [oN,v0,.int .i64 0]
 (.cons 1
 (.split (og [oL [v1],oi 100000000])
  (.ret (zF (oS [v1,.str [],.str [109,97,105,110],oN,oN])))
  (.dead))
 (.nil))
theorem SH:bt Tryz.prog bs 100000 46 [zT v0] [] [J8] Oi 1=true:=by kernel_rfl
noncomputable def Oj:PT:=.split (oe [v0,v4])
 (.split (oe [v1,v5])
  (.split (oo [oL [v2],oL [v6]])
   (.split (og [oi 0,oL [v6]])
    (.split (og [oL [v6],oL [v2]])
     (.call 0 [zL (.op .sub [v2,oi 0,oL [v6]]),zL v6] (zb v8) 1
      (.ret (zb v8)))
     (.dead))
    (.dead))
   (.ret (.bool false)))
  (.ret (.bool false)))
 (.ret (.bool false))
theorem SI:bt Tryz.prog bs 100000 47 [.agg [zs v0,zs v1,zL v2,.tm (.aF [.int .i64,.int .i64,.int .i64,.int .i64]) v3],.agg [zs v4,zs v5,zL v6,.tm (.aF [.int .i64,.int .i64,.int .i64,.int .i64]) v7]] [(67,none)] [] Oj 8=true:=by kernel_rfl
noncomputable def Ol:PT:=.split (ok [v5,oi 0])
 (.ret (.bool true))
 (.split (ok [v5,oi 1])
  (.ret (.bool true))
  (.split (ok [v5,oi 9])
   (.ret (.bool true))
   (.split (ok [v5,oi 2])
    (.call 0 [.tm (.int .u64) (.op (.conv .u64) [v6])] (.tm (.int .u64) v7) 1
     (.ret (zb (ok [v7,.op (.conv .u64) [v6]]))))
    (.split (ok [v5,oi 12])
     (.split (oo [v6,oi 1])
      (.ret (zb (og [v6,oL [v1]])))
      (.ret (.bool false)))
     (.split (ok [v5,oi 8])
      (.split (oo [v6,oi 2])
       (.call 1 [] (zL v7) 1
        (.ret (zb (oh [v6,oL [v7]]))))
       (.ret (.bool false)))
      (.split (ok [v5,oi 3])
       (.split (oo [v6,oi 0])
        (.ret (zb (oh [v6,oi 2])))
        (.ret (.bool false)))
       (.split (ok [v5,oi 10])
        (.split (oo [v6,oi 0])
         (.ret (zb (oh [v6,oi 2])))
         (.ret (.bool false)))
        (.split (ok [v5,oi 11])
         (.split (oo [v6,oi 0])
          (.ret (zb (oh [v6,oi 3])))
          (.ret (.bool false)))
         (.split (ok [v5,oi 13])
          (.split (oo [v6,oi 0])
           (.ret (zb (oh [v6,oi 9])))
           (.ret (.bool false)))
          (.split (ok [v5,oi 7])
           (.call 1 [] (zL v7) 1
            (.split (oo [v6,oi 0])
             (.ret (zb (oh [v6,oL [v7]])))
             (.ret (.bool false))))
           (.split (ok [v5,oi 4])
            (.split (oo [v6,oi 0])
             (.ret (zb (oh [v6,oL [v2]])))
             (.ret (.bool false)))
            (.split (ok [v5,oi 5])
             (.split (og [oi 0,v4])
              (.split (oh [v4,oL [v3]])
               (.split (oo [v6,oi 0])
                (.ret (zb (oh [v6,oL [oc 2 [oE [v3,v4]]]])))
                (.ret (.bool false)))
               (.dead))
              (.dead))
             (.split (ok [v5,oi 6])
              (.split (og [oi 0,v4])
               (.split (oh [v4,oL [v3]])
                (.split (oo [v6,oi 0])
                 (.ret (zb (oh [v6,oL [oc 3 [oE [v3,v4]]]])))
                 (.ret (.bool false)))
                (.dead))
               (.dead))
              (.split (oo [v6,oi 0])
               (.ret (zb (oh [v6,oi 0])))
               (.ret (.bool false))))))))))))))))
theorem SJ:bt Tryz.prog bs 100000 58 [.agg [zT v0,zS v1,zL v2,zF v3,zn v4],zn v5,zn v6] [(98,none),(99,none)] [] Ol 7=true:=by kernel_rfl
noncomputable def Om:PT:=.call 0 [zL v0,zs v1] (zn v2) 1
 (.ret (zb (oo [v2,oi 0])))
theorem SK:bt Tryz.prog bs 100000 60 [zL v0,zs v1] [(103,none)] [] Om 2=true:=by kernel_rfl
noncomputable def D2:LD:=.mk 147 (pos 5) (none) (aK 37 [(0,.yield (pos 10)),(1,zp 7),(2,zp 8),(4,.vl [.str] (oL [v0]) (pos 11))]) (aS bs 13 [(6,zk 24 1 [.vl [.str] (oL [v1]) (pos 12)]),(7,zk 22 1 [zT v2]),(8,zk 9 1 [zs v3]),(9,.deferred true),(10,.loop (.mk .ready none (ec [(0,.bad),(1,.bad),(7,.bad),(4,zp 6),(8,.func 147 [] [zp 7,zp 8]),(6,.bad)] .nil) 18 [9] (pos 9) 61 (pos 25))),(11,.vec true 9 [.str] (oL [v0]) v0),(12,.vec true 9 [.str] (oL [v1]) v1)]) 4 [pos 0,pos 1,pos 2,pos 3,pos 4,pos 5,pos 6,pos 7,pos 8,pos 9,pos 10]
 [⟨.ret,aK 37 [],aS bs 13 [(6,zk 24 1 [.vl [.str] (oL [v0]) (pos 12)]),(7,zk 22 1 [zT v3]),(8,zk 9 1 [zs v2]),(9,.deferred true),(10,.loop (.mk .ready none (ec [(0,.bad),(1,.bad),(7,.bad),(4,zp 6),(8,.func 147 [] [zp 7,zp 8]),(6,.bad)] .nil) 18 [9] (pos 9) 61 (pos 25))),(11,.vec true 9 [.str] (oL [v1]) v1),(12,.vec true 9 [.str] (oL [v0]) v0)],4,.bad,[pos 6,pos 7,pos 8,pos 9,pos 10,pos 11,pos 12],[pos 6,pos 7,pos 8,pos 9,pos 10,pos 11,pos 12]⟩]
 false []
noncomputable def B6:PT:=.call 0 [zT v2,zs v3] (.tuple [zn v4,zb v5]) 2
 (.split (oT [v5])
  (.exit 0 [v1,v0,v3,v2])
  (.call 1 [zL v0,zs v3] (zb v6) 1
   (.split v6
    (.exit 0 [v1,v0,v3,v2])
    (.split (og [oi 0,v4])
     (.split (oh [v4,oL [v2]])
      (.split (og [oL [v1],oi 100000000])
       (.split (og [oL [v0],oi 100000000])
        (.next [oS [v0,v3],oS [v1,oc 0 [oE [v2,v4]]],v2,oc 1 [oE [v2,v4]]])
        (.dead))
       (.dead))
      (.dead))
     (.dead)))))
theorem Ka:bg Tryz.prog 100000 D2 [(106,none),(60,none)] [] B6=true:=by kernel_rfl
noncomputable def On:PT:=.loop 0 [oN,oN,v0,v1]
 (.cons 4
 (.ret (zL v2))
 (.nil))
theorem SL:bt Tryz.prog bs 100000 61 [zT v0,zs v1] [] [D2] On 2=true:=by kernel_rfl
noncomputable def Oo:PT:=.split (oh [v1,oi 1])
 (.ret (.int .i64 2))
 (.split (om [v1,oi 5])
  (.ret (.int .i64 2))
  (.split (oj [v1,oi 1])
   (.split (of [v2,.str [63]])
    (.ret (.int .i64 2))
    (.split (of [v3,.str [63]])
     (.ret (.int .i64 2))
     (.split (ok [v1,oi 1])
      (.dead)
      (.ret (.int .i64 0)))))
   (.split (ok [v1,oi 1])
    (.call 0 [zT v0,zs v2,zs v3] (zb v4) 1
     (.split (oT [v4])
      (.ret (.int .i64 7))
      (.call 1 [zT v0,zs v2,zs v3] (zb v5) 1
       (.split v5
        (.ret (.int .i64 7))
        (.ret (.int .i64 0))))))
    (.dead))))
theorem SM:bt Tryz.prog bs 100000 65 [zT v0,.agg [zn v1,zs v2,zs v3]] [(112,none),(40,none)] [] Oo 4=true:=by kernel_rfl
noncomputable def Kb:LD:=.mk 66 (pos 25) (none) (aK 18 [(2,.vl [.str] (oL [v0]) (pos 6)),(5,zV v1),(6,zn (oL [v1])),(7,zn v2)]) (aS bs 7 [(6,.vec true 9 [.str] (oL [v0]) v0)]) 3 [pos 0,pos 1,pos 2,pos 3,pos 4,pos 5]
 [⟨.exit 0,aK 18 [(2,.vl [.str] (oL [v0]) (pos 6))],aS bs 7 [(6,.vec true 9 [.str] (oL [v0]) v0)],1,.bad,[pos 6],[pos 6]⟩]
 false []
noncomputable def vr:PT:=.split (oh [v2,oL [v1]])
 (.split (og [oi 0,v2])
  (.split (og [oL [v0],oi 100000000])
   (.next [oS [v0,oc 1 [oE [v1,v2]]],v1,oa [v2,oi 1]])
   (.dead))
  (.dead))
 (.exit 0 [v0])
theorem Kc:bg Tryz.prog 100000 Kb [] [] vr=true:=by kernel_rfl
noncomputable def Oq:PT:=.loop 0 [oN,v0,.int .i64 0]
 (.cons 1
 (.ret (zL v1))
 (.nil))
theorem SN:bt Tryz.prog bs 100000 66 [zV v0] [] [Kb] Oq 1=true:=by kernel_rfl
noncomputable def Kd:LD:=.mk 67 (pos 57) (none) (aK 26 [(0,zL v0),(1,zL v1),(12,zn (oL [v0])),(13,zn v2)]) (aS bs 6 []) 3 [pos 0,pos 1,pos 2,pos 3,pos 4,pos 5]
 [⟨.ret,aK 26 [(4,.bool false)],aS bs 6 [],0,.bad,[],[]⟩,
  ⟨.exit 0,aK 26 [],aS bs 6 [],0,.bad,[],[]⟩]
 false []
noncomputable def qh:PT:=.split (oh [v2,oL [v0]])
 (.split (og [oi 0,v2])
  (.split (oh [v2,oL [v1]])
   (.split (of [oc 0 [oE [v0,v2]],oc 0 [oE [v1,v2]]])
    (.exit 0 [])
    (.next [v0,v1,oa [v2,oi 1]]))
   (.dead))
  (.dead))
 (.exit 1 [])
theorem Ke:bg Tryz.prog 100000 Kd [] [] qh=true:=by kernel_rfl
noncomputable def Ot:PT:=.split (oj [oL [v0],oL [v1]])
 (.ret (.bool false))
 (.loop 0 [v0,v1,.int .i64 0]
  (.cons 0
  (.ret (.bool false))
  (.cons 0
  (.ret (.bool true))
  (.nil))))
theorem SO:bt Tryz.prog bs 100000 67 [zL v0,zL v1] [] [Kd] Ot 2=true:=by kernel_rfl
noncomputable def Ou:PT:=.split (og [oi 0,v6])
 (.split (oh [v6,oL [v2]])
  (.call 0 [zT v0,zs (oc 0 [oE [v2,v6]])] (.tuple [zn v9,zb v10]) 2
   (.split (oT [v10])
    (.ret (.tuple [.agg [z0 (oN),.str []],.int .i64 6]))
    (.ret (.tuple [.agg [z0 (oN),zs (oc 0 [oE [v2,v6]])],.int .i64 0]))))
  (.dead))
 (.dead)
theorem SP:bt Tryz.prog bs 100000 84 [.agg [zT v0,zS v1,zL v2,zF v3,zn v4],.agg [zn v5,zn v6,zn v7,zn v8]] [(106,none)] [] Ou 9=true:=by kernel_rfl
noncomputable def Ov:PT:=.split (og [oi 0,v4])
 (.split (oh [v4,oL [v3]])
  (.split (oe [oc 0 [oE [v3,v4]],.str []])
   (.ret (.tuple [.agg [z0 (oN),.str []],.int .i64 6]))
   (.ret (.tuple [.agg [z0 (oN),zs (oc 0 [oE [v3,v4]])],.int .i64 0])))
  (.dead))
 (.dead)
theorem SQ:bt Tryz.prog bs 100000 85 [.agg [zT v0,zS v1,zL v2,zF v3,zn v4],.agg [zn v5,zn v6,zn v7,zn v8]] [] [] Ov 9=true:=by kernel_rfl
noncomputable def Ow:PT:=.split (og [oi 0,v4])
 (.split (oh [v4,oL [v3]])
  (.split (og [oi 0,v6])
   (.split (oh [v6,oL [oc 2 [oE [v3,v4]]]])
    (.ret (.tuple [.agg [z0 (oN),zs (oc 0 [oE [oc 2 [oE [v3,v4]],v6]])],.int .i64 0]))
    (.dead))
   (.dead))
  (.dead))
 (.dead)
theorem SU:bt Tryz.prog bs 100000 86 [.agg [zT v0,zS v1,zL v2,zF v3,zn v4],.agg [zn v5,zn v6,zn v7,zn v8]] [] [] Ow 9=true:=by kernel_rfl
noncomputable def Ox:PT:=.split (og [oi 0,v4])
 (.split (oh [v4,oL [v3]])
  (.split (og [oi 0,v6])
   (.split (oh [v6,oL [oc 2 [oE [v3,v4]]]])
    (.ret (.tuple [.agg [zL (oS [oN,oc 0 [oE [oc 2 [oE [v3,v4]],v6]]]),.str []],.int .i64 0]))
    (.dead))
   (.dead))
  (.dead))
 (.dead)
theorem SV:bt Tryz.prog bs 100000 87 [.agg [zT v0,zS v1,zL v2,zF v3,zn v4],.agg [zn v5,zn v6,zn v7,zn v8]] [] [] Ox 9=true:=by kernel_rfl
noncomputable def Oy:PT:=.call 0 [zn v7] (.tuple [zs v9,zn v10]) 2
 (.split (oh [v6,oi 2])
  (.split (oj [v7,oi 0])
   (.ret (.tuple [.agg [z0 (oN),.str []],.int .i64 7]))
   (.ret (.tuple [.agg [zL (oS [oS [oN,.str [42]],.str [42]]),.str [98,111,111,108]],.int .i64 0])))
  (.call 1 [] (zL v11) 1
   (.split (og [oi 0,v6])
    (.split (oh [v6,oL [v11]])
     (.call 2 [zs (oc 0 [oE [v11,v6]]),zs v9,zs v9] (.tuple [.agg [zs v12,zs v13,zb v14],zn v15]) 4
      (.split (oj [v10,oi 0])
       (.ret (.tuple [.agg [z0 (oN),.str []],.int .i64 7]))
       (.split (oj [v15,oi 0])
        (.ret (.tuple [.agg [z0 (oN),.str []],.int .i64 7]))
        (.ret (.tuple [.agg [zL (oS [oS [oN,v9],v9]),zs v13],.int .i64 0])))))
     (.dead))
    (.dead))))
theorem SW:bt Tryz.prog bs 100000 88 [.agg [zT v0,zS v1,zL v2,zF v3,zn v4],.agg [zn v5,zn v6,zn v7,zn v8]] [(135,none),(99,none),(136,none)] [] Oy 9=true:=by kernel_rfl
noncomputable def Oz:PT:=.split (og [oi 0,ob [v7,oi 1]])
 (.split (oh [ob [v7,oi 1],oL [v1]])
  (.split (oj [oc 0 [oE [v1,ob [v7,oi 1]]],oi 5])
   (.ret (.tuple [.agg [z0 (oN),.str []],.int .i64 7]))
   (.call 0 [] (zL v9) 1
    (.split (og [oi 0,v6])
     (.split (oh [v6,oL [v9]])
      (.call 1 [zs (oc 0 [oE [v9,v6]]),.str [63],.str [63]] (.tuple [.agg [zs v10,zs v11,zb v12],zn v13]) 4
       (.ret (.tuple [.agg [zL (oS [oS [oN,.str [63]],.str [63]]),zs v11],.int .i64 0])))
      (.dead))
     (.dead))))
  (.dead))
 (.dead)
theorem SX:bt Tryz.prog bs 100000 89 [.agg [zT v0,zS v1,zL v2,zF v3,zn v4],.agg [zn v5,zn v6,zn v7,zn v8]] [(99,none),(136,none)] [] Oz 9=true:=by kernel_rfl
noncomputable def OA:PT:=.call 0 [zn v7] (.tuple [zs v9,zn v10]) 2
 (.split (ok [v6,oi 0])
  (.call 1 [.str [45],zs v9] (.tuple [.agg [zs v11,zs v12,zb v13],zn v14]) 4
   (.split (oj [v10,oi 0])
    (.ret (.tuple [.agg [z0 (oN),.str []],.int .i64 7]))
    (.split (oj [v14,oi 0])
     (.ret (.tuple [.agg [z0 (oN),.str []],.int .i64 7]))
     (.ret (.tuple [.agg [zL (oS [oN,v9]),zs v12],.int .i64 0])))))
  (.split (ok [v6,oi 1])
   (.call 1 [.str [33],zs v9] (.tuple [.agg [zs v11,zs v12,zb v13],zn v14]) 4
    (.split (oj [v10,oi 0])
     (.ret (.tuple [.agg [z0 (oN),.str []],.int .i64 7]))
     (.split (oj [v14,oi 0])
      (.ret (.tuple [.agg [z0 (oN),.str []],.int .i64 7]))
      (.ret (.tuple [.agg [zL (oS [oN,v9]),zs v12],.int .i64 0])))))
   (.dead)))
theorem SY:bt Tryz.prog bs 100000 90 [.agg [zT v0,zS v1,zL v2,zF v3,zn v4],.agg [zn v5,zn v6,zn v7,zn v8]] [(135,none),(138,none)] [] OA 9=true:=by kernel_rfl
noncomputable def OB:PT:=.split (ok [v6,oi 0])
 (.call 0 [.str [114,101,97,108],.str [63]] (.tuple [.agg [zs v9,zs v10,zb v11],zn v12]) 4
  (.ret (.tuple [.agg [zL (oS [oN,v9]),zs v10],.int .i64 0])))
 (.split (ok [v6,oi 1])
  (.call 0 [.str [105,110,116],.str [63]] (.tuple [.agg [zs v9,zs v10,zb v11],zn v12]) 4
   (.ret (.tuple [.agg [zL (oS [oN,v9]),zs v10],.int .i64 0])))
  (.split (ok [v6,oi 2])
   (.call 0 [.str [108,101,110],.str [63]] (.tuple [.agg [zs v9,zs v10,zb v11],zn v12]) 4
    (.ret (.tuple [.agg [zL (oS [oN,v9]),zs v10],.int .i64 0])))
   (.dead)))
theorem SZ:bt Tryz.prog bs 100000 91 [.agg [zT v0,zS v1,zL v2,zF v3,zn v4],.agg [zn v5,zn v6,zn v7,zn v8]] [(139,none)] [] OB 9=true:=by kernel_rfl
noncomputable def OC:PT:=.split (og [oi 0,ob [v6,oi 1]])
 (.split (oh [ob [v6,oi 1],oL [v1]])
  (.split (oj [oc 0 [oE [v1,ob [v6,oi 1]]],oi 1])
   (.ret (.tuple [.agg [z0 (oN),.str []],.int .i64 7]))
   (.ret (.tuple [.agg [zL (oS [oN,oc 1 [oE [v1,ob [v6,oi 1]]]]),zs (oc 2 [oE [v1,ob [v6,oi 1]]])],.int .i64 0])))
  (.dead))
 (.dead)
theorem S0:bt Tryz.prog bs 100000 92 [.agg [zT v0,zS v1,zL v2,zF v3,zn v4],.agg [zn v5,zn v6,zn v7,zn v8]] [] [] OC 9=true:=by kernel_rfl
noncomputable def OD:PT:=.split (og [oi 0,v6])
 (.split (oh [v6,oL [v2]])
  (.split (og [oi 0,v7])
   (.split (oh [v7,oL [v2]])
    (.call 0 [zT v0,zs (oc 0 [oE [v2,v6]]),zs (oc 0 [oE [v2,v7]])] (.tuple [zs v9,zb v10]) 2
     (.split (oT [v10])
      (.ret (.tuple [.agg [z0 (oN),.str []],.int .i64 6]))
      (.split (ok [v5,oi 18])
       (.ret (.tuple [.agg [zL (oS [oN,oc 0 [oE [v2,v6]]]),zs v9],.int .i64 0]))
       (.ret (.tuple [.agg [zL (oS [oS [oN,oc 0 [oE [v2,v6]]],v9]),.str [117,110,105,116]],.int .i64 0])))))
    (.dead))
   (.dead))
  (.dead))
 (.dead)
theorem S3:bt Tryz.prog bs 100000 93 [.agg [zT v0,zS v1,zL v2,zF v3,zn v4],.agg [zn v5,zn v6,zn v7,zn v8]] [(141,none)] [] OD 9=true:=by kernel_rfl
noncomputable def OE:PT:=.split (og [oi 0,v6])
 (.split (oh [v6,oL [v2]])
  (.split (og [oi 0,v4])
   (.split (oh [v4,oL [v3]])
    (.split (og [oi 0,v7])
     (.split (oh [v7,oL [v2]])
      (.call 0 [zT v0,zs (oc 0 [oE [v2,v6]]),zs (oc 0 [oE [v2,v7]])] (.tuple [.agg [zs v9,zV v10,zs v11],zs v12,zb v13]) 5
       (.split (oT [v13])
        (.ret (.tuple [.agg [z0 (oN),.str []],.int .i64 6]))
        (.split (ok [v5,oi 21])
         (.split (oe [oc 0 [oE [v3,v4]],.str []])
          (.ret (.tuple [.agg [z0 (oN),.str []],.int .i64 6]))
          (.split (oe [oc 0 [oE [v3,v4]],oc 0 [oE [v2,v6]]])
           (.ret (.tuple [.agg [z0 (oN),.str []],.int .i64 6]))
           (.call 1 [zT v0,zs (oc 0 [oE [v3,v4]]),zs (oc 0 [oE [v2,v6]])] (zb v14) 1
            (.split (oT [v14])
             (.ret (.tuple [.agg [z0 (oN),.str []],.int .i64 6]))
             (.call 2 [zV v10] (zL v15) 1
              (.ret (.tuple [.agg [zL v15,zs v11],.int .i64 0])))))))
         (.call 2 [zV v10] (zL v14) 1
          (.split (og [oL [v14],oi 100000000])
           (.split (oh [oi 0,oL [v14]])
            (.ret (.tuple [.agg [zL (.op .app [oS [oN,oc 0 [oE [v2,v6]]],v14]),zs v11],.int .i64 0]))
            (.ret (.tuple [.agg [zL (oS [oN,oc 0 [oE [v2,v6]]]),zs v11],.int .i64 0])))
           (.dead))))))
      (.dead))
     (.dead))
    (.dead))
   (.dead))
  (.dead))
 (.dead)
theorem S4:bt Tryz.prog bs 100000 94 [.agg [zT v0,zS v1,zL v2,zF v3,zn v4],.agg [zn v5,zn v6,zn v7,zn v8]] [(142,none),(40,none),(66,none)] [] OE 9=true:=by kernel_rfl
noncomputable def OF:PT:=.split (og [oi 0,v6])
 (.split (oh [v6,oL [v2]])
  (.call 0 [zT v0,zs (oc 0 [oE [v2,v6]])] (.tuple [zn v9,zb v10]) 2
   (.split (oT [v10])
    (.ret (.tuple [.agg [z0 (oN),.str []],.int .i64 6]))
    (.call 1 [zT v0,zs (oc 0 [oE [v2,v6]]),.str [105,110,105,116]] (.tuple [.agg [zs v11,zV v12,zs v13],zs v14,zb v15]) 5
     (.call 2 [zV v12] (zL v16) 1
      (.ret (.tuple [.agg [zL v16,zs (oc 0 [oE [v2,v6]])],.int .i64 0]))))))
  (.dead))
 (.dead)
theorem S5:bt Tryz.prog bs 100000 95 [.agg [zT v0,zS v1,zL v2,zF v3,zn v4],.agg [zn v5,zn v6,zn v7,zn v8]] [(106,none),(142,none),(66,none)] [] OF 9=true:=by kernel_rfl
noncomputable def vt:LD:=.mk 96 (pos 7541) (none) (aK 55 [(2,zp 6),(3,zp 7),(4,zp 8),(6,.int .i64 4),(7,.str [63]),(8,.vl [.str] (oL [v0]) (pos 11)),(20,zn v1),(21,zn v2)]) (aS bs 12 [(6,zk 109 5 [zT v3,zS v4,zL v5,zF v6,zn v7]),(7,zk 55 4 [zn v8,zn v9,zn v10,zn v1]),(8,zk 51 2 [.an,.str []]),(11,.vec true 9 [.str] (oL [v0]) v0)]) 11 [pos 0,pos 1,pos 2,pos 3,pos 4,pos 5,pos 6,pos 7,pos 8]
 [⟨.exit 1,aK 55 [(2,zp 6),(3,zp 7),(4,zp 8),(6,.int .i64 4),(7,.str [63]),(8,.vl [.str] (oL [v0]) (pos 11))],aS bs 12 [(6,zk 109 5 [zT v5,zS v6,zL v7,zF v8,zn v9]),(7,zk 55 4 [zn v1,zn v2,zn v3,zn v4]),(8,zk 51 2 [.an,.str []]),(11,.vec true 9 [.str] (oL [v0]) v0)],10,.bad,[pos 6,pos 7,pos 8,pos 11],[pos 6,pos 7,pos 8,pos 11]⟩]
 false []
noncomputable def vu:PT:=.split (oh [v2,v1])
 (.split (og [oL [v0],oi 100000000])
  (.next [oS [v0,.str [63]],v1,oa [v2,oi 1],v3,v4,v5,v6,v7,v8,v9,v10])
  (.dead))
 (.exit 0 [v0,v8,v9,v10,v1,v3,v4,v5,v6,v7])
theorem D3:bg Tryz.prog 100000 vt [] [] vu=true:=by kernel_rfl
noncomputable def OG:PT:=.split (ok [v5,oi 24])
 (.split (og [oi 0,v6])
  (.split (oh [v6,oL [v2]])
   (.call 0 [zs (oc 0 [oE [v2,v6]])] (zb v9) 1
    (.split (oT [v9])
     (.ret (.tuple [.agg [z0 (oN),.str []],.int .i64 6]))
     (.split (og [oi 0,ob [v7,oi 1]])
      (.split (oh [ob [v7,oi 1],oL [v1]])
       (.split (oj [oc 0 [oE [v1,ob [v7,oi 1]]],oi 3])
        (.ret (.tuple [.agg [z0 (oN),.str []],.int .i64 7]))
        (.ret (.tuple [.agg [zL (oS [oS [oN,.str [63]],.str [63]]),.str [117,110,105,116]],.int .i64 0])))
       (.dead))
      (.dead))))
   (.dead))
  (.dead))
 (.split (ok [v5,oi 25])
  (.split (oh [oi 0,v8])
   (.loop 0 [oS [oS [oN,.str [63]],.str [63]],v8,.int .i64 1,v0,v1,v2,v3,v4,v5,v6,v7]
    (.cons 10
    (.split (og [oi 0,v11])
     (.split (oh [v11,oL [v16]])
      (.call 0 [zs (oc 0 [oE [v16,v11]])] (zb v19) 1
       (.split (oT [v19])
        (.ret (.tuple [.agg [z0 (oN),.str []],.int .i64 6]))
        (.split (og [oi 0,ob [v12,oi 1]])
         (.split (oh [ob [v12,oi 1],oL [v15]])
          (.split (oj [oc 0 [oE [v15,ob [v12,oi 1]]],oi 4])
           (.ret (.tuple [.agg [z0 (oN),.str []],.int .i64 7]))
           (.ret (.tuple [.agg [zL v9,.str [63]],.int .i64 0])))
          (.dead))
         (.dead))))
      (.dead))
     (.dead))
    (.nil)))
   (.split (og [oi 0,v6])
    (.split (oh [v6,oL [v2]])
     (.call 0 [zs (oc 0 [oE [v2,v6]])] (zb v9) 1
      (.split (oT [v9])
       (.ret (.tuple [.agg [z0 (oN),.str []],.int .i64 6]))
       (.split (og [oi 0,ob [v7,oi 1]])
        (.split (oh [ob [v7,oi 1],oL [v1]])
         (.split (oj [oc 0 [oE [v1,ob [v7,oi 1]]],oi 4])
          (.ret (.tuple [.agg [z0 (oN),.str []],.int .i64 7]))
          (.ret (.tuple [.agg [zL (oS [oN,.str [63]]),.str [63]],.int .i64 0])))
         (.dead))
        (.dead))))
     (.dead))
    (.dead)))
  (.split (og [oi 0,v6])
   (.split (oh [v6,oL [v2]])
    (.call 0 [zs (oc 0 [oE [v2,v6]])] (zb v9) 1
     (.split (oT [v9])
      (.ret (.tuple [.agg [z0 (oN),.str []],.int .i64 6]))
      (.split (og [oi 0,ob [v7,oi 1]])
       (.split (oh [ob [v7,oi 1],oL [v1]])
        (.split (oj [oc 0 [oE [v1,ob [v7,oi 1]]],oi 2])
         (.ret (.tuple [.agg [z0 (oN),.str []],.int .i64 7]))
         (.ret (.tuple [.agg [zL (oS [oN,.str [63]]),.str [63]],.int .i64 0])))
        (.dead))
       (.dead))))
    (.dead))
   (.dead)))
theorem S6:bt Tryz.prog bs 100000 96 [.agg [zT v0,zS v1,zL v2,zF v3,zn v4],.agg [zn v5,zn v6,zn v7,zn v8]] [(143,none)] [vt] OG 9=true:=by kernel_rfl
noncomputable def OH:PT:=.split (og [oi 0,v4])
 (.split (oh [v4,oL [v3]])
  (.split (oe [oc 0 [oE [v3,v4]],.str []])
   (.ret (.tuple [.agg [zL (oS [oN,.str [42]]),.str []],.int .i64 0]))
   (.call 0 [zT v0,zs (oc 0 [oE [v3,v4]]),zs (oc 1 [oE [v3,v4]])] (.tuple [.agg [zs v9,zV v10,zs v11],zs v12,zb v13]) 5
    (.ret (.tuple [.agg [zL (oS [oN,v11]),.str []],.int .i64 0]))))
  (.dead))
 (.dead)
theorem S7:bt Tryz.prog bs 100000 97 [.agg [zT v0,zS v1,zL v2,zF v3,zn v4],.agg [zn v5,zn v6,zn v7,zn v8]] [(142,none)] [] OH 9=true:=by kernel_rfl
noncomputable def OI:PT:=.split (.op .Cw [v0])
 (.ret (.int .u64 9221120237041090560))
 (.ret (.tm (.int .u64) v0))
theorem S8:bt Tryz.prog bs 100000 98 [.tm (.int .u64) v0] [] [] OI 1=true:=by kernel_rfl
noncomputable def OJ:PT:=.ret (zL (oS [oS [oS [oS [oS [oS [oS [oS [oS [oN,.str [61,61]],.str [33,61]],.str [60]],.str [60,61]],.str [43]],.str [45]],.str [42]],.str [47]],.str [37]]))
theorem S9:bt Tryz.prog bs 100000 99 [] [] [] OJ 0=true:=by kernel_rfl
noncomputable def Kf:PT:=.call 0 [zT v0,zs v1] (.tuple [zn v2,zb v3]) 2
 (.split v3
  (.ret (.bool true))
  (.split (oe [v1,.str [63]])
   (.ret (.bool true))
   (.call 1 [zs v1] (zb v4) 1
    (.ret (zb v4)))))
theorem P3:bt Tryz.prog bs 100000 102 [.agg [zT v0],zs v1] [(106,none),(146,none)] [] Kf 2=true:=by kernel_rfl
noncomputable def zh:LD:=.mk 103 (pos 25) (none) (aK 19 [(0,zL v0),(1,zs v1),(7,zn (oL [v0])),(8,zn v2)]) (aS bs 6 []) 3 [pos 0,pos 1,pos 2,pos 3,pos 4,pos 5]
 [⟨.ret,aK 19 [(4,zn v0)],aS bs 6 [],1,.bad,[],[]⟩,
  ⟨.exit 0,aK 19 [],aS bs 6 [],0,.bad,[],[]⟩]
 false []
noncomputable def rq:PT:=.split (oh [v2,oL [v0]])
 (.split (og [oi 0,v2])
  (.split (oe [v1,oc 0 [oE [v0,v2]]])
   (.exit 0 [v2])
   (.next [v0,v1,oa [v2,oi 1]]))
  (.dead))
 (.exit 1 [])
theorem G2:bg Tryz.prog 100000 zh [] [] rq=true:=by kernel_rfl
noncomputable def Kg:PT:=.loop 0 [v0,v1,.int .i64 0]
 (.cons 1
 (.ret (zn v2))
 (.cons 0
 (.ret (.int .i64 (-1)))
 (.nil)))
theorem P4:bt Tryz.prog bs 100000 103 [zL v0,zs v1] [] [zh] Kg 2=true:=by kernel_rfl
noncomputable def zi:LD:=.mk 205 (pos 25) (none) (aK 19 [(0,zT v0),(1,.func 149 [] [zp 6]),(7,zn (oL [v0])),(8,zn v1)]) (aS bs 8 [(6,zk 9 1 [zs v2])]) 3 [pos 0,pos 1,pos 2,pos 3,pos 4,pos 5,pos 6]
 [⟨.ret,aK 19 [(4,zn v0)],aS bs 9 [(6,zk 9 1 [zs v1])],2,.bad,[pos 6],[pos 6]⟩,
  ⟨.exit 0,aK 19 [],aS bs 8 [(6,zk 9 1 [zs v0])],1,.bad,[pos 6],[pos 6]⟩]
 false []
noncomputable def ru:PT:=.split (oh [v1,oL [v0]])
 (.split (og [oi 0,v1])
  (.split (oe [oc 0 [oE [v0,v1]],v2])
   (.exit 0 [v1,v2])
   (.next [v0,oa [v1,oi 1],v2]))
  (.dead))
 (.exit 1 [v2])
theorem G3:bg Tryz.prog 100000 zi [] [] ru=true:=by kernel_rfl
noncomputable def Kh:PT:=.loop 0 [v0,.int .i64 0,v1]
 (.cons 2
 (.split (oh [v2,oi 0])
  (.ret (.tuple [.int .i64 0,.bool false]))
  (.split (og [oi 0,v2])
   (.split (oh [v2,oL [v0]])
    (.ret (.tuple [zn v2,.bool true]))
    (.dead))
   (.dead)))
 (.cons 1
 (.ret (.tuple [.int .i64 0,.bool false]))
 (.nil)))
theorem P5:bt Tryz.prog bs 100000 106 [zT v0,zs v1] [] [zi] Kh 2=true:=by kernel_rfl
noncomputable def Ki:LD:=.mk 244 (pos 5) (none) (aK 16 [(0,.yield (pos 15)),(5,zL v0),(6,zn (oL [v0])),(7,zn v1)]) (aS bs 16 [(6,zk 9 1 [zs v2]),(7,zk 9 1 [.str []]),(8,zk 4 1 [.bool false]),(11,zk 148 1 [zT v3]),(13,zk 24 1 [zL v0]),(14,.deferred true),(15,.loop (.mk .ready none (ec [(0,.bad),(1,.bad),(7,zp 8),(15,.bad),(23,.bad),(11,.bad),(5,zp 6),(17,.bad),(13,.bad),(21,.bad),(2,.bad),(8,zp 11),(16,.bad),(24,.func 244 [] [zp 13]),(12,.bad),(20,.bad),(6,zp 7),(10,.bad),(18,.bad),(14,.bad),(22,.bad)] .nil) 35 [25] (pos 14) 119 (pos 889)))]) 4 [pos 0,pos 1,pos 2,pos 3,pos 4,pos 5,pos 6,pos 7,pos 8,pos 11,pos 13,pos 14,pos 15]
 [⟨.ret,aK 16 [],aS bs 18 [(6,zk 9 1 [zs v3]),(7,zk 9 1 [zs v2]),(8,zk 4 1 [.bool true]),(11,zk 148 1 [zT v1]),(13,zk 24 1 [zL v0]),(14,.deferred true),(15,.loop (.mk .done (some .ret) (ec [(0,.bad),(1,.bad),(7,zp 8),(15,.bad),(23,.bad),(11,.bad),(5,zp 6),(17,.bad),(13,.bad),(21,.bad),(2,.bad),(8,zp 11),(16,.bad),(24,.func 244 [] [zp 13]),(12,.bad),(20,.bad),(6,zp 7),(10,.bad),(18,.bad),(14,.bad),(22,.bad)] .nil) 35 [25] (pos 14) 119 (pos 889)))],4,.bad,[pos 6,pos 7,pos 8,pos 11,pos 13,pos 14,pos 15],[pos 6,pos 7,pos 8,pos 11,pos 13,pos 14,pos 15]⟩,
  ⟨.exit 0,aK 16 [],aS bs 16 [(6,zk 9 1 [zs v2]),(7,zk 9 1 [.str []]),(8,zk 4 1 [.bool false]),(11,zk 148 1 [zT v1]),(13,zk 24 1 [zL v0]),(14,.deferred true),(15,.loop (.mk .ready none (ec [(0,.bad),(1,.bad),(7,zp 8),(15,.bad),(23,.bad),(11,.bad),(5,zp 6),(17,.bad),(13,.bad),(21,.bad),(2,.bad),(8,zp 11),(16,.bad),(24,.func 244 [] [zp 13]),(12,.bad),(20,.bad),(6,zp 7),(10,.bad),(18,.bad),(14,.bad),(22,.bad)] .nil) 35 [25] (pos 14) 119 (pos 889)))],3,.bad,[pos 6,pos 7,pos 8,pos 11,pos 13,pos 14,pos 15],[pos 6,pos 7,pos 8,pos 11,pos 13,pos 14,pos 15]⟩]
 false []
noncomputable def vv:PT:=.split (oh [v1,oL [v0]])
 (.split (og [oi 0,v1])
  (.call 0 [zT v3,zs v2] (zL v4) 1
   (.call 1 [zL v4,zs (oc 0 [oE [v0,v1]])] (zb v5) 1
    (.split v5
     (.exit 0 [v0,v3,oc 0 [oE [v0,v1]],v2])
     (.next [v0,oa [v1,oi 1],v2,v3]))))
  (.dead))
 (.exit 1 [v0,v3,v2])
theorem Kj:bg Tryz.prog 100000 Ki [(61,none),(60,none)] [] vv=true:=by kernel_rfl
noncomputable def Kk:PT:=.call 0 [zT v0] (.agg [zn v3,zn v4]) 2
 (.split (ok [v3,oi 0])
  (.split (ok [v4,oi 0])
   (.call 1 [.agg [zT v0],zs v1] (zb v5) 1
    (.split (oT [v5])
     (.ret (.tuple [.str [],.bool false]))
     (.call 1 [.agg [zT v0],zs v2] (zb v6) 1
      (.split (oT [v6])
       (.ret (.tuple [.str [],.bool false]))
       (.split (oe [v1,v2])
        (.ret (.tuple [zs v1,.bool true]))
        (.call 2 [zT v0,zs v1] (zL v7) 1
         (.loop 0 [v7,.int .i64 0,v2,v0]
          (.cons 4
          (.ret (.tuple [zs v10,.bool true]))
          (.cons 3
          (.ret (.tuple [.str [],.bool false]))
          (.nil))))))))))
   (.ret (.tuple [.str [],.bool false])))
  (.ret (.tuple [.str [],.bool false])))
theorem P6:bt Tryz.prog bs 100000 119 [zT v0,zs v1,zs v2] [(43,none),(102,none),(61,none)] [Ki] Kk 3=true:=by kernel_rfl
noncomputable def Kl:PT:=.split (oh [v0,oi 1])
 (.ret (.tuple [.str [],.int .i64 7]))
 (.split (om [v0,oi 5])
  (.ret (.tuple [.str [],.int .i64 7]))
  (.split (ok [ob [v0,oi 1],oi 0])
   (.ret (.tuple [.str [105,110,116],.int .i64 0]))
   (.split (ok [ob [v0,oi 1],oi 1])
    (.ret (.tuple [.str [114,101,97,108],.int .i64 0]))
    (.split (ok [ob [v0,oi 1],oi 2])
     (.ret (.tuple [.str [98,111,111,108],.int .i64 0]))
     (.split (ok [ob [v0,oi 1],oi 3])
      (.ret (.tuple [.str [115,116,114],.int .i64 0]))
      (.split (ok [ob [v0,oi 1],oi 4])
       (.ret (.tuple [.str [117,110,105,116],.int .i64 0]))
       (.dead)))))))
theorem P7:bt Tryz.prog bs 100000 135 [zn v0] [] [] Kl 1=true:=by kernel_rfl
noncomputable def Km:PT:=.split (of [v0,.str [45]])
 (.split (of [v0,.str [33]])
  (.ret (.tuple [.agg [.str [],.str [],.bool false],.int .i64 2]))
  (.split (oe [v1,.str [63]])
   (.split (oe [v0,.str [45]])
    (.dead)
    (.split (oe [v0,.str [33]])
     (.ret (.tuple [.agg [.str [98,111,111,108],.str [98,111,111,108],.bool false],.int .i64 0]))
     (.dead)))
   (.split (oe [v0,.str [45]])
    (.dead)
    (.split (oe [v0,.str [33]])
     (.split (of [v1,.str [98,111,111,108]])
      (.ret (.tuple [.agg [.str [],.str [],.bool false],.int .i64 7]))
      (.ret (.tuple [.agg [zs v1,zs v1,.bool false],.int .i64 0])))
     (.dead)))))
 (.split (oe [v1,.str [63]])
  (.split (oe [v0,.str [45]])
   (.split (oe [v0,.str [33]])
    (.dead)
    (.ret (.tuple [.agg [.str [105,110,116],.str [105,110,116],.bool false],.int .i64 0])))
   (.dead))
  (.split (oe [v0,.str [45]])
   (.split (of [v1,.str [105,110,116]])
    (.split (of [v1,.str [114,101,97,108]])
     (.ret (.tuple [.agg [.str [],.str [],.bool false],.int .i64 7]))
     (.split (oe [v0,.str [33]])
      (.dead)
      (.ret (.tuple [.agg [zs v1,zs v1,.bool false],.int .i64 0]))))
    (.split (oe [v0,.str [33]])
     (.dead)
     (.ret (.tuple [.agg [zs v1,zs v1,.bool false],.int .i64 0]))))
   (.dead)))
theorem P8:bt Tryz.prog bs 100000 138 [zs v0,zs v1] [] [] Km 2=true:=by kernel_rfl
noncomputable def Kn:PT:=.split (oe [v0,.str [114,101,97,108]])
 (.split (of [v1,.str [105,110,116]])
  (.split (of [v1,.str [63]])
   (.ret (.tuple [.agg [.str [],.str [],.bool false],.int .i64 7]))
   (.ret (.tuple [.agg [.str [105,110,116],.str [114,101,97,108],.bool false],.int .i64 0])))
  (.ret (.tuple [.agg [.str [105,110,116],.str [114,101,97,108],.bool false],.int .i64 0])))
 (.split (oe [v0,.str [105,110,116]])
  (.split (of [v1,.str [114,101,97,108]])
   (.split (of [v1,.str [63]])
    (.ret (.tuple [.agg [.str [],.str [],.bool false],.int .i64 7]))
    (.ret (.tuple [.agg [.str [114,101,97,108],.str [105,110,116],.bool false],.int .i64 0])))
   (.ret (.tuple [.agg [.str [114,101,97,108],.str [105,110,116],.bool false],.int .i64 0])))
  (.split (oe [v0,.str [108,101,110]])
   (.split (of [v1,.str [115,116,114]])
    (.split (of [v1,.str [63]])
     (.ret (.tuple [.agg [.str [],.str [],.bool false],.int .i64 7]))
     (.ret (.tuple [.agg [.str [115,116,114],.str [105,110,116],.bool false],.int .i64 0])))
    (.ret (.tuple [.agg [.str [115,116,114],.str [105,110,116],.bool false],.int .i64 0])))
   (.ret (.tuple [.agg [.str [],.str [],.bool false],.int .i64 2]))))
theorem P9:bt Tryz.prog bs 100000 139 [zs v0,zs v1] [] [] Kn 2=true:=by kernel_rfl
noncomputable def Fq:LD:=.mk 236 (pos 25) (none) (aK 19 [(0,zV v0),(1,.func 195 [] [zp 6]),(7,zn (oL [v0])),(8,zn v1)]) (aS bs 8 [(6,zk 9 1 [zs v2])]) 3 [pos 0,pos 1,pos 2,pos 3,pos 4,pos 5,pos 6]
 [⟨.ret,aK 19 [(4,zn v0)],aS bs 9 [(6,zk 9 1 [zs v1])],2,.bad,[pos 6],[pos 6]⟩,
  ⟨.exit 0,aK 19 [],aS bs 8 [(6,zk 9 1 [zs v0])],1,.bad,[pos 6],[pos 6]⟩]
 false []
noncomputable def rv:PT:=.split (oh [v1,oL [v0]])
 (.split (og [oi 0,v1])
  (.split (oe [oc 0 [oE [v0,v1]],v2])
   (.exit 0 [v1,v2])
   (.next [v0,oa [v1,oi 1],v2]))
  (.dead))
 (.exit 1 [v2])
theorem G4:bg Tryz.prog 100000 Fq [] [] rv=true:=by kernel_rfl
noncomputable def Ko:PT:=.call 0 [zT v0,zs v1] (zV v3) 1
 (.loop 0 [v3,.int .i64 0,v2]
  (.cons 2
  (.split (oh [v4,oi 0])
   (.ret (.tuple [.str [],.bool false]))
   (.split (og [oi 0,v4])
    (.split (oh [v4,oL [v3]])
     (.ret (.tuple [zs (oc 1 [oE [v3,v4]]),.bool true]))
     (.dead))
    (.dead)))
  (.cons 1
  (.ret (.tuple [.str [],.bool false]))
  (.nil))))
theorem Qa:bt Tryz.prog bs 100000 141 [zT v0,zs v1,zs v2] [(194,none)] [Fq] Ko 3=true:=by kernel_rfl
noncomputable def ry:LD:=.mk 152 (pos 25) (none) (aK 19 [(0,zM v0),(1,.func 197 [] [zp 6]),(7,zn (oL [v0])),(8,zn v1)]) (aS bs 15 [(6,zk 9 1 [zs v2])]) 3 [pos 0,pos 1,pos 2,pos 3,pos 4,pos 5,pos 6]
 [⟨.ret,aK 19 [(4,zn v0)],aS bs 16 [(6,zk 9 1 [zs v1])],2,.bad,[pos 6],[pos 6]⟩,
  ⟨.exit 0,aK 19 [],aS bs 15 [(6,zk 9 1 [zs v0])],1,.bad,[pos 6],[pos 6]⟩]
 false []
noncomputable def mH:PT:=.split (oh [v1,oL [v0]])
 (.split (og [oi 0,v1])
  (.split (oe [oc 0 [oE [v0,v1]],v2])
   (.exit 0 [v1,v2])
   (.next [v0,oa [v1,oi 1],v2]))
  (.dead))
 (.exit 1 [v2])
theorem B7:bg Tryz.prog 100000 ry [] [] mH=true:=by kernel_rfl
noncomputable def vw:LD:=.mk 147 (pos 5) (none) (aK 37 [(0,.yield (pos 13)),(1,zp 10),(2,zp 11),(4,.vl [.str] (oL [v0]) (pos 14))]) (aS bs 15 [(6,zk 9 1 [zs v1]),(7,zk 80 3 [.str [],.an,.str []]),(8,zk 9 1 [.str []]),(9,zk 4 1 [.bool false]),(10,zk 22 1 [zT v2]),(11,zk 9 1 [zs v3]),(12,.deferred true),(13,.loop (.mk .ready none (ec [(0,.bad),(1,.bad),(7,zp 8),(15,.func 147 [] [zp 10,zp 11]),(5,zp 6),(13,.bad),(2,.bad),(8,zp 9),(6,zp 7),(14,.bad)] .nil) 38 [16] (pos 12) 142 (pos 25))),(14,.vec true 9 [.str] (oL [v0]) v0)]) 4 [pos 0,pos 1,pos 2,pos 3,pos 4,pos 5,pos 6,pos 7,pos 8,pos 9,pos 10,pos 11,pos 12,pos 13]
 [⟨.ret,aK 37 [],aS bs 15 [(6,zk 9 1 [zs v3]),(7,zk 80 3 [.str [],.an,.str []]),(8,zk 9 1 [.str []]),(9,zk 4 1 [.bool false]),(10,zk 22 1 [zT v2]),(11,zk 9 1 [zs v1]),(12,.deferred true),(13,.loop (.mk .ready none (ec [(0,.bad),(1,.bad),(7,zp 8),(15,.func 147 [] [zp 10,zp 11]),(5,zp 6),(13,.bad),(2,.bad),(8,zp 9),(6,zp 7),(14,.bad)] .nil) 38 [16] (pos 12) 142 (pos 25))),(14,.vec true 9 [.str] (oL [v0]) v0)],4,.bad,[pos 6,pos 7,pos 8,pos 9,pos 10,pos 11,pos 12,pos 13,pos 14],[pos 6,pos 7,pos 8,pos 9,pos 10,pos 11,pos 12,pos 13,pos 14]⟩,
  ⟨.ret,aK 37 [],aS bs 17 [(6,zk 9 1 [zs v7]),(7,zk 80 3 [zs v4,zV v5,zs v6]),(8,zk 9 1 [zs v3]),(9,zk 4 1 [.bool true]),(10,zk 22 1 [zT v2]),(11,zk 9 1 [zs v1]),(12,.deferred true),(13,.loop (.mk .done (some .ret) (ec [(0,.bad),(1,.bad),(7,zp 8),(15,.func 147 [] [zp 10,zp 11]),(5,zp 6),(13,.bad),(2,.bad),(8,zp 9),(6,zp 7),(14,.bad)] .nil) 38 [16] (pos 12) 142 (pos 25))),(14,.vec true 9 [.str] (oL [v0]) v0)],8,.bad,[pos 6,pos 7,pos 8,pos 9,pos 10,pos 11,pos 12,pos 13,pos 14],[pos 6,pos 7,pos 8,pos 9,pos 10,pos 11,pos 12,pos 13,pos 14]⟩]
 false []
noncomputable def vx:PT:=.call 0 [zT v2,zs v3] (.tuple [zn v4,zb v5]) 2
 (.split (oT [v5])
  (.exit 0 [v0,v3,v2,v1])
  (.call 1 [zL v0,zs v3] (zb v6) 1
   (.split v6
    (.exit 0 [v0,v3,v2,v1])
    (.split (og [oi 0,v4])
     (.split (oh [v4,oL [v2]])
      (.loop 0 [oc 3 [oE [v2,v4]],.int .i64 0,v1]
       (.cons 2
       (.split (oh [v7,oi 0])
        (.split (og [oL [v0],oi 100000000])
         (.next [oS [v0,v3],v8,v2,oc 1 [oE [v2,v4]]])
         (.dead))
        (.split (og [oi 0,v7])
         (.split (oh [v7,oL [oc 3 [oE [v2,v4]]]])
          (.call 2 [zV (oc 1 [oE [oc 3 [oE [v2,v4]],v7]])] (zV v9) 1
           (.exit 1 [v0,v3,v2,oc 0 [oE [v2,v4]],oc 0 [oE [oc 3 [oE [v2,v4]],v7]],v9,oc 2 [oE [oc 3 [oE [v2,v4]],v7]],v8]))
          (.dead))
         (.dead)))
       (.cons 1
       (.split (og [oL [v0],oi 100000000])
        (.next [oS [v0,v3],v7,v2,oc 1 [oE [v2,v4]]])
        (.dead))
       (.nil))))
      (.dead))
     (.dead)))))
theorem D4:bg Tryz.prog 100000 vw [(106,none),(60,none),(198,none)] [ry] vx=true:=by kernel_rfl
noncomputable def Kp:PT:=.loop 0 [oN,v2,v0,v1]
 (.cons 4
 (.ret (.tuple [.agg [.str [],z0 (oN),.str []],.str [],.bool false]))
 (.cons 8
 (.ret (.tuple [.agg [zs v7,zV v8,zs v9],zs v6,.bool true]))
 (.nil)))
theorem Qb:bt Tryz.prog bs 100000 142 [zT v0,zs v1,zs v2] [] [vw] Kp 3=true:=by kernel_rfl
noncomputable def Kq:PT:=.split (oe [v0,.str []])
 (.ret (.bool false))
 (.split (om [.op .gB [v0],oi 20])
  (.ret (.bool false))
  (.split (oh [oi 0,.op .gB [v0]])
   (.split (oo [.op .ic [v0,oi 0],.int .u8 97])
    (.split (oT [og [.op .ic [v0,oi 0],.int .u8 122]])
     (.ret (.bool false))
     (.loop 0 [v0,.op .gB [v0],.int .i64 0]
      (.cons 0
      (.ret (.bool false))
      (.cons 0
      (.call 0 [zs v0] (zb v1) 1
       (.ret (zb (oT [v1]))))
      (.nil)))))
    (.ret (.bool false)))
   (.dead)))
theorem Qc:bt Tryz.prog bs 100000 143 [zs v0] [(200,none)] [qg] Kq 1=true:=by kernel_rfl
noncomputable def Kr:PT:=.split (oe [.str [105,110,116],v0])
 (.ret (.bool true))
 (.split (oe [.str [114,101,97,108],v0])
  (.ret (.bool true))
  (.split (oe [.str [98,111,111,108],v0])
   (.ret (.bool true))
   (.split (oe [.str [115,116,114],v0])
    (.ret (.bool true))
    (.split (oe [.str [117,110,105,116],v0])
     (.ret (.bool true))
     (.ret (.bool false))))))
theorem Qd:bt Tryz.prog bs 100000 146 [zs v0] [] [] Kr 1=true:=by kernel_rfl
noncomputable def Ks:PT:=.split (of [v1,.str []])
 (.call 0 [zs v1] (zb v3) 1
  (.split (oT [v3])
   (.ret (.int .i64 5))
   (.call 1 [zs v2] (zb v4) 1
    (.split (oT [v4])
     (.ret (.int .i64 5))
     (.call 2 [zT v0,zs v2] (.tuple [zn v5,zb v6]) 2
      (.call 3 [zs v2] (zb v7) 1
       (.split v7
        (.split (oT [v6])
         (.ret (.int .i64 6))
         (.ret (.int .i64 0)))
        (.ret (.int .i64 0)))))))))
 (.call 1 [zs v2] (zb v3) 1
  (.split (oT [v3])
   (.ret (.int .i64 5))
   (.call 2 [zT v0,zs v2] (.tuple [zn v4,zb v5]) 2
    (.call 3 [zs v2] (zb v6) 1
     (.split v6
      (.split (oT [v5])
       (.ret (.int .i64 6))
       (.ret (.int .i64 0)))
      (.ret (.int .i64 0)))))))
theorem Qe:bt Tryz.prog bs 100000 153 [zT v0,zs v1,zs v2] [(143,none),(189,none),(106,none),(108,none)] [] Ks 3=true:=by kernel_rfl
noncomputable def Fs:LD:=.mk 240 (pos 25) (none) (aK 19 [(0,.tm (.aF [.str,.int .i64]) v0),(1,.func 209 [] [zp 6]),(7,zn (oL [v0])),(8,zn v1)]) (aS bs 8 [(6,zk 9 1 [zs v2])]) 3 [pos 0,pos 1,pos 2,pos 3,pos 4,pos 5,pos 6]
 [⟨.ret,aK 19 [(4,zn v0)],aS bs 9 [(6,zk 9 1 [zs v1])],2,.bad,[pos 6],[pos 6]⟩,
  ⟨.exit 0,aK 19 [],aS bs 8 [(6,zk 9 1 [zs v0])],1,.bad,[pos 6],[pos 6]⟩]
 false []
noncomputable def rz:PT:=.split (oh [v1,oL [v0]])
 (.split (og [oi 0,v1])
  (.split (oe [oc 0 [oE [v0,v1]],v2])
   (.exit 0 [v1,v2])
   (.next [v0,oa [v1,oi 1],v2]))
  (.dead))
 (.exit 1 [v2])
theorem G5:bg Tryz.prog 100000 Fs [] [] rz=true:=by kernel_rfl
noncomputable def Ku:PT:=.call 0 [zT v0,zs v1] (.tm (.aF [.str,.int .i64]) v3) 1
 (.loop 0 [v3,.int .i64 0,v2]
  (.cons 2
  (.split (oh [v4,oi 0])
   (.ret (.tuple [.int .i64 0,.bool false]))
   (.split (og [oi 0,v4])
    (.split (oh [v4,oL [v3]])
     (.ret (.tuple [zn (oc 1 [oE [v3,v4]]),.bool true]))
     (.dead))
    (.dead)))
  (.cons 1
  (.ret (.tuple [.int .i64 0,.bool false]))
  (.nil))))
theorem Qf:bt Tryz.prog bs 100000 154 [zT v0,zs v1,zs v2] [(208,none)] [Fs] Ku 3=true:=by kernel_rfl
noncomputable def Kv:PT:=.call 0 [zs v0] (zb v1) 1
 (.split v1
  (.ret (.bool true))
  (.split (oe [v0,.str [63]])
   (.ret (.bool true))
   (.call 1 [zs v0] (zb v2) 1
    (.split v2
     (.ret (.bool true))
     (.ret (.bool false))))))
theorem Qg:bt Tryz.prog bs 100000 189 [zs v0] [(146,none),(108,none)] [] Kv 1=true:=by kernel_rfl
noncomputable def Ft:LD:=.mk 194 (pos 25) (none) (aK 23 [(4,.vl [.str,.str] (oL [v0]) (pos 6)),(9,.tm (.aF [.ref [.str,.str,tV,tM]]) v1),(10,zn (oL [v1])),(11,zn v2)]) (aS bs 7 [(6,.vec true 117 [.str,.str] (oL [v0]) v0)]) 3 [pos 0,pos 1,pos 2,pos 3,pos 4,pos 5]
 [⟨.exit 0,aK 23 [(4,.vl [.str,.str] (oL [v0]) (pos 6))],aS bs 7 [(6,.vec true 117 [.str,.str] (oL [v0]) v0)],1,.bad,[pos 6],[pos 6]⟩]
 false []
noncomputable def nd:PT:=.split (oh [v2,oL [v1]])
 (.split (og [oi 0,v2])
  (.split (og [oL [v0],oi 100000000])
   (.split (og [oL [oc 2 [oc 0 [oE [v1,v2]]]],oi 100000000])
    (.split (oh [oi 0,oL [oc 2 [oc 0 [oE [v1,v2]]]]])
     (.next [.op .app [v0,oc 2 [oc 0 [oE [v1,v2]]]],v1,oa [v2,oi 1]])
     (.next [v0,v1,oa [v2,oi 1]]))
    (.dead))
   (.dead))
  (.dead))
 (.exit 0 [v0])
theorem G6:bg Tryz.prog 100000 Ft [] [] nd=true:=by kernel_rfl
noncomputable def Kw:PT:=.call 0 [zT v0,zs v1] (.tm (.aF [.ref [.str,.str,tV,tM]]) v2) 1
 (.loop 0 [oN,v2,.int .i64 0]
  (.cons 1
  (.ret (zV v3))
  (.nil)))
theorem Qh:bt Tryz.prog bs 100000 194 [zT v0,zs v1] [(237,none)] [Ft] Kw 2=true:=by kernel_rfl
noncomputable def Kx:PT:=.split (oh [oi 0,oL [v0]])
 (.split (og [oL [v0],oi 100000000])
  (.ret (zV (.op .app [oN,v0])))
  (.dead))
 (.dead)
theorem Qi:bt Tryz.prog bs 100000 198 [zV v0] [] [] Kx 1=true:=by kernel_rfl
noncomputable def Ky:PT:=.call 0 [] (zL v1) 1
 (.call 1 [zL v1,zs v0] (zb v2) 1
  (.ret (zb v2)))
theorem Qj:bt Tryz.prog bs 100000 200 [zs v0] [(238,none),(60,none)] [] Ky 1=true:=by kernel_rfl
noncomputable def Fv:LD:=.mk 208 (pos 25) (none) (aK 43 [(0,zT v0),(1,zs v1),(4,.vl [.str,.int .i64] (oL [v2]) (pos 6)),(11,zV v3),(12,zn (oL [v3])),(13,zn v4)]) (aS bs 7 [(6,.vec true 251 [.str,.int .i64] (oL [v2]) v2)]) 5 [pos 0,pos 1,pos 2,pos 3,pos 4,pos 5]
 [⟨.exit 0,aK 43 [(0,zT v0),(1,zs v1),(4,.vl [.str,.int .i64] (oL [v2]) (pos 6))],aS bs 7 [(6,.vec true 251 [.str,.int .i64] (oL [v2]) v2)],3,.bad,[pos 6],[pos 6]⟩]
 false []
noncomputable def rA:PT:=.split (oh [v4,oL [v3]])
 (.split (og [oi 0,v4])
  (.split (og [oL [v2],oi 100000000])
   (.next [v0,v1,oS [v2,oc 0 [oE [v3,v4]],oi (-1)],v3,oa [v4,oi 1]])
   (.dead))
  (.dead))
 (.exit 0 [v0,v1,v2])
theorem G7:bg Tryz.prog 100000 Fv [] [] rA=true:=by kernel_rfl
noncomputable def Fw:LD:=.mk 208 (pos 57) (none) (aK 43 [(4,.vl [.str,.int .i64] (oL [v0]) (pos 6)),(26,zM v1),(27,zn (oL [v1])),(28,zn v2)]) (aS bs 7 [(6,.vec true 251 [.str,.int .i64] (oL [v0]) v0)]) 3 [pos 0,pos 1,pos 2,pos 3,pos 4,pos 5]
 [⟨.exit 2,aK 43 [(4,.vl [.str,.int .i64] (oL [v0]) (pos 6))],aS bs 7 [(6,.vec true 251 [.str,.int .i64] (oL [v0]) v0)],1,.bad,[pos 6],[pos 6]⟩]
 false []
noncomputable def rB:PT:=.split (oh [v2,oL [v1]])
 (.split (og [oi 0,v2])
  (.split (og [oL [v0],oi 100000000])
   (.next [oS [v0,oc 0 [oE [v1,v2]],oL [oc 1 [oE [v1,v2]]]],v1,oa [v2,oi 1]])
   (.dead))
  (.dead))
 (.exit 0 [v0])
theorem G8:bg Tryz.prog 100000 Fw [] [] rB=true:=by kernel_rfl
noncomputable def Kz:PT:=.call 0 [zT v0,zs v1] (zV v2) 1
 (.loop 0 [v0,v1,oN,v2,.int .i64 0]
  (.cons 3
  (.call 1 [zT v3,zs v4] (zM v6) 1
   (.loop 1 [v5,v6,.int .i64 0]
    (.cons 1
    (.ret (.tm (.aF [.str,.int .i64]) v7))
    (.nil))))
  (.nil)))
theorem Qk:bt Tryz.prog bs 100000 208 [zT v0,zs v1] [(194,none),(241,none)] [Fv,Fw] Kz 2=true:=by kernel_rfl
noncomputable def vy:LD:=.mk 147 (pos 5) (none) (aK 37 [(0,.yield (pos 10)),(1,zp 7),(2,zp 8),(4,.vl [.str] (oL [v0]) (pos 11))]) (aS bs 13 [(6,zk 271 1 [.vl [.ref [.str,.str,tV,tM]] (oL [v1]) (pos 12)]),(7,zk 22 1 [zT v2]),(8,zk 9 1 [zs v3]),(9,.deferred true),(10,.loop (.mk .ready none (ec [(0,.bad),(1,.bad),(7,.bad),(4,zp 6),(8,.func 147 [] [zp 7,zp 8]),(6,.bad)] .nil) 17 [9] (pos 9) 237 (pos 25))),(11,.vec true 9 [.str] (oL [v0]) v0),(12,.vec true 153 [.ref [.str,.str,tV,tM]] (oL [v1]) v1)]) 4 [pos 0,pos 1,pos 2,pos 3,pos 4,pos 5,pos 6,pos 7,pos 8,pos 9,pos 10]
 [⟨.ret,aK 37 [],aS bs 13 [(6,zk 271 1 [.vl [.ref [.str,.str,tV,tM]] (oL [v0]) (pos 12)]),(7,zk 22 1 [zT v3]),(8,zk 9 1 [zs v2]),(9,.deferred true),(10,.loop (.mk .ready none (ec [(0,.bad),(1,.bad),(7,.bad),(4,zp 6),(8,.func 147 [] [zp 7,zp 8]),(6,.bad)] .nil) 17 [9] (pos 9) 237 (pos 25))),(11,.vec true 9 [.str] (oL [v1]) v1),(12,.vec true 153 [.ref [.str,.str,tV,tM]] (oL [v0]) v0)],4,.bad,[pos 6,pos 7,pos 8,pos 9,pos 10,pos 11,pos 12],[pos 6,pos 7,pos 8,pos 9,pos 10,pos 11,pos 12]⟩]
 false []
noncomputable def vz:PT:=.call 0 [zT v2,zs v3] (.tuple [zn v4,zb v5]) 2
 (.split (oT [v5])
  (.exit 0 [v1,v0,v3,v2])
  (.call 1 [zL v0,zs v3] (zb v6) 1
   (.split v6
    (.exit 0 [v1,v0,v3,v2])
    (.split (og [oi 0,v4])
     (.split (oh [v4,oL [v2]])
      (.split (og [oL [v1],oi 100000000])
       (.split (og [oL [v0],oi 100000000])
        (.next [oS [v0,v3],oS [v1,oE [v2,v4]],v2,oc 1 [oE [v2,v4]]])
        (.dead))
       (.dead))
      (.dead))
     (.dead)))))
theorem D5:bg Tryz.prog 100000 vy [(106,none),(60,none)] [] vz=true:=by kernel_rfl
noncomputable def D6:LD:=.mk 255 (pos 5) (none) (aK 28 [(0,.vl [.ref [.str,.str,tV,tM]] v0 (pos 12)),(2,zn v1),(3,zn v2)]) (aS bs 13 [(12,.vec true 153 [.ref [.str,.str,tV,tM]] v0 v3)]) 4 [pos 0,pos 1,pos 2,pos 3,pos 4,pos 5,pos 12]
 [⟨.exit 0,aK 28 [],aS bs 13 [(12,.vec true 153 [.ref [.str,.str,tV,tM]] v0 v1)],2,.bad,[pos 12],[pos 12]⟩]
 false []
noncomputable def vA:PT:=.split (oh [v1,v2])
 (.split (og [oi 0,v2])
  (.split (oh [v2,v0])
   (.split (og [oi 0,v1])
    (.split (oh [v1,v0])
     (.next [v0,oa [v1,oi 1],ob [v2,oi 1],.op (.dm 0 1) [.op (.dm 0 1) [v3,v1,oc 0 [oE [v3,v2]]],v2,oc 0 [oE [v3,v1]]]])
     (.dead))
    (.dead))
   (.dead))
  (.dead))
 (.exit 0 [v0,v3])
theorem KA:bg Tryz.prog 100000 D6 [] [] vA=true:=by kernel_rfl
noncomputable def KB:PT:=.loop 0 [oN,oN,v0,v1]
 (.cons 4
 (.loop 1 [oL [v2],.int .i64 0,ob [oL [v2],oi 1],v2]
  (.cons 2
  (.split (og [oL [v2],v6])
   (.ret (.tm (.aF [.ref [.str,.str,tV,tM]]) (.op .sub [v7,oi 0,oL [v2]])))
   (.dead))
  (.nil)))
 (.nil))
theorem Ql:bt Tryz.prog bs 100000 237 [zT v0,zs v1] [] [vy,D6] KB 2=true:=by kernel_rfl
noncomputable def oG:LD:=.mk 241 (pos 14949) (none) (aK 60 [(4,.vl [.str,tV,.str] v0 (pos 7)),(5,.map (pos 6)),(15,.tm (.aF [.ref [.str,.str,tV,tM]]) v1),(16,zn (oL [v1])),(17,zn v2),(24,zM v3),(25,zn (oL [v3])),(26,zn v4)]) (aS bs 8 [(6,.bY true .str [.int .i64] v5),(7,.vec true 80 [.str,tV,.str] v6 v7)]) 8 [pos 0,pos 1,pos 2,pos 3,pos 4,pos 5,pos 6]
 [⟨.exit 2,aK 60 [(4,.vl [.str,tV,.str] v0 (pos 7)),(5,.map (pos 6)),(15,.tm (.aF [.ref [.str,.str,tV,tM]]) v1),(16,zn (oL [v1])),(17,zn v2)],aS bs 8 [(6,.bY true .str [.int .i64] v3),(7,.vec true 80 [.str,tV,.str] v4 v5)],6,.bad,[pos 6,pos 7],[pos 6,pos 7]⟩]
 false []
noncomputable def lj:PT:=.split (oh [v4,oL [v3]])
 (.split (og [oi 0,v4])
  (.call 0 [zV (oc 1 [oE [v3,v4]])] (zV v8) 1
   (.split (.op .wt [v5,oc 0 [oE [v3,v4]]])
    (.split (og [oi 0,oc 0 [.op .o4 [v5,oc 0 [oE [v3,v4]]]]])
     (.split (oh [oc 0 [.op .o4 [v5,oc 0 [oE [v3,v4]]]],v0])
      (.split (oh [oc 0 [.op .o4 [v5,oc 0 [oE [v3,v4]]]],v6])
       (.next [v0,v1,v2,v3,oa [v4,oi 1],v5,v6,.op (.dm 0 3) [v7,oc 0 [.op .o4 [v5,oc 0 [oE [v3,v4]]]],oc 0 [oE [v3,v4]],v8,oc 2 [oE [v3,v4]]]])
       (.dead))
      (.dead))
     (.dead))
    (.split (og [v0,oi 100000000])
     (.split (og [v0,v6])
      (.next [oL [oS [.op .sub [v7,oi 0,v0],oc 0 [oE [v3,v4]],v8,oc 2 [oE [v3,v4]]]],v1,v2,v3,oa [v4,oi 1],.op .tg [v5,oc 0 [oE [v3,v4]],v0],oL [oS [.op .sub [v7,oi 0,v0],oc 0 [oE [v3,v4]],v8,oc 2 [oE [v3,v4]]]],oS [.op .sub [v7,oi 0,v0],oc 0 [oE [v3,v4]],v8,oc 2 [oE [v3,v4]]]])
      (.dead))
     (.dead))))
  (.dead))
 (.exit 0 [v0,v1,v2,v5,v6,v7])
theorem zj:bg Tryz.prog 100000 oG [(198,none)] [] lj=true:=by kernel_rfl
noncomputable def Fx:LD:=.mk 241 (pos 57) (none) (aK 60 [(4,.vl [.str,tV,.str] v0 (pos 7)),(5,.map (pos 6)),(15,.tm (.aF [.ref [.str,.str,tV,tM]]) v1),(16,zn (oL [v1])),(17,zn v2)]) (aS bs 8 [(6,.bY true .str [.int .i64] v3),(7,.vec true 80 [.str,tV,.str] v4 v5)]) 6 [pos 0,pos 1,pos 2,pos 3,pos 4,pos 5,pos 6]
 [⟨.exit 0,aK 60 [(4,.vl [.str,tV,.str] v0 (pos 7))],aS bs 8 [(6,.bY true .str [.int .i64] v1),(7,.vec true 80 [.str,tV,.str] v2 v3)],4,.bad,[pos 6,pos 7],[pos 6,pos 7]⟩]
 false []
noncomputable def rC:PT:=.split (oh [v2,oL [v1]])
 (.split (og [oi 0,v2])
  (.loop 0 [v0,v1,v2,oc 3 [oc 0 [oE [v1,v2]]],.int .i64 0,v3,v4,v5]
   (.cons 6
   (.next [v6,v7,oa [v8,oi 1],v9,v10,v11])
   (.nil)))
  (.dead))
 (.exit 0 [v0,v3,v4,v5])
theorem G9:bg Tryz.prog 100000 Fx [] [oG] rC=true:=by kernel_rfl
noncomputable def KC:PT:=.call 0 [zT v0,zs v1] (.tm (.aF [.ref [.str,.str,tV,tM]]) v2) 1
 (.loop 0 [oL [oN],v2,.int .i64 0,oN,oL [oN],oN]
  (.cons 4
  (.split (og [v3,v5])
   (.ret (zM (.op .sub [v6,oi 0,v3])))
   (.dead))
  (.nil)))
theorem Qm:bt Tryz.prog bs 100000 241 [zT v0,zs v1] [(237,none)] [Fx] KC 2=true:=by kernel_rfl
noncomputable def B8:LD:=.mk 242 (pos 505) (none) (aK 48 [(11,.tm (.aF [.str,.int .i64]) v0),(37,.tm (.aF [.str,.int .i64]) v1),(38,zn (oL [v1])),(39,zn v2)]) (aS bs 6 []) 3 [pos 0,pos 1,pos 2,pos 3,pos 4,pos 5]
 [⟨.ret,aK 48 [(6,.bool false)],aS bs 7 [],0,.bad,[],[]⟩,
  ⟨.exit 0,aK 48 [],aS bs 6 [],0,.bad,[],[]⟩]
 false []
noncomputable def oH:PT:=.split (oh [v2,oL [v1]])
 (.split (og [oi 0,v2])
  (.call 0 [.tm (.aF [.str,.int .i64]) v0,.agg [zs (oc 0 [oE [v1,v2]]),zn (oc 1 [oE [v1,v2]])]] (zb v3) 1
   (.split (oT [v3])
    (.exit 0 [])
    (.next [v0,v1,oa [v2,oi 1]])))
  (.dead))
 (.exit 1 [])
theorem D7:bg Tryz.prog 100000 B8 [(259,none)] [] oH=true:=by kernel_rfl
noncomputable def KD:PT:=.call 0 [zT v0,zs v1] (.tuple [zn v3,zb v4]) 2
 (.call 0 [zT v0,zs v2] (.tuple [zn v5,zb v6]) 2
  (.split (oT [v4])
   (.ret (.bool false))
   (.split (oT [v6])
    (.ret (.bool false))
    (.call 1 [zT v0,zs v1] (.tm (.aF [.str,.int .i64]) v7) 1
     (.call 1 [zT v0,zs v2] (.tm (.aF [.str,.int .i64]) v8) 1
      (.loop 0 [v7,v8,.int .i64 0]
       (.cons 0
       (.ret (.bool false))
       (.cons 0
       (.ret (.bool true))
       (.nil)))))))))
theorem Qn:bt Tryz.prog bs 100000 242 [zT v0,zs v1,zs v2] [(106,none),(208,none)] [B8] KD 3=true:=by kernel_rfl
noncomputable def KE:PT:=.call 0 [.tm (.aF [.str,.int .i64]) v0,.agg [zs v1,zn v2]] (zn v3) 1
 (.ret (zb (oo [v3,oi 0])))
theorem Qo:bt Tryz.prog bs 100000 259 [.tm (.aF [.str,.int .i64]) v0,.agg [zs v1,zn v2]] [(270,none)] [] KE 3=true:=by kernel_rfl
noncomputable def Fy:LD:=.mk 270 (pos 25) (none) (aK 19 [(0,.tm (.aF [.str,.int .i64]) v0),(3,zp 6),(7,zn (oL [v0])),(8,zn v1)]) (aS bs 7 [(6,zk 251 2 [zs v2,zn v3])]) 4 [pos 0,pos 1,pos 2,pos 3,pos 4,pos 5,pos 6]
 [⟨.ret,aK 19 [(4,zn v0)],aS bs 7 [(6,zk 251 2 [zs v1,zn v2])],3,.bad,[pos 6],[pos 6]⟩,
  ⟨.exit 0,aK 19 [],aS bs 7 [(6,zk 251 2 [zs v0,zn v1])],2,.bad,[pos 6],[pos 6]⟩]
 false []
noncomputable def kh:PT:=.split (oh [v1,oL [v0]])
 (.split (og [oi 0,v1])
  (.split (oe [v2,oc 0 [oE [v0,v1]]])
   (.split (ok [v3,oc 1 [oE [v0,v1]]])
    (.exit 0 [v1,v2,v3])
    (.next [v0,oa [v1,oi 1],v2,v3]))
   (.next [v0,oa [v1,oi 1],v2,v3]))
  (.dead))
 (.exit 1 [v2,v3])
theorem Ha:bg Tryz.prog 100000 Fy [] [] kh=true:=by kernel_rfl
noncomputable def KF:PT:=.loop 0 [v0,.int .i64 0,v1,v2]
 (.cons 3
 (.ret (zn v3))
 (.cons 2
 (.ret (.int .i64 (-1)))
 (.nil)))
theorem Qp:bt Tryz.prog bs 100000 270 [.tm (.aF [.str,.int .i64]) v0,.agg [zs v1,zn v2]] [] [Fy] KF 3=true:=by kernel_rfl
end
end Go.Proofs.Sai
