/- Part K3 of the proof of VerifyDead: texts of the interpreter and what it shows, under short names. No condition. -/
import Derived.Test.YtgfhbomiljhjpaaGreatDoorJ
namespace Go.Proofs.Sai
section
open Go
set_option maxRecDepth 100000
noncomputable def Hf:LD:=.mk 113 .one none aN.none (aS bs 20 []) 1 [pos 0,pos 1,pos 2,pos 3,pos 4,pos 5]
 [⟨.ret,aN.none,aS bs 22 [(21,.vec true 9 [.str] (oL [v0]) v0)],1,.vl [.str] (oL [v0]) (pos 21),[],[pos 21]⟩]
 true [zL v0]
noncomputable def KN:PT:=.split (oh [oi 0,oL [v0]])
 (.split (og [oL [v0],oi 100000000])
  (.exit 0 [.op .app [oN,v0]])
  (.dead))
 (.dead)
theorem Qy:cD Tryz.prog 100000 Hf [] [] KN=true:=by kernel_rfl
noncomputable def Ed:LD:=.mk 161 (pos 5) (none) (aK 19 [(0,.yield (pos 23)),(1,zp 21),(3,zn v0)]) (aS bs 24 [(8,.vec true 43 [.bool,tL] (oL [v1]) v2),(9,.bY true (.int .i64) [tL] v3),(10,zk 94 7 [zT v4,zS v5,zL v6,zF v7,zn v8,.vl [.bool,tL] (oL [v1]) (pos 8),.map (pos 9)]),(15,zk 89 1 [zp 10]),(16,zk 24 1 [.vl [.str] v9 (pos 20)]),(17,zk 24 1 [.an]),(18,zk 31 1 [.int .i64 0]),(19,zk 51 2 [zL v10,zs v11]),(20,.vec true 9 [.str] (oL [v12]) v12),(21,zk 24 1 [zL v10]),(22,.deferred true),(23,.loop (.mk .ready none (ec [(0,.bad),(1,.bad),(3,zp 15),(7,zp 18),(15,.bad),(31,.bad),(23,.bad),(19,.bad),(35,.bad),(27,.bad),(5,zp 16),(9,.bad),(17,.bad),(33,.bad),(25,.bad),(13,.bad),(21,.bad),(37,.func 161 [] [zp 21]),(29,.bad),(2,.bad),(8,zp 19),(16,.bad),(24,.bad),(20,.bad),(36,.bad),(28,.bad),(6,zp 17),(18,.bad),(34,.bad),(26,.bad),(14,.bad),(22,.bad),(30,.bad)] .nil) 78 [38,39] (pos 22) 69 (pos 249)))]) 13 [pos 0,pos 1,pos 2,pos 3,pos 4,pos 5,pos 8,pos 9,pos 10,pos 15,pos 16,pos 17,pos 18,pos 19,pos 20,pos 21,pos 22,pos 23]
 [⟨.ret,aK 19 [],aS bs 24 [(8,.vec true 43 [.bool,tL] (oL [v9]) v11),(9,.bY true (.int .i64) [tL] v10),(10,zk 94 7 [zT v4,zS v5,zL v6,zF v7,zn v8,.vl [.bool,tL] (oL [v9]) (pos 8),.map (pos 9)]),(15,zk 89 1 [zp 10]),(16,zk 24 1 [.vl [.str] v3 (pos 20)]),(17,zk 24 1 [.an]),(18,zk 31 1 [.int .i64 15]),(19,zk 51 2 [zL v0,zs v2]),(20,.vec true 9 [.str] (oL [v1]) v1),(21,zk 24 1 [zL v0]),(22,.deferred true),(23,.loop (.mk .done (some .ret) (ec [(0,.bad),(1,.bad),(3,zp 15),(7,zp 18),(15,.bad),(31,.bad),(23,.bad),(19,.bad),(35,.bad),(27,.bad),(5,zp 16),(9,.bad),(17,.bad),(33,.bad),(25,.bad),(13,.bad),(21,.bad),(37,.func 161 [] [zp 21]),(29,.bad),(2,.bad),(8,zp 19),(16,.bad),(24,.bad),(20,.bad),(36,.bad),(28,.bad),(6,zp 17),(18,.bad),(34,.bad),(26,.bad),(14,.bad),(22,.bad),(30,.bad)] .nil) 78 [38,39] (pos 22) 69 (pos 249)))],12,.bad,[pos 8,pos 9,pos 10,pos 15,pos 16,pos 17,pos 18,pos 19,pos 20,pos 21,pos 22,pos 23],[pos 8,pos 9,pos 10,pos 15,pos 16,pos 17,pos 18,pos 19,pos 20,pos 21,pos 22,pos 23]⟩,
  ⟨.ret,aK 19 [],aS bs 24 [(8,.vec true 43 [.bool,tL] (oL [v9]) v11),(9,.bY true (.int .i64) [tL] v10),(10,zk 94 7 [zT v4,zS v5,zL v6,zF v7,zn v8,.vl [.bool,tL] (oL [v9]) (pos 8),.map (pos 9)]),(15,zk 89 1 [zp 10]),(16,zk 24 1 [.vl [.str] v3 (pos 20)]),(17,zk 24 1 [.an]),(18,zk 31 1 [.int .i64 7]),(19,zk 51 2 [zL v0,zs v2]),(20,.vec true 9 [.str] (oL [v1]) v1),(21,zk 24 1 [zL v0]),(22,.deferred true),(23,.loop (.mk .done (some .ret) (ec [(0,.bad),(1,.bad),(3,zp 15),(7,zp 18),(15,.bad),(31,.bad),(23,.bad),(19,.bad),(35,.bad),(27,.bad),(5,zp 16),(9,.bad),(17,.bad),(33,.bad),(25,.bad),(13,.bad),(21,.bad),(37,.func 161 [] [zp 21]),(29,.bad),(2,.bad),(8,zp 19),(16,.bad),(24,.bad),(20,.bad),(36,.bad),(28,.bad),(6,zp 17),(18,.bad),(34,.bad),(26,.bad),(14,.bad),(22,.bad),(30,.bad)] .nil) 78 [38,39] (pos 22) 69 (pos 249)))],12,.bad,[pos 8,pos 9,pos 10,pos 15,pos 16,pos 17,pos 18,pos 19,pos 20,pos 21,pos 22,pos 23],[pos 8,pos 9,pos 10,pos 15,pos 16,pos 17,pos 18,pos 19,pos 20,pos 21,pos 22,pos 23]⟩,
  ⟨.exit 0,aK 19 [],aS bs 24 [(8,.vec true 43 [.bool,tL] (oL [v9]) v11),(9,.bY true (.int .i64) [tL] v10),(10,zk 94 7 [zT v4,zS v5,zL v6,zF v7,zn v8,.vl [.bool,tL] (oL [v9]) (pos 8),.map (pos 9)]),(15,zk 89 1 [zp 10]),(16,zk 24 1 [.vl [.str] v3 (pos 20)]),(17,zk 24 1 [.an]),(18,zk 31 1 [.int .i64 0]),(19,zk 51 2 [zL v0,zs v2]),(20,.vec true 9 [.str] (oL [v1]) v1),(21,zk 24 1 [zL v0]),(22,.deferred true),(23,.loop (.mk .ready none (ec [(0,.bad),(1,.bad),(3,zp 15),(7,zp 18),(15,.bad),(31,.bad),(23,.bad),(19,.bad),(35,.bad),(27,.bad),(5,zp 16),(9,.bad),(17,.bad),(33,.bad),(25,.bad),(13,.bad),(21,.bad),(37,.func 161 [] [zp 21]),(29,.bad),(2,.bad),(8,zp 19),(16,.bad),(24,.bad),(20,.bad),(36,.bad),(28,.bad),(6,zp 17),(18,.bad),(34,.bad),(26,.bad),(14,.bad),(22,.bad),(30,.bad)] .nil) 78 [38,39] (pos 22) 69 (pos 249)))],12,.bad,[pos 8,pos 9,pos 10,pos 15,pos 16,pos 17,pos 18,pos 19,pos 20,pos 21,pos 22,pos 23],[pos 8,pos 9,pos 10,pos 15,pos 16,pos 17,pos 18,pos 19,pos 20,pos 21,pos 22,pos 23]⟩]
 false []
noncomputable def Cb:PT:=.split (oo [v0,oi 0])
 (.split (og [oi 0,v0])
  (.split (oh [v0,oL [v10]])
   (.split (oh [ob [v9,oi 1],oi 0])
    (.exit 0 [v10,v12,v11,v9,v4,v5,v6,v7,v8,v1,v3,v2])
    (.split (of [oc 0 [oE [v10,v0]],.str [42]])
     (.split (og [oi 0,ob [v9,oi 1]])
      (.split (oh [ob [v9,oi 1],v9])
       (.split (oh [ob [v9,oi 1],oL [v12]])
        (.call 0 [zT v4,zs (oc 0 [oE [v12,ob [v9,oi 1]]]),zs (oc 0 [oE [v10,v0]])] (zb v13) 1
         (.split (oT [v13])
          (.exit 1 [v10,v12,v11,v9,v4,v5,v6,v7,v8,v1,v3,v2])
          (.split (og [ob [v9,oi 1],v9])
           (.next [ob [v0,oi 1],v1,v2,v3,v4,v5,v6,v7,v8,ob [v9,oi 1],v10,v11,v12])
           (.dead))))
        (.dead))
       (.dead))
      (.dead))
     (.split (og [oi 0,ob [v9,oi 1]])
      (.split (og [ob [v9,oi 1],v9])
       (.next [ob [v0,oi 1],v1,v2,v3,v4,v5,v6,v7,v8,ob [v9,oi 1],v10,v11,v12])
       (.dead))
      (.dead))))
   (.dead))
  (.dead))
 (.exit 2 [v10,v12,v11,v9,v4,v5,v6,v7,v8,v1,v3,v2])
theorem KO:bg Tryz.prog 100000 Ed [(40,none)] [] Cb=true:=by kernel_rfl
noncomputable def UR:LD:=.mk 69 .one none aN.none (aS bs 15 [(8,.vec true 43 [.bool,tL] (oL [v2]) v3),(9,.bY true (.int .i64) [tL] v4),(10,zk 94 7 [zT v5,zS v6,zL v7,zF v8,zn v9,.vl [.bool,tL] (oL [v2]) (pos 8),.map (pos 9)])]) 10 [pos 0,pos 1,pos 2,pos 3,pos 4,pos 5,pos 8,pos 9,pos 10]
 [⟨.ret,aN.none,aS bs 26 [(8,.vec true 43 [.bool,tL] (oL [v6]) v8),(9,.bY true (.int .i64) [tL] v7),(10,zk 94 7 [zT v1,zS v2,zL v3,zF v4,zn v5,.vl [.bool,tL] (oL [v6]) (pos 8),.map (pos 9)]),(25,.vec true 9 [.str] (oL [v0]) v0)],9,.tuple [.vl [.str] (oL [v0]) (pos 25),.int .i64 0],[pos 8,pos 9,pos 10],[pos 8,pos 9,pos 10,pos 25]⟩,
  ⟨.ret,aN.none,aS bs 24 [(8,.vec true 43 [.bool,tL] (oL [v6]) v8),(9,.bY true (.int .i64) [tL] v7),(10,zk 94 7 [zT v1,zS v2,zL v3,zF v4,zn v5,.vl [.bool,tL] (oL [v6]) (pos 8),.map (pos 9)]),(20,.vec true 9 [.str] (oL [v9]) v9)],10,.tuple [.vl [.str] v0 (pos 20),.int .i64 0],[pos 8,pos 9,pos 10],[pos 8,pos 9,pos 10,pos 20]⟩,
  ⟨.ret,aN.none,aS bs 20 [(8,.vec true 43 [.bool,tL] (oL [v6]) v8),(9,.bY true (.int .i64) [tL] v7),(10,zk 94 7 [zT v1,zS v2,zL v3,zF v4,zn v5,.vl [.bool,tL] (oL [v6]) (pos 8),.map (pos 9)])],9,.tuple [.an,zn v0],[pos 8,pos 9,pos 10],[pos 8,pos 9,pos 10]⟩]
 true [zp 10,zn v0,zL v1]
noncomputable def OP:PT:=.split (og [oi 0,v9])
 (.split (oh [v9,oL [v8]])
  (.split (og [oi 0,v0])
   (.split (oh [v0,oL [oc 3 [oE [v8,v9]]]])
    (.call 0 [.agg [zT v5,zS v6,zL v7,zF v8],zn v9,.agg [zn (oc 0 [oE [oc 3 [oE [v8,v9]],v0]]),zn (oc 1 [oE [oc 3 [oE [v8,v9]],v0]]),zn (oc 2 [oE [oc 3 [oE [v8,v9]],v0]]),zn (oc 3 [oE [oc 3 [oE [v8,v9]],v0]])]] (.tuple [.agg [zL v10,zs v11],zn v12]) 3
     (.split (oj [v12,oi 0])
      (.exit 2 [v12,v5,v6,v7,v8,v9,v2,v4,v3])
      (.loop 0 [v1]
       (.cons 1
       (.loop 1 [ob [oL [v10],oi 1],v2,v3,v4,v5,v6,v7,v8,v9,oL [v13],v10,v11,v13]
        (.cons 12
        (.exit 2 [.int .i64 15,v18,v19,v20,v21,v22,v23,v24,v25])
        (.cons 12
        (.exit 2 [.int .i64 7,v18,v19,v20,v21,v22,v23,v24,v25])
        (.cons 12
        (.split (of [v16,.str []])
         (.split (og [v17,oi 100000000])
          (.split (og [v17,oL [v15]])
           (.split (om [oL [oS [.op .sub [v15,oi 0,v17],v16]],oi 1000])
            (.exit 2 [.int .i64 15,v18,v19,v20,v21,v22,v23,v24,v25])
            (.exit 0 [oS [.op .sub [v15,oi 0,v17],v16],v18,v19,v20,v21,v22,v23,v24,v25]))
           (.dead))
          (.dead))
         (.split (om [v17,oi 1000])
          (.exit 2 [.int .i64 15,v18,v19,v20,v21,v22,v23,v24,v25])
          (.exit 1 [v17,v18,v19,v20,v21,v22,v23,v24,v25,v15])))
        (.nil)))))
       (.nil)))))
    (.dead))
   (.dead))
  (.dead))
 (.dead)
theorem Tf:cD Tryz.prog 100000 UR [(39,none)] [Hf,Ed] OP=true:=by kernel_rfl
noncomputable def vG:LD:=.mk 116 (pos 217) (none) (aK 43 [(1,zL v0),(2,.func 117 [] [zp 21]),(6,.vl [.str] (oL [v1]) (pos 22)),(7,.int .i64 0),(17,zL v2),(18,zn (oL [v2])),(19,zn v3)]) (aS bs 23 [(8,.vec true 43 [.bool,tL] (oL [v4]) v5),(9,.bY true (.int .i64) [tL] v6),(10,zk 94 7 [zT v7,zS v8,zL v9,zF v10,zn v11,.vl [.bool,tL] (oL [v4]) (pos 8),.map (pos 9)]),(21,zk 89 1 [zp 10]),(22,.vec true 9 [.str] (oL [v1]) v1)]) 12 [pos 0,pos 1,pos 2,pos 3,pos 4,pos 5,pos 8,pos 9,pos 10,pos 21]
 [⟨.exit 0,aK 43 [(6,.vl [.str] (oL [v0]) (pos 22)),(7,.int .i64 7)],aS bs 23 [(8,.vec true 43 [.bool,tL] (oL [v6]) v8),(9,.bY true (.int .i64) [tL] v7),(10,zk 94 7 [zT v1,zS v2,zL v3,zF v4,zn v5,.vl [.bool,tL] (oL [v6]) (pos 8),.map (pos 9)]),(21,zk 89 1 [zp 10]),(22,.vec true 9 [.str] (oL [v0]) v0)],9,.bad,[pos 8,pos 9,pos 10,pos 21,pos 22],[pos 8,pos 9,pos 10,pos 21,pos 22]⟩,
  ⟨.exit 0,aK 43 [(6,.vl [.str] (oL [v0]) (pos 22)),(7,.int .i64 0)],aS bs 23 [(8,.vec true 43 [.bool,tL] (oL [v6]) v8),(9,.bY true (.int .i64) [tL] v7),(10,zk 94 7 [zT v1,zS v2,zL v3,zF v4,zn v5,.vl [.bool,tL] (oL [v6]) (pos 8),.map (pos 9)]),(21,zk 89 1 [zp 10]),(22,.vec true 9 [.str] (oL [v0]) v0)],9,.bad,[pos 8,pos 9,pos 10,pos 21,pos 22],[pos 8,pos 9,pos 10,pos 21,pos 22]⟩]
 false []
noncomputable def oP:PT:=.split (oh [v3,oL [v2]])
 (.split (og [oi 0,v3])
  (.split (oh [v3,oL [v0]])
   (.call 0 [zT v7,zs (oc 0 [oE [v2,v3]]),zs (oc 0 [oE [v0,v3]])] (zb v12) 1
    (.split (oT [v12])
     (.exit 0 [v1,v7,v8,v9,v10,v11,v4,v6,v5])
     (.split (og [oL [v1],oi 100000000])
      (.next [v0,oS [v1,oc 0 [oE [v0,v3]]],v2,oa [v3,oi 1],v4,v5,v6,v7,v8,v9,v10,v11])
      (.dead))))
   (.dead))
  (.dead))
 (.exit 1 [v1,v7,v8,v9,v10,v11,v4,v6,v5])
theorem Ee:bg Tryz.prog 100000 vG [(40,none)] [] oP=true:=by kernel_rfl
noncomputable def Qz:LD:=.mk 116 .one none aN.none (aS bs 22 [(8,.vec true 43 [.bool,tL] (oL [v2]) v3),(9,.bY true (.int .i64) [tL] v4),(10,zk 94 7 [zT v5,zS v6,zL v7,zF v8,zn v9,.vl [.bool,tL] (oL [v2]) (pos 8),.map (pos 9)]),(21,zk 89 1 [zp 10])]) 10 [pos 0,pos 1,pos 2,pos 3,pos 4,pos 5,pos 8,pos 9,pos 10,pos 21]
 [⟨.ret,aN.none,aS bs 23 [(8,.vec true 43 [.bool,tL] (oL [v6]) v8),(9,.bY true (.int .i64) [tL] v7),(10,zk 94 7 [zT v1,zS v2,zL v3,zF v4,zn v5,.vl [.bool,tL] (oL [v6]) (pos 8),.map (pos 9)]),(21,zk 89 1 [zp 10]),(22,.vec true 9 [.str] (oL [v0]) v0)],9,.tuple [.vl [.str] (oL [v0]) (pos 22),.int .i64 7],[pos 8,pos 9,pos 10,pos 21],[pos 8,pos 9,pos 10,pos 21,pos 22]⟩,
  ⟨.ret,aN.none,aS bs 23 [(8,.vec true 43 [.bool,tL] (oL [v6]) v8),(9,.bY true (.int .i64) [tL] v7),(10,zk 94 7 [zT v1,zS v2,zL v3,zF v4,zn v5,.vl [.bool,tL] (oL [v6]) (pos 8),.map (pos 9)]),(21,zk 89 1 [zp 10]),(22,.vec true 9 [.str] (oL [v0]) v0)],9,.tuple [.vl [.str] (oL [v0]) (pos 22),.int .i64 0],[pos 8,pos 9,pos 10,pos 21],[pos 8,pos 9,pos 10,pos 21,pos 22]⟩,
  ⟨.ret,aN.none,aS bs 22 [(8,.vec true 43 [.bool,tL] (oL [v5]) v7),(9,.bY true (.int .i64) [tL] v6),(10,zk 94 7 [zT v0,zS v1,zL v2,zF v3,zn v4,.vl [.bool,tL] (oL [v5]) (pos 8),.map (pos 9)]),(21,zk 89 1 [zp 10])],8,.tuple [.an,.int .i64 15],[pos 8,pos 9,pos 10,pos 21],[pos 8,pos 9,pos 10,pos 21]⟩]
 true [zL v0,zL v1,.func 117 [] [zp 21]]
noncomputable def KP:PT:=.split (oj [oL [v0],oL [v1]])
 (.exit 2 [v5,v6,v7,v8,v9,v2,v4,v3])
 (.loop 0 [v1,oN,v0,.int .i64 0,v2,v3,v4,v5,v6,v7,v8,v9]
  (.cons 9
  (.exit 0 [v10,v11,v12,v13,v14,v15,v16,v17,v18])
  (.cons 9
  (.exit 1 [v10,v11,v12,v13,v14,v15,v16,v17,v18])
  (.nil))))
theorem QA:cD Tryz.prog 100000 Qz [] [vG] KP=true:=by kernel_rfl
noncomputable def oQ:LD:=.mk 116 (pos 217) (none) (aK 43 [(1,zL v0),(2,.func 118 [] [zp 21]),(6,.vl [.str] (oL [v1]) (pos 23)),(7,.int .i64 0),(17,zL v2),(18,zn (oL [v2])),(19,zn v3)]) (aS bs 24 [(8,.vec true 43 [.bool,tL] (oL [v4]) v5),(9,.bY true (.int .i64) [tL] v6),(10,zk 94 7 [zT v7,zS v8,zL v9,zF v10,zn v11,.vl [.bool,tL] (oL [v4]) (pos 8),.map (pos 9)]),(21,zk 89 1 [zp 10]),(23,.vec true 9 [.str] (oL [v1]) v1)]) 12 [pos 0,pos 1,pos 2,pos 3,pos 4,pos 5,pos 8,pos 9,pos 10,pos 21]
 [⟨.exit 0,aK 43 [(6,.vl [.str] (oL [v0]) (pos 23)),(7,.int .i64 7)],aS bs 24 [(8,.vec true 43 [.bool,tL] (oL [v6]) v8),(9,.bY true (.int .i64) [tL] v7),(10,zk 94 7 [zT v1,zS v2,zL v3,zF v4,zn v5,.vl [.bool,tL] (oL [v6]) (pos 8),.map (pos 9)]),(21,zk 89 1 [zp 10]),(23,.vec true 9 [.str] (oL [v0]) v0)],9,.bad,[pos 8,pos 9,pos 10,pos 21,pos 23],[pos 8,pos 9,pos 10,pos 21,pos 23]⟩,
  ⟨.exit 0,aK 43 [(6,.vl [.str] (oL [v0]) (pos 23)),(7,.int .i64 0)],aS bs 24 [(8,.vec true 43 [.bool,tL] (oL [v6]) v8),(9,.bY true (.int .i64) [tL] v7),(10,zk 94 7 [zT v1,zS v2,zL v3,zF v4,zn v5,.vl [.bool,tL] (oL [v6]) (pos 8),.map (pos 9)]),(21,zk 89 1 [zp 10]),(23,.vec true 9 [.str] (oL [v0]) v0)],9,.bad,[pos 8,pos 9,pos 10,pos 21,pos 23],[pos 8,pos 9,pos 10,pos 21,pos 23]⟩]
 false []
noncomputable def ly:PT:=.split (oh [v3,oL [v2]])
 (.split (og [oi 0,v3])
  (.split (oh [v3,oL [v0]])
   (.call 0 [zT v7,zs (oc 0 [oE [v2,v3]]),zs (oc 0 [oE [v0,v3]])] (.tuple [zs v12,zb v13]) 2
    (.split (oT [v13])
     (.exit 0 [v1,v7,v8,v9,v10,v11,v4,v6,v5])
     (.split (og [oL [v1],oi 100000000])
      (.next [v0,oS [v1,v12],v2,oa [v3,oi 1],v4,v5,v6,v7,v8,v9,v10,v11])
      (.dead))))
   (.dead))
  (.dead))
 (.exit 1 [v1,v7,v8,v9,v10,v11,v4,v6,v5])
theorem zw:bg Tryz.prog 100000 oQ [(119,none)] [] ly=true:=by kernel_rfl
noncomputable def Eg:LD:=.mk 116 .one none aN.none (aS bs 23 [(8,.vec true 43 [.bool,tL] (oL [v2]) v3),(9,.bY true (.int .i64) [tL] v4),(10,zk 94 7 [zT v5,zS v6,zL v7,zF v8,zn v9,.vl [.bool,tL] (oL [v2]) (pos 8),.map (pos 9)]),(21,zk 89 1 [zp 10])]) 10 [pos 0,pos 1,pos 2,pos 3,pos 4,pos 5,pos 8,pos 9,pos 10,pos 21]
 [⟨.ret,aN.none,aS bs 24 [(8,.vec true 43 [.bool,tL] (oL [v6]) v8),(9,.bY true (.int .i64) [tL] v7),(10,zk 94 7 [zT v1,zS v2,zL v3,zF v4,zn v5,.vl [.bool,tL] (oL [v6]) (pos 8),.map (pos 9)]),(21,zk 89 1 [zp 10]),(23,.vec true 9 [.str] (oL [v0]) v0)],9,.tuple [.vl [.str] (oL [v0]) (pos 23),.int .i64 7],[pos 8,pos 9,pos 10,pos 21],[pos 8,pos 9,pos 10,pos 21,pos 23]⟩,
  ⟨.ret,aN.none,aS bs 24 [(8,.vec true 43 [.bool,tL] (oL [v6]) v8),(9,.bY true (.int .i64) [tL] v7),(10,zk 94 7 [zT v1,zS v2,zL v3,zF v4,zn v5,.vl [.bool,tL] (oL [v6]) (pos 8),.map (pos 9)]),(21,zk 89 1 [zp 10]),(23,.vec true 9 [.str] (oL [v0]) v0)],9,.tuple [.vl [.str] (oL [v0]) (pos 23),.int .i64 0],[pos 8,pos 9,pos 10,pos 21],[pos 8,pos 9,pos 10,pos 21,pos 23]⟩,
  ⟨.ret,aN.none,aS bs 23 [(8,.vec true 43 [.bool,tL] (oL [v5]) v7),(9,.bY true (.int .i64) [tL] v6),(10,zk 94 7 [zT v0,zS v1,zL v2,zF v3,zn v4,.vl [.bool,tL] (oL [v5]) (pos 8),.map (pos 9)]),(21,zk 89 1 [zp 10])],8,.tuple [.an,.int .i64 15],[pos 8,pos 9,pos 10,pos 21],[pos 8,pos 9,pos 10,pos 21]⟩]
 true [zL v0,zL v1,.func 118 [] [zp 21]]
noncomputable def Cc:PT:=.split (oj [oL [v0],oL [v1]])
 (.exit 2 [v5,v6,v7,v8,v9,v2,v4,v3])
 (.loop 0 [v1,oN,v0,.int .i64 0,v2,v3,v4,v5,v6,v7,v8,v9]
  (.cons 9
  (.exit 0 [v10,v11,v12,v13,v14,v15,v16,v17,v18])
  (.cons 9
  (.exit 1 [v10,v11,v12,v13,v14,v15,v16,v17,v18])
  (.nil))))
theorem KQ:cD Tryz.prog 100000 Eg [] [oQ] Cc=true:=by kernel_rfl
noncomputable def US:LD:=.mk 72 .one none aN.none (aS bs 21 [(8,.vec true 43 [.bool,tL] (oL [v3]) v4),(9,.bY true (.int .i64) [tL] v5),(10,zk 94 7 [zT v6,zS v7,zL v8,zF v9,zn v10,.vl [.bool,tL] (oL [v3]) (pos 8),.map (pos 9)])]) 11 [pos 0,pos 1,pos 2,pos 3,pos 4,pos 5,pos 8,pos 9,pos 10]
 [⟨.ret,aN.none,aS bs 22 [(8,.vec true 43 [.bool,tL] (oL [v5]) v7),(9,.bY true (.int .i64) [tL] v6),(10,zk 94 7 [zT v0,zS v1,zL v2,zF v3,zn v4,.vl [.bool,tL] (oL [v5]) (pos 8),.map (pos 9)])],8,.int .i64 16,[pos 8,pos 9,pos 10],[pos 8,pos 9,pos 10]⟩,
  ⟨.ret,aN.none,aS bs 23 [(8,.vec true 43 [.bool,tL] (oL [v5]) v7),(9,.bY true (.int .i64) [tL] v6),(10,zk 94 7 [zT v0,zS v1,zL v2,zF v3,zn v4,.vl [.bool,tL] (oL [v5]) (pos 8),.map (pos 9)])],8,.int .i64 7,[pos 8,pos 9,pos 10],[pos 8,pos 9,pos 10]⟩,
  ⟨.ret,aN.none,aS bs 23 [(8,.vec true 43 [.bool,tL] (oL [v5]) v7),(9,.bY true (.int .i64) [tL] v6),(10,zk 94 7 [zT v0,zS v1,zL v2,zF v3,zn v4,.vl [.bool,tL] (oL [v5]) (pos 8),.map (pos 9)])],8,.int .i64 0,[pos 8,pos 9,pos 10],[pos 8,pos 9,pos 10]⟩,
  ⟨.ret,aN.none,aS bs 22 [(8,.vec true 43 [.bool,tL] (oL [v5]) v7),(9,.bY true (.int .i64) [tL] v6),(10,zk 94 7 [zT v0,zS v1,zL v2,zF v3,zn v4,.vl [.bool,tL] (oL [v5]) (pos 8),.map (pos 9)])],8,.int .i64 15,[pos 8,pos 9,pos 10],[pos 8,pos 9,pos 10]⟩]
 true [zp 10,zn v0,zn v1,zL v2]
noncomputable def OQ:PT:=.split (og [oi 0,v10])
 (.split (oh [v10,oL [v9]])
  (.split (oo [v1,oL [oc 3 [oE [v9,v10]]]])
   (.exit 0 [v6,v7,v8,v9,v10,v3,v5,v4])
   (.split (og [v1,v0])
    (.split (og [oi 0,v1])
     (.split (oh [v1,oL [v3]])
      (.split (oT [oc 0 [oE [v4,v1]]])
       (.exit 0 [v6,v7,v8,v9,v10,v3,v5,v4])
       (.loop 0 [v2,oc 1 [oE [v4,v1]],v3,v4,v5,v6,v7,v8,v9,v10]
        (.cons 9
        (.exit 1 [v12,v13,v14,v15,v16,v17,v18,v19])
        (.cons 9
        (.exit 2 [v12,v13,v14,v15,v16,v17,v18,v19])
        (.cons 8
        (.exit 3 [v11,v12,v13,v14,v15,v16,v17,v18])
        (.nil))))))
      (.dead))
     (.dead))
    (.split (.op .wt [v5,v1])
     (.loop 1 [oc 0 [.op .o4 [v5,v1]],v2,v3,v4,v5,v6,v7,v8,v9,v10]
      (.cons 9
      (.exit 1 [v12,v13,v14,v15,v16,v17,v18,v19])
      (.cons 9
      (.exit 2 [v12,v13,v14,v15,v16,v17,.op .tg [v18,v1,v11],v19])
      (.cons 8
      (.exit 3 [v11,v12,v13,v14,v15,v16,v17,v18])
      (.nil)))))
     (.loop 2 [v2]
      (.cons 1
      (.exit 2 [v6,v7,v8,v9,v10,v3,.op .tg [v5,v1,v11],v4])
      (.nil))))))
  (.dead))
 (.dead)
theorem Tg:cD Tryz.prog 100000 US [] [Qz,Eg,Hf] OQ=true:=by kernel_rfl
noncomputable def UT:LD:=.mk 50 .one none aN.none (aS bs 11 [(8,.vec true 43 [.bool,tL] (oL [v1]) v2),(9,.bY true (.int .i64) [tL] v3),(10,zk 94 7 [zT v4,zS v5,zL v6,zF v7,zn v8,.vl [.bool,tL] (oL [v1]) (pos 8),.map (pos 9)])]) 9 [pos 0,pos 1,pos 2,pos 3,pos 4,pos 5,pos 8,pos 9,pos 10]
 [⟨.ret,aN.none,aS bs 17 [(8,.vec true 43 [.bool,tL] (oL [v5]) v7),(9,.bY true (.int .i64) [tL] v6),(10,zk 94 7 [zT v0,zS v1,zL v2,zF v3,zn v4,.vl [.bool,tL] (oL [v5]) (pos 8),.map (pos 9)])],8,.int .i64 15,[pos 8,pos 9,pos 10],[pos 8,pos 9,pos 10]⟩,
  ⟨.ret,aN.none,aS bs 21 [(8,.vec true 43 [.bool,tL] (oL [v5]) v7),(9,.bY true (.int .i64) [tL] v6),(10,zk 94 7 [zT v0,zS v1,zL v2,zF v3,zn v4,.vl [.bool,tL] (oL [v5]) (pos 8),.map (pos 9)])],8,.int .i64 0,[pos 8,pos 9,pos 10],[pos 8,pos 9,pos 10]⟩,
  ⟨.ret,aN.none,aS bs 21 [(8,.vec true 43 [.bool,tL] (oL [v5]) v7),(9,.bY true (.int .i64) [tL] v6),(10,zk 94 7 [zT v0,zS v1,zL v2,zF v3,zn v4,.vl [.bool,tL] (oL [v5]) (pos 8),.map (pos 9)])],8,.int .i64 16,[pos 8,pos 9,pos 10],[pos 8,pos 9,pos 10]⟩,
  ⟨.ret,aN.none,aS bs 21 [(8,.vec true 43 [.bool,tL] (oL [v5]) v7),(9,.bY true (.int .i64) [tL] v6),(10,zk 94 7 [zT v0,zS v1,zL v2,zF v3,zn v4,.vl [.bool,tL] (oL [v5]) (pos 8),.map (pos 9)])],8,.int .i64 7,[pos 8,pos 9,pos 10],[pos 8,pos 9,pos 10]⟩,
  ⟨.ret,aN.none,aS bs 16 [(8,.vec true 43 [.bool,tL] (oL [v6]) v8),(9,.bY true (.int .i64) [tL] v7),(10,zk 94 7 [zT v1,zS v2,zL v3,zF v4,zn v5,.vl [.bool,tL] (oL [v6]) (pos 8),.map (pos 9)])],9,zn v0,[pos 8,pos 9,pos 10],[pos 8,pos 9,pos 10]⟩]
 true [zp 10,zn v0]
noncomputable def OR:PT:=.split (.op .wt [v3,v0])
 (.split (og [oi 0,v0])
  (.split (oh [v0,oL [v1]])
   (.loop 0 [v0,oc 0 [.op .o4 [v3,v0]],v1,.op (.dm 0 2) [v2,v0,.bool true,oc 0 [.op .o4 [v3,v0]]],.op .Cv [v3,v0],v4,v5,v6,v7,v8]
    (.cons 9
    (.split (og [oi 0,v14])
     (.split (oh [v14,oL [v13]])
      (.split (oh [v0,oL [oc 3 [oE [v13,v14]]]])
       (.split (ok [oc 0 [oE [oc 3 [oE [v13,v14]],v0]],oi 28])
        (.split (om [oL [v9],oi 0])
         (.exit 0 [v10,v11,v12,v13,v14,v15,v16,v17])
         (.exit 1 [v10,v11,v12,v13,v14,v15,v16,v17]))
        (.split (ok [oc 0 [oE [oc 3 [oE [v13,v14]],v0]],oi 11])
         (.loop 1 [v0,oc 1 [oE [oc 3 [oE [v13,v14]],v0]],v9,v15,v17,v16,v10,v11,v12,v13,v14]
          (.cons 8
          (.exit 2 [v18,v19,v20,v21,v22,v23,v24,v25])
          (.cons 8
          (.exit 3 [v18,v19,v20,v21,v22,v23,v24,v25])
          (.cons 8
          (.exit 1 [v18,v19,v20,v21,v22,v23,v24,v25])
          (.cons 8
          (.exit 0 [v18,v19,v20,v21,v22,v23,v24,v25])
          (.nil))))))
         (.split (ok [oc 0 [oE [oc 3 [oE [v13,v14]],v0]],oi 12])
          (.loop 1 [v0,oa [v0,oi 1],v9,v15,v17,v16,v10,v11,v12,v13,v14]
           (.cons 8
           (.exit 2 [v18,v19,v20,v21,v22,v23,v24,v25])
           (.cons 8
           (.exit 3 [v18,v19,v20,v21,v22,v23,v24,v25])
           (.cons 8
           (.loop 1 [v0,oc 1 [oE [oc 3 [oE [v13,v14]],v0]],v9,v23,v25,v24,v18,v19,v20,v21,v22]
            (.cons 8
            (.exit 2 [v26,v27,v28,v29,v30,v31,v32,v33])
            (.cons 8
            (.exit 3 [v26,v27,v28,v29,v30,v31,v32,v33])
            (.cons 8
            (.exit 1 [v26,v27,v28,v29,v30,v31,v32,v33])
            (.cons 8
            (.exit 0 [v26,v27,v28,v29,v30,v31,v32,v33])
            (.nil))))))
           (.cons 8
           (.exit 0 [v18,v19,v20,v21,v22,v23,v24,v25])
           (.nil))))))
          (.loop 1 [v0,oa [v0,oi 1],v9,v15,v17,v16,v10,v11,v12,v13,v14]
           (.cons 8
           (.exit 2 [v18,v19,v20,v21,v22,v23,v24,v25])
           (.cons 8
           (.exit 3 [v18,v19,v20,v21,v22,v23,v24,v25])
           (.cons 8
           (.exit 1 [v18,v19,v20,v21,v22,v23,v24,v25])
           (.cons 8
           (.exit 0 [v18,v19,v20,v21,v22,v23,v24,v25])
           (.nil)))))))))
       (.dead))
      (.dead))
     (.dead))
    (.cons 10
    (.split (og [oi 0,v14])
     (.split (oh [v14,oL [v13]])
      (.split (oh [v0,oL [oc 3 [oE [v13,v14]]]])
       (.split (ok [oc 0 [oE [oc 3 [oE [v13,v14]],v0]],oi 28])
        (.split (om [v9,oi 0])
         (.exit 0 [v10,v11,v12,v13,v14,v15,v16,v17])
         (.exit 1 [v10,v11,v12,v13,v14,v15,v16,v17]))
        (.split (ok [oc 0 [oE [oc 3 [oE [v13,v14]],v0]],oi 11])
         (.split (og [v9,oL [v18]])
          (.loop 1 [v0,oc 1 [oE [oc 3 [oE [v13,v14]],v0]],.op .sub [v18,oi 0,v9],v15,v17,v16,v10,v11,v12,v13,v14]
           (.cons 8
           (.exit 2 [v19,v20,v21,v22,v23,v24,v25,v26])
           (.cons 8
           (.exit 3 [v19,v20,v21,v22,v23,v24,v25,v26])
           (.cons 8
           (.exit 1 [v19,v20,v21,v22,v23,v24,v25,v26])
           (.cons 8
           (.exit 0 [v19,v20,v21,v22,v23,v24,v25,v26])
           (.nil))))))
          (.dead))
         (.split (ok [oc 0 [oE [oc 3 [oE [v13,v14]],v0]],oi 12])
          (.split (og [v9,oL [v18]])
           (.loop 1 [v0,oa [v0,oi 1],.op .sub [v18,oi 0,v9],v15,v17,v16,v10,v11,v12,v13,v14]
            (.cons 8
            (.exit 2 [v19,v20,v21,v22,v23,v24,v25,v26])
            (.cons 8
            (.exit 3 [v19,v20,v21,v22,v23,v24,v25,v26])
            (.cons 8
            (.loop 1 [v0,oc 1 [oE [oc 3 [oE [v13,v14]],v0]],.op .sub [v18,oi 0,v9],v24,v26,v25,v19,v20,v21,v22,v23]
             (.cons 8
             (.exit 2 [v27,v28,v29,v30,v31,v32,v33,v34])
             (.cons 8
             (.exit 3 [v27,v28,v29,v30,v31,v32,v33,v34])
             (.cons 8
             (.exit 1 [v27,v28,v29,v30,v31,v32,v33,v34])
             (.cons 8
             (.exit 0 [v27,v28,v29,v30,v31,v32,v33,v34])
             (.nil))))))
            (.cons 8
            (.exit 0 [v19,v20,v21,v22,v23,v24,v25,v26])
            (.nil))))))
           (.dead))
          (.split (og [v9,oL [v18]])
           (.loop 1 [v0,oa [v0,oi 1],.op .sub [v18,oi 0,v9],v15,v17,v16,v10,v11,v12,v13,v14]
            (.cons 8
            (.exit 2 [v19,v20,v21,v22,v23,v24,v25,v26])
            (.cons 8
            (.exit 3 [v19,v20,v21,v22,v23,v24,v25,v26])
            (.cons 8
            (.exit 1 [v19,v20,v21,v22,v23,v24,v25,v26])
            (.cons 8
            (.exit 0 [v19,v20,v21,v22,v23,v24,v25,v26])
            (.nil))))))
           (.dead)))))
       (.dead))
      (.dead))
     (.dead))
    (.cons 9
    (.split (oj [v9,oi 0])
     (.exit 4 [v9,v10,v11,v12,v13,v14,v15,v16,v17])
     (.split (og [oi 0,v14])
      (.split (oh [v14,oL [v13]])
       (.split (oh [v0,oL [oc 3 [oE [v13,v14]]]])
        (.split (ok [oc 0 [oE [oc 3 [oE [v13,v14]],v0]],oi 28])
         (.exit 1 [v10,v11,v12,v13,v14,v15,v16,v17])
         (.split (ok [oc 0 [oE [oc 3 [oE [v13,v14]],v0]],oi 11])
          (.loop 1 [v0,oc 1 [oE [oc 3 [oE [v13,v14]],v0]],oN,v15,v17,v16,v10,v11,v12,v13,v14]
           (.cons 8
           (.exit 2 [v18,v19,v20,v21,v22,v23,v24,v25])
           (.cons 8
           (.exit 3 [v18,v19,v20,v21,v22,v23,v24,v25])
           (.cons 8
           (.exit 1 [v18,v19,v20,v21,v22,v23,v24,v25])
           (.cons 8
           (.exit 0 [v18,v19,v20,v21,v22,v23,v24,v25])
           (.nil))))))
          (.split (ok [oc 0 [oE [oc 3 [oE [v13,v14]],v0]],oi 12])
           (.loop 1 [v0,oa [v0,oi 1],oN,v15,v17,v16,v10,v11,v12,v13,v14]
            (.cons 8
            (.exit 2 [v18,v19,v20,v21,v22,v23,v24,v25])
            (.cons 8
            (.exit 3 [v18,v19,v20,v21,v22,v23,v24,v25])
            (.cons 8
            (.loop 1 [v0,oc 1 [oE [oc 3 [oE [v13,v14]],v0]],oN,v23,v25,v24,v18,v19,v20,v21,v22]
             (.cons 8
             (.exit 2 [v26,v27,v28,v29,v30,v31,v32,v33])
             (.cons 8
             (.exit 3 [v26,v27,v28,v29,v30,v31,v32,v33])
             (.cons 8
             (.exit 1 [v26,v27,v28,v29,v30,v31,v32,v33])
             (.cons 8
             (.exit 0 [v26,v27,v28,v29,v30,v31,v32,v33])
             (.nil))))))
            (.cons 8
            (.exit 0 [v18,v19,v20,v21,v22,v23,v24,v25])
            (.nil))))))
           (.loop 1 [v0,oa [v0,oi 1],oN,v15,v17,v16,v10,v11,v12,v13,v14]
            (.cons 8
            (.exit 2 [v18,v19,v20,v21,v22,v23,v24,v25])
            (.cons 8
            (.exit 3 [v18,v19,v20,v21,v22,v23,v24,v25])
            (.cons 8
            (.exit 1 [v18,v19,v20,v21,v22,v23,v24,v25])
            (.cons 8
            (.exit 0 [v18,v19,v20,v21,v22,v23,v24,v25])
            (.nil)))))))))
        (.dead))
       (.dead))
      (.dead)))
    (.nil)))))
   (.dead))
  (.dead))
 (.exit 1 [v4,v5,v6,v7,v8,v1,v3,v2])
theorem Th:cD Tryz.prog 100000 UT [] [UR,US] OR=true:=by kernel_rfl
noncomputable def Eh:LD:=.mk 30 (pos 57) (none) (aK 46 [(5,zp 7),(6,zp 10),(28,zn (oL [v0])),(29,zn v1)]) (aS bs 11 [(7,zk 33 2 [.int .i64 0,.int .i64 0]),(8,.vec true 43 [.bool,tL] (oL [v2]) v3),(9,.bY true (.int .i64) [tL] v4),(10,zk 94 7 [zT v5,zS v6,zL v7,zF v8,zn v9,.vl [.bool,tL] (oL [v2]) (pos 8),.map (pos 9)])]) 10 [pos 0,pos 1,pos 2,pos 3,pos 4,pos 5,pos 7,pos 8,pos 9,pos 10]
 [⟨.ret,aK 46 [(4,.an),(5,zp 7)],aS bs 11 [(7,zk 33 2 [.int .i64 15,zn v8]),(8,.vec true 43 [.bool,tL] (oL [v5]) v7),(9,.bY true (.int .i64) [tL] v6),(10,zk 94 7 [zT v0,zS v1,zL v2,zF v3,zn v4,.vl [.bool,tL] (oL [v5]) (pos 8),.map (pos 9)])],9,.bad,[pos 7,pos 8,pos 9,pos 10],[pos 7,pos 8,pos 9,pos 10]⟩,
  ⟨.ret,aK 46 [(4,.an),(5,zp 7)],aS bs 11 [(7,zk 33 2 [.int .i64 16,zn v8]),(8,.vec true 43 [.bool,tL] (oL [v5]) v7),(9,.bY true (.int .i64) [tL] v6),(10,zk 94 7 [zT v0,zS v1,zL v2,zF v3,zn v4,.vl [.bool,tL] (oL [v5]) (pos 8),.map (pos 9)])],9,.bad,[pos 7,pos 8,pos 9,pos 10],[pos 7,pos 8,pos 9,pos 10]⟩,
  ⟨.ret,aK 46 [(4,.an),(5,zp 7)],aS bs 11 [(7,zk 33 2 [.int .i64 7,zn v8]),(8,.vec true 43 [.bool,tL] (oL [v5]) v7),(9,.bY true (.int .i64) [tL] v6),(10,zk 94 7 [zT v0,zS v1,zL v2,zF v3,zn v4,.vl [.bool,tL] (oL [v5]) (pos 8),.map (pos 9)])],9,.bad,[pos 7,pos 8,pos 9,pos 10],[pos 7,pos 8,pos 9,pos 10]⟩,
  ⟨.ret,aK 46 [(4,.an),(5,zp 7)],aS bs 11 [(7,zk 33 2 [zn v8,zn v9]),(8,.vec true 43 [.bool,tL] (oL [v5]) v7),(9,.bY true (.int .i64) [tL] v6),(10,zk 94 7 [zT v0,zS v1,zL v2,zF v3,zn v4,.vl [.bool,tL] (oL [v5]) (pos 8),.map (pos 9)])],10,.bad,[pos 7,pos 8,pos 9,pos 10],[pos 7,pos 8,pos 9,pos 10]⟩,
  ⟨.exit 0,aK 46 [(5,zp 7),(6,zp 10)],aS bs 11 [(7,zk 33 2 [.int .i64 0,.int .i64 0]),(8,.vec true 43 [.bool,tL] (oL [v1]) v2),(9,.bY true (.int .i64) [tL] v0),(10,zk 94 7 [zT v3,zS v4,zL v5,zF v6,zn v7,.vl [.bool,tL] (oL [v1]) (pos 8),.map (pos 9)])],8,.bad,[pos 7,pos 8,pos 9,pos 10],[pos 7,pos 8,pos 9,pos 10]⟩]
 false []
noncomputable def vH:PT:=.split (oh [v1,oL [v0]])
 (.loop 0 [v1,v2,v3,v4,v5,v6,v7,v8,v9]
  (.cons 8
  (.exit 0 [v10,v11,v12,v13,v14,v15,v16,v17,v1])
  (.cons 8
  (.next [v0,oa [v1,oi 1],v15,v17,v16,v10,v11,v12,v13,v14])
  (.cons 8
  (.exit 1 [v10,v11,v12,v13,v14,v15,v16,v17,v1])
  (.cons 8
  (.exit 2 [v10,v11,v12,v13,v14,v15,v16,v17,v1])
  (.cons 9
  (.split (oj [v10,oi 0])
   (.exit 3 [v11,v12,v13,v14,v15,v16,v17,v18,v10,v1])
   (.next [v0,oa [v1,oi 1],v16,v18,v17,v11,v12,v13,v14,v15]))
  (.nil)))))))
 (.exit 4 [v4,v2,v3,v5,v6,v7,v8,v9])
theorem KR:bg Tryz.prog 100000 Eh [] [UT] vH=true:=by kernel_rfl
noncomputable def OS:PT:=.split (og [oi 0,v4])
 (.split (oh [v4,oL [v3]])
  (.split (og [oi 0,oL [oc 3 [oE [v3,v4]]]])
   (.split (og [oL [oc 3 [oE [v3,v4]]],oi 100000000])
    (.loop 0 [oc 3 [oE [v3,v4]],.int .i64 0,oc 3 [oE [v3,v4]],.op .rep [oL [oc 3 [oE [v3,v4]]],.bool false,oN],.op .tg [oN,oi 0,oN],v0,v1,v2,v3,v4]
     (.cons 9
     (.ret (.tuple [z0 (oN),.agg [.int .i64 15,zn v13]]))
     (.cons 9
     (.ret (.tuple [z0 (oN),.agg [.int .i64 16,zn v13]]))
     (.cons 9
     (.ret (.tuple [z0 (oN),.agg [.int .i64 7,zn v13]]))
     (.cons 10
     (.ret (.tuple [z0 (oN),.agg [zn v13,zn v14]]))
     (.cons 8
     (.ret (.tuple [.tm (.aF [.bool,tL]) v7,.agg [.int .i64 0,.int .i64 0]]))
     (.nil)))))))
    (.dead))
   (.dead))
  (.dead))
 (.dead)
theorem Ti:bt Tryz.prog bs 100000 30 [.agg [zT v0,zS v1,zL v2,zF v3],zn v4] [] [Eh] OS 5=true:=by kernel_rfl
end
end Go.Proofs.Sai
