/- Part K1 of the proof of VerifyDead: texts of the interpreter and what it shows, under short names. No condition. -/
import Derived.Test.YtgfhbomiljhjpaaGreatDoorJ
namespace Go.Proofs.Sai
section
open Go
set_option maxRecDepth 100000
noncomputable def oI:LD:=.mk 159 (pos 27237) (none) (aK 41 [(0,zT v0),(3,.pe [.bool] (pos 6) (.int .i64 0) 0),(4,zn v1),(9,zn v2),(12,zn v3)]) (aS bs 7 [(6,.vec true 259 [.bool] (.int .i64 1600) v4)]) 5 [pos 0,pos 1,pos 2,pos 3,pos 4,pos 5,pos 6]
 [⟨.exit 2,aK 41 [(0,zT v0),(3,.pe [.bool] (pos 6) (.int .i64 0) 0),(9,zn v1)],aS bs 7 [(6,.vec true 259 [.bool] (.int .i64 1600) v2)],3,.bad,[pos 6],[pos 6]⟩]
 false []
noncomputable def lk:PT:=.split (oh [v3,oi 40])
 (.split (og [oi 0,v1])
  (.split (oh [v1,oi 40])
   (.split (og [oi 0,v3])
    (.split (og [.op (.kp .mul .i64) [v1,oi 40],oi 100000000])
     (.split (og [oi 0,oa [.op (.kp .mul .i64) [v1,oi 40],v3]])
      (.split (oh [oa [.op (.kp .mul .i64) [v1,oi 40],v3],oi 1600])
       (.next [v0,v1,v2,oa [v3,oi 1],.op (.dm 0 1) [v4,oa [.op (.kp .mul .i64) [v1,oi 40],v3],.bool true]])
       (.dead))
      (.dead))
     (.dead))
    (.dead))
   (.dead))
  (.dead))
 (.exit 0 [v0,v2,v4])
theorem zl:bg Tryz.prog 100000 oI [] [] lk=true:=by kernel_rfl
noncomputable def mI:LD:=.mk 159 (pos 105) (none) (aK 41 [(0,zT v0),(3,.pe [.bool] (pos 6) (.int .i64 0) 0),(9,zn v1)]) (aS bs 7 [(6,.vec true 259 [.bool] (.int .i64 1600) v2)]) 3 [pos 0,pos 1,pos 2,pos 3,pos 4,pos 5,pos 6]
 [⟨.exit 0,aK 41 [(0,zT v0),(3,.pe [.bool] (pos 6) (.int .i64 0) 0)],aS bs 7 [(6,.vec true 259 [.bool] (.int .i64 1600) v1)],2,.bad,[pos 6],[pos 6]⟩]
 false []
noncomputable def oJ:PT:=.split (oh [v1,oi 40])
 (.loop 0 [v0,v1,v1,.int .i64 0,v2]
  (.cons 3
  (.next [v3,oa [v4,oi 1],v5])
  (.nil)))
 (.exit 0 [v0,v2])
theorem D8:bg Tryz.prog 100000 mI [] [oI] oJ=true:=by kernel_rfl
noncomputable def B9:LD:=.mk 160 .one none aN.none (aS bs 17 [(6,.vec true 259 [.bool] (.int .i64 1600) v3)]) 4 [pos 0,pos 1,pos 2,pos 3,pos 4,pos 5,pos 6]
 [⟨.ret,aN.none,aS bs 18 [(6,.vec true 259 [.bool] (.int .i64 1600) v0)],1,.bool true,[pos 6],[pos 6]⟩,
  ⟨.ret,aN.none,aS bs 18 [(6,.vec true 259 [.bool] (.int .i64 1600) v1)],2,zb v0,[pos 6],[pos 6]⟩]
 true [.pe [.bool] (pos 6) (.int .i64 0) 0,zT v0,.agg [zs v1,zs v2]]
noncomputable def KG:PT:=.split (oe [v1,.str [63]])
 (.exit 0 [v3])
 (.split (oe [v2,.str [63]])
  (.exit 0 [v3])
  (.split (oe [v1,v2])
   (.exit 0 [v3])
   (.call 0 [zT v0,zs v1] (zL v4) 1
    (.call 1 [zL v4,zs v2] (zb v5) 1
     (.split v5
      (.exit 0 [v3])
      (.call 2 [zT v0,zs v1] (.tuple [zn v6,zb v7]) 2
       (.call 2 [zT v0,zs v2] (.tuple [zn v8,zb v9]) 2
        (.split v7
         (.split v9
          (.split (og [oi 0,v6])
           (.split (oh [v6,oi 40])
            (.split (og [oi 0,v8])
             (.split (oh [v8,oi 40])
              (.split (og [.op (.kp .mul .i64) [v6,oi 40],oi 100000000])
               (.split (og [oi 0,oa [.op (.kp .mul .i64) [v6,oi 40],v8]])
                (.split (oh [oa [.op (.kp .mul .i64) [v6,oi 40],v8],oi 1600])
                 (.exit 1 [oc 0 [oE [v3,oa [.op (.kp .mul .i64) [v6,oi 40],v8]]],v3])
                 (.dead))
                (.dead))
               (.dead))
              (.dead))
             (.dead))
            (.dead))
           (.dead))
          (.exit 1 [.bool false,v3]))
         (.exit 1 [.bool false,v3])))))))))
theorem Qq:cD Tryz.prog 100000 B9 [(61,none),(60,none),(106,none)] [] KG=true:=by kernel_rfl
noncomputable def D9:LD:=.mk 260 (pos 9) (none) (aK 104 [(0,.yield (pos 14)),(1,zp 10),(2,zp 12),(3,zp 11),(18,zV v0),(19,zn (oL [v0])),(20,zn v1)]) (aS bs 15 [(6,.vec true 259 [.bool] (.int .i64 1600) v2),(7,zk 201 1 [.pe [.bool] (pos 6) (.int .i64 0) 0]),(8,zk 22 1 [zT v3]),(9,zk 4 1 [zb v4]),(10,zk 22 1 [zT v3]),(11,zk 9 1 [zs v5]),(12,zk 9 1 [zs v6]),(13,.deferred true),(14,.loop (.mk .ready none (ec [(0,.bad),(1,.bad),(3,zn v7),(15,.bad),(31,.bad),(23,.bad),(39,.bad),(11,zp 9),(19,.bad),(35,.bad),(27,.bad),(43,.bad),(5,zp 8),(9,.bad),(17,.bad),(33,.bad),(25,.bad),(41,.bad),(21,.bad),(37,.bad),(29,.bad),(45,.bad),(2,zn v8),(4,zp 7),(8,.bad),(16,.bad),(32,.bad),(24,.bad),(40,.bad),(20,.bad),(36,.bad),(28,.bad),(44,.bad),(10,.bad),(18,.bad),(34,.bad),(26,.bad),(42,.bad),(14,.bad),(22,.bad),(38,.bad),(30,.bad),(46,.func 260 [] [zp 10,zp 12,zp 11])] .nil) 64 [47,48] (pos 13) 210 (pos 1001)))]) 9 [pos 0,pos 1,pos 2,pos 3,pos 4,pos 5,pos 6,pos 7,pos 8,pos 9,pos 10,pos 11,pos 12,pos 13,pos 14]
 [⟨.ret,aK 104 [],aS bs 18 [(6,.vec true 259 [.bool] (.int .i64 1600) v6),(7,zk 201 1 [.pe [.bool] (pos 6) (.int .i64 0) 0]),(8,zk 22 1 [zT v4]),(9,zk 4 1 [zb v5]),(10,zk 22 1 [zT v4]),(11,zk 9 1 [zs v3]),(12,zk 9 1 [zs v2]),(13,.deferred true),(14,.loop (.mk .done (some (.exit 0)) (ec [(0,.bad),(1,.bad),(3,zn v0),(15,.bad),(31,.bad),(23,.bad),(39,.bad),(11,zp 9),(19,.bad),(35,.bad),(27,.bad),(43,.bad),(5,zp 8),(9,.bad),(17,.bad),(33,.bad),(25,.bad),(41,.bad),(21,.bad),(37,.bad),(29,.bad),(45,.bad),(2,zn v1),(4,zp 7),(8,.bad),(16,.bad),(32,.bad),(24,.bad),(40,.bad),(20,.bad),(36,.bad),(28,.bad),(44,.bad),(10,.bad),(18,.bad),(34,.bad),(26,.bad),(42,.bad),(14,.bad),(22,.bad),(38,.bad),(30,.bad),(46,.func 260 [] [zp 10,zp 12,zp 11])] .nil) 64 [47,48] (pos 13) 210 (pos 1001)))],7,.bad,[pos 6,pos 7,pos 8,pos 9,pos 10,pos 11,pos 12,pos 13,pos 14],[pos 6,pos 7,pos 8,pos 9,pos 10,pos 11,pos 12,pos 13,pos 14]⟩,
  ⟨.exit 0,aK 104 [(0,.yield (pos 14)),(1,zp 10),(2,zp 12),(3,zp 11)],aS bs 15 [(6,.vec true 259 [.bool] (.int .i64 1600) v2),(7,zk 201 1 [.pe [.bool] (pos 6) (.int .i64 0) 0]),(8,zk 22 1 [zT v1]),(9,zk 4 1 [zb v0]),(10,zk 22 1 [zT v1]),(11,zk 9 1 [zs v3]),(12,zk 9 1 [zs v4]),(13,.deferred true),(14,.loop (.mk .ready none (ec [(0,.bad),(1,.bad),(3,zn v5),(15,.bad),(31,.bad),(23,.bad),(39,.bad),(11,zp 9),(19,.bad),(35,.bad),(27,.bad),(43,.bad),(5,zp 8),(9,.bad),(17,.bad),(33,.bad),(25,.bad),(41,.bad),(21,.bad),(37,.bad),(29,.bad),(45,.bad),(2,zn v6),(4,zp 7),(8,.bad),(16,.bad),(32,.bad),(24,.bad),(40,.bad),(20,.bad),(36,.bad),(28,.bad),(44,.bad),(10,.bad),(18,.bad),(34,.bad),(26,.bad),(42,.bad),(14,.bad),(22,.bad),(38,.bad),(30,.bad),(46,.func 260 [] [zp 10,zp 12,zp 11])] .nil) 64 [47,48] (pos 13) 210 (pos 1001)))],7,.bad,[pos 6,pos 7,pos 8,pos 9,pos 10,pos 11,pos 12,pos 13,pos 14],[pos 6,pos 7,pos 8,pos 9,pos 10,pos 11,pos 12,pos 13,pos 14]⟩]
 false []
noncomputable def vB:PT:=.split (oh [v1,oL [v0]])
 (.split (og [oi 0,v1])
  (.call 0 [zT v3,zs v5,zs (oc 0 [oE [v0,v1]])] (.tuple [zs v9,zb v10]) 2
   (.loop 0 [v3,v9,oc 1 [oE [v0,v1]],v2]
    (.cons 1
    (.loop 0 [v3,oc 1 [oE [v0,v1]],v9,v11]
     (.cons 1
     (.next [v0,oa [v1,oi 1],v12,v3,.bool true,v5,v6,v7,v8])
     (.cons 2
     (.split (oT [v12])
      (.exit 0 [v7,v8,v6,v5,v3,v12,v13])
      (.next [v0,oa [v1,oi 1],v13,v3,v12,v5,v6,v7,v8]))
     (.nil))))
    (.cons 2
    (.split (oT [v11])
     (.exit 0 [v7,v8,v6,v5,v3,v11,v12])
     (.loop 0 [v3,oc 1 [oE [v0,v1]],v9,v12]
      (.cons 1
      (.next [v0,oa [v1,oi 1],v13,v3,.bool true,v5,v6,v7,v8])
      (.cons 2
      (.split (oT [v13])
       (.exit 0 [v7,v8,v6,v5,v3,v13,v14])
       (.next [v0,oa [v1,oi 1],v14,v3,v13,v5,v6,v7,v8]))
      (.nil)))))
    (.nil)))))
  (.dead))
 (.exit 1 [v4,v3,v2,v5,v6,v7,v8])
theorem KH:bg Tryz.prog 100000 D9 [(141,none)] [B9] vB=true:=by kernel_rfl
noncomputable def oK:LD:=.mk 260 (pos 14749) (none) (aK 104 [(0,.yield (pos 14)),(1,zp 10),(3,zp 11),(10,zp 15),(11,zp 16),(55,zM v0),(56,zn (oL [v0])),(57,zn v1),(81,zV v2),(82,zn (oL [v2])),(83,zn v3)]) (aS bs 18 [(6,.vec true 259 [.bool] (.int .i64 1600) v4),(7,zk 201 1 [.pe [.bool] (pos 6) (.int .i64 0) 0]),(8,zk 22 1 [zT v5]),(9,zk 4 1 [zb v6]),(10,zk 22 1 [zT v5]),(11,zk 9 1 [zs v7]),(12,zk 9 1 [zs v8]),(13,.deferred true),(14,.loop (.mk .ready none (ec [(0,.bad),(1,.bad),(3,zn v9),(15,.bad),(31,.bad),(23,.bad),(39,.bad),(11,zp 9),(19,.bad),(35,.bad),(27,.bad),(43,.bad),(5,zp 8),(9,.bad),(17,.bad),(33,.bad),(25,.bad),(41,.bad),(21,.bad),(37,.bad),(29,.bad),(45,.bad),(2,zn v10),(4,zp 7),(8,.bad),(16,.bad),(32,.bad),(24,.bad),(40,.bad),(20,.bad),(36,.bad),(28,.bad),(44,.bad),(10,.bad),(18,.bad),(34,.bad),(26,.bad),(42,.bad),(14,.bad),(22,.bad),(38,.bad),(30,.bad),(46,.func 260 [] [zp 10,zp 12,zp 11])] .nil) 64 [47,48] (pos 13) 210 (pos 1001))),(15,zk 80 3 [zs v11,zV v2,zs v12]),(16,zk 80 3 [zs v13,zV v14,zs v15])]) 16 [pos 0,pos 1,pos 2,pos 3,pos 4,pos 5,pos 6,pos 7,pos 8,pos 9,pos 10,pos 11,pos 12,pos 13,pos 14,pos 15,pos 16]
 [⟨.ret,aK 104 [],aS bs 20 [(6,.vec true 259 [.bool] (.int .i64 1600) v12),(7,zk 201 1 [.pe [.bool] (pos 6) (.int .i64 0) 0]),(8,zk 22 1 [zT v10]),(9,zk 4 1 [zb v11]),(10,zk 22 1 [zT v10]),(11,zk 9 1 [zs v9]),(12,zk 9 1 [zs v8]),(13,.deferred true),(14,.loop (.mk .done (some (.exit 0)) (ec [(0,.bad),(1,.bad),(3,zn v6),(15,.bad),(31,.bad),(23,.bad),(39,.bad),(11,zp 9),(19,.bad),(35,.bad),(27,.bad),(43,.bad),(5,zp 8),(9,.bad),(17,.bad),(33,.bad),(25,.bad),(41,.bad),(21,.bad),(37,.bad),(29,.bad),(45,.bad),(2,zn v7),(4,zp 7),(8,.bad),(16,.bad),(32,.bad),(24,.bad),(40,.bad),(20,.bad),(36,.bad),(28,.bad),(44,.bad),(10,.bad),(18,.bad),(34,.bad),(26,.bad),(42,.bad),(14,.bad),(22,.bad),(38,.bad),(30,.bad),(46,.func 260 [] [zp 10,zp 12,zp 11])] .nil) 64 [47,48] (pos 13) 210 (pos 1001))),(15,zk 80 3 [zs v3,zV v4,zs v5]),(16,zk 80 3 [zs v0,zV v1,zs v2])],13,.bad,[pos 6,pos 7,pos 8,pos 9,pos 10,pos 11,pos 12,pos 13,pos 14,pos 15,pos 16],[pos 6,pos 7,pos 8,pos 9,pos 10,pos 11,pos 12,pos 13,pos 14,pos 15,pos 16]⟩,
  ⟨.exit 4,aK 104 [(0,.yield (pos 14)),(1,zp 10),(3,zp 11),(55,zM v0),(56,zn (oL [v0])),(57,zn v1)],aS bs 18 [(6,.vec true 259 [.bool] (.int .i64 1600) v11),(7,zk 201 1 [.pe [.bool] (pos 6) (.int .i64 0) 0]),(8,zk 22 1 [zT v10]),(9,zk 4 1 [zb v9]),(10,zk 22 1 [zT v10]),(11,zk 9 1 [zs v12]),(12,zk 9 1 [zs v8]),(13,.deferred true),(14,.loop (.mk .ready none (ec [(0,.bad),(1,.bad),(3,zn v13),(15,.bad),(31,.bad),(23,.bad),(39,.bad),(11,zp 9),(19,.bad),(35,.bad),(27,.bad),(43,.bad),(5,zp 8),(9,.bad),(17,.bad),(33,.bad),(25,.bad),(41,.bad),(21,.bad),(37,.bad),(29,.bad),(45,.bad),(2,zn v14),(4,zp 7),(8,.bad),(16,.bad),(32,.bad),(24,.bad),(40,.bad),(20,.bad),(36,.bad),(28,.bad),(44,.bad),(10,.bad),(18,.bad),(34,.bad),(26,.bad),(42,.bad),(14,.bad),(22,.bad),(38,.bad),(30,.bad),(46,.func 260 [] [zp 10,zp 12,zp 11])] .nil) 64 [47,48] (pos 13) 210 (pos 1001))),(15,zk 80 3 [zs v5,zV v6,zs v7]),(16,zk 80 3 [zs v2,zV v3,zs v4])],15,.bad,[pos 6,pos 7,pos 8,pos 9,pos 10,pos 11,pos 12,pos 13,pos 14,pos 15,pos 16],[pos 6,pos 7,pos 8,pos 9,pos 10,pos 11,pos 12,pos 13,pos 14,pos 15,pos 16]⟩]
 false []
noncomputable def lr:PT:=.split (oh [v3,oL [v2]])
 (.split (og [oi 0,v3])
  (.split (oh [v3,oL [v14]])
   (.loop 0 [v5,oc 1 [oE [v2,v3]],oc 1 [oE [v14,v3]],v4]
    (.cons 1
    (.next [v0,v1,v2,oa [v3,oi 1],v16,v5,.bool true,v7,v8,v9,v10,v11,v12,v13,v14,v15])
    (.cons 2
    (.split (oT [v16])
     (.exit 0 [v13,v14,v15,v11,v2,v12,v9,v10,v8,v7,v5,v16,v17])
     (.next [v0,v1,v2,oa [v3,oi 1],v17,v5,v16,v7,v8,v9,v10,v11,v12,v13,v14,v15]))
    (.nil))))
   (.dead))
  (.dead))
 (.exit 1 [v0,v1,v13,v14,v15,v11,v2,v12,v8,v6,v5,v4,v7,v9,v10])
theorem zm:bg Tryz.prog 100000 oK [] [B9] lr=true:=by kernel_rfl
noncomputable def zo:LD:=.mk 260 (pos 13) (none) (aK 104 [(0,.yield (pos 14)),(1,zp 10),(3,zp 11),(55,zM v0),(56,zn (oL [v0])),(57,zn v1)]) (aS bs 15 [(6,.vec true 259 [.bool] (.int .i64 1600) v2),(7,zk 201 1 [.pe [.bool] (pos 6) (.int .i64 0) 0]),(8,zk 22 1 [zT v3]),(9,zk 4 1 [zb v4]),(10,zk 22 1 [zT v3]),(11,zk 9 1 [zs v5]),(12,zk 9 1 [zs v6]),(13,.deferred true),(14,.loop (.mk .ready none (ec [(0,.bad),(1,.bad),(3,zn v7),(15,.bad),(31,.bad),(23,.bad),(39,.bad),(11,zp 9),(19,.bad),(35,.bad),(27,.bad),(43,.bad),(5,zp 8),(9,.bad),(17,.bad),(33,.bad),(25,.bad),(41,.bad),(21,.bad),(37,.bad),(29,.bad),(45,.bad),(2,zn v8),(4,zp 7),(8,.bad),(16,.bad),(32,.bad),(24,.bad),(40,.bad),(20,.bad),(36,.bad),(28,.bad),(44,.bad),(10,.bad),(18,.bad),(34,.bad),(26,.bad),(42,.bad),(14,.bad),(22,.bad),(38,.bad),(30,.bad),(46,.func 260 [] [zp 10,zp 12,zp 11])] .nil) 64 [47,48] (pos 13) 210 (pos 1001)))]) 9 [pos 0,pos 1,pos 2,pos 3,pos 4,pos 5,pos 6,pos 7,pos 8,pos 9,pos 10,pos 11,pos 12,pos 13,pos 14]
 [⟨.ret,aK 104 [],aS bs 18 [(6,.vec true 259 [.bool] (.int .i64 1600) v6),(7,zk 201 1 [.pe [.bool] (pos 6) (.int .i64 0) 0]),(8,zk 22 1 [zT v4]),(9,zk 4 1 [zb v5]),(10,zk 22 1 [zT v4]),(11,zk 9 1 [zs v3]),(12,zk 9 1 [zs v2]),(13,.deferred true),(14,.loop (.mk .done (some (.exit 0)) (ec [(0,.bad),(1,.bad),(3,zn v0),(15,.bad),(31,.bad),(23,.bad),(39,.bad),(11,zp 9),(19,.bad),(35,.bad),(27,.bad),(43,.bad),(5,zp 8),(9,.bad),(17,.bad),(33,.bad),(25,.bad),(41,.bad),(21,.bad),(37,.bad),(29,.bad),(45,.bad),(2,zn v1),(4,zp 7),(8,.bad),(16,.bad),(32,.bad),(24,.bad),(40,.bad),(20,.bad),(36,.bad),(28,.bad),(44,.bad),(10,.bad),(18,.bad),(34,.bad),(26,.bad),(42,.bad),(14,.bad),(22,.bad),(38,.bad),(30,.bad),(46,.func 260 [] [zp 10,zp 12,zp 11])] .nil) 64 [47,48] (pos 13) 210 (pos 1001)))],7,.bad,[pos 6,pos 7,pos 8,pos 9,pos 10,pos 11,pos 12,pos 13,pos 14],[pos 6,pos 7,pos 8,pos 9,pos 10,pos 11,pos 12,pos 13,pos 14]⟩,
  ⟨.exit 2,aK 104 [],aS bs 15 [(6,.vec true 259 [.bool] (.int .i64 1600) v6),(7,zk 201 1 [.pe [.bool] (pos 6) (.int .i64 0) 0]),(8,zk 22 1 [zT v4]),(9,zk 4 1 [zb v5]),(10,zk 22 1 [zT v4]),(11,zk 9 1 [zs v3]),(12,zk 9 1 [zs v2]),(13,.deferred true),(14,.loop (.mk .ready none (ec [(0,.bad),(1,.bad),(3,zn v0),(15,.bad),(31,.bad),(23,.bad),(39,.bad),(11,zp 9),(19,.bad),(35,.bad),(27,.bad),(43,.bad),(5,zp 8),(9,.bad),(17,.bad),(33,.bad),(25,.bad),(41,.bad),(21,.bad),(37,.bad),(29,.bad),(45,.bad),(2,zn v1),(4,zp 7),(8,.bad),(16,.bad),(32,.bad),(24,.bad),(40,.bad),(20,.bad),(36,.bad),(28,.bad),(44,.bad),(10,.bad),(18,.bad),(34,.bad),(26,.bad),(42,.bad),(14,.bad),(22,.bad),(38,.bad),(30,.bad),(46,.func 260 [] [zp 10,zp 12,zp 11])] .nil) 64 [47,48] (pos 13) 210 (pos 1001)))],7,.bad,[pos 6,pos 7,pos 8,pos 9,pos 10,pos 11,pos 12,pos 13,pos 14],[pos 6,pos 7,pos 8,pos 9,pos 10,pos 11,pos 12,pos 13,pos 14]⟩]
 false []
noncomputable def rD:PT:=.split (oh [v1,oL [v0]])
 (.split (og [oi 0,v1])
  (.call 0 [zT v3,zs v5,zs (oc 0 [oE [v0,v1]])] (.tuple [.agg [zs v9,zV v10,zs v11],zs v12,zb v13]) 5
   (.loop 0 [v3,v11,oc 2 [oE [v0,v1]],v2]
    (.cons 1
    (.loop 1 [v0,v1,oc 1 [oE [v0,v1]],.int .i64 0,v14,v3,.bool true,v5,v6,v7,v8,oc 0 [oE [v0,v1]],oc 2 [oE [v0,v1]],v9,v10,v11]
     (.cons 13
     (.exit 0 [v21,v22,v23,v24,v25,v26,v27])
     (.cons 15
     (.next [v15,oa [v16,oi 1],v26,v25,v24,v27,v23,v28,v29])
     (.nil))))
    (.cons 2
    (.split (oT [v14])
     (.exit 0 [v7,v8,v6,v5,v3,v14,v15])
     (.loop 1 [v0,v1,oc 1 [oE [v0,v1]],.int .i64 0,v15,v3,v14,v5,v6,v7,v8,oc 0 [oE [v0,v1]],oc 2 [oE [v0,v1]],v9,v10,v11]
      (.cons 13
      (.exit 0 [v22,v23,v24,v25,v26,v27,v28])
      (.cons 15
      (.next [v16,oa [v17,oi 1],v27,v26,v25,v28,v24,v29,v30])
      (.nil)))))
    (.nil)))))
  (.dead))
 (.exit 1 [v7,v8,v6,v5,v3,v4,v2])
theorem Hb:bg Tryz.prog 100000 zo [(142,none)] [B9,oK] rD=true:=by kernel_rfl
noncomputable def Qr:LD:=.mk 210 .one none aN.none (aS bs 7 [(6,.vec true 259 [.bool] (.int .i64 1600) v3)]) 4 [pos 0,pos 1,pos 2,pos 3,pos 4,pos 5,pos 6]
 [⟨.ret,aN.none,aS bs 9 [(6,.vec true 259 [.bool] (.int .i64 1600) v0)],1,.bool false,[pos 6],[pos 6]⟩,
  ⟨.ret,aN.none,aS bs 15 [(6,.vec true 259 [.bool] (.int .i64 1600) v1)],2,zb v0,[pos 6],[pos 6]⟩]
 true [.pe [.bool] (pos 6) (.int .i64 0) 0,zT v0,zn v1,zn v2]
noncomputable def KI:PT:=.split (og [oi 0,v1])
 (.split (oh [v1,oL [v0]])
  (.split (og [oi 0,v2])
   (.split (oh [v2,oL [v0]])
    (.split (oh [v1,oi 40])
     (.split (oh [v2,oi 40])
      (.split (og [.op (.kp .mul .i64) [v1,oi 40],oi 100000000])
       (.split (og [oi 0,oa [.op (.kp .mul .i64) [v1,oi 40],v2]])
        (.split (oh [oa [.op (.kp .mul .i64) [v1,oi 40],v2],oi 1600])
         (.split (oT [oc 0 [oE [v3,oa [.op (.kp .mul .i64) [v1,oi 40],v2]]]])
          (.exit 0 [v3])
          (.split (oe [oc 0 [oE [v0,v1]],oc 0 [oE [v0,v2]]])
           (.exit 0 [v3])
           (.call 0 [zT v0,zs (oc 0 [oE [v0,v1]])] (zL v4) 1
            (.call 1 [zL v4,zs (oc 0 [oE [v0,v2]])] (zb v5) 1
             (.split v5
              (.exit 0 [v3])
              (.call 2 [zT v0,zs (oc 0 [oE [v0,v1]]),zs (oc 0 [oE [v0,v2]])] (zb v6) 1
               (.split v6
                (.call 3 [zT v0,zs (oc 0 [oE [v0,v2]])] (zV v7) 1
                 (.loop 0 [v7,.int .i64 0,v3,v0,v6,oc 0 [oE [v0,v1]],oc 0 [oE [v0,v2]],v2,v1]
                  (.cons 7
                  (.exit 1 [oT [v13],.op (.dm 0 1) [v14,oa [.op (.kp .mul .i64) [v1,oi 40],v2],v13]])
                  (.cons 7
                  (.call 4 [zT v9,zs v12] (zM v15) 1
                   (.loop 1 [v15,.int .i64 0,v10,v9,v8,v11,v12,v13,v14]
                    (.cons 7
                    (.exit 1 [oT [v21],.op (.dm 0 1) [v22,oa [.op (.kp .mul .i64) [v1,oi 40],v2],v21]])
                    (.cons 7
                    (.exit 1 [oT [v21],.op (.dm 0 1) [v22,oa [.op (.kp .mul .i64) [v1,oi 40],v2],v21]])
                    (.nil)))))
                  (.nil)))))
                (.exit 1 [oT [v6],.op (.dm 0 1) [v3,oa [.op (.kp .mul .i64) [v1,oi 40],v2],v6]]))))))))
         (.dead))
        (.dead))
       (.dead))
      (.dead))
     (.dead))
    (.dead))
   (.dead))
  (.dead))
 (.dead)
theorem Qs:cD Tryz.prog 100000 Qr [(61,none),(60,none),(242,none),(194,none),(241,none)] [D9,zo] KI=true:=by kernel_rfl
noncomputable def lu:LD:=.mk 159 (pos 3607141) (none) (aK 41 [(0,zT v0),(3,.pe [.bool] (pos 6) (.int .i64 0) 0),(6,zn v1),(7,zn v2),(22,zn (oL [v0])),(23,zn v3),(27,zn (oL [v0])),(28,zn v4)]) (aS bs 7 [(6,.vec true 259 [.bool] (.int .i64 1600) v5)]) 6 [pos 0,pos 1,pos 2,pos 3,pos 4,pos 5,pos 6]
 [⟨.exit 8,aK 41 [(0,zT v0),(3,.pe [.bool] (pos 6) (.int .i64 0) 0),(6,zn v1),(22,zn (oL [v0])),(23,zn v2)],aS bs 7 [(6,.vec true 259 [.bool] (.int .i64 1600) v3)],4,.bad,[pos 6],[pos 6]⟩]
 false []
noncomputable def iY:PT:=.split (oh [v4,oL [v0]])
 (.loop 0 [v0,v2,v4,v5]
  (.cons 1
  (.next [v0,v1,v2,v3,oa [v4,oi 1],v6])
  (.cons 2
  (.split v6
   (.next [v0,oa [v1,oi 1],v2,v3,oa [v4,oi 1],v7])
   (.next [v0,v1,v2,v3,oa [v4,oi 1],v7]))
  (.nil))))
 (.exit 0 [v0,v1,v3,v5])
theorem vC:bg Tryz.prog 100000 lu [] [Qr] iY=true:=by kernel_rfl
noncomputable def oM:LD:=.mk 159 (pos 14089) (none) (aK 41 [(0,zT v0),(3,.pe [.bool] (pos 6) (.int .i64 0) 0),(6,zn v1),(22,zn (oL [v0])),(23,zn v2)]) (aS bs 7 [(6,.vec true 259 [.bool] (.int .i64 1600) v3)]) 4 [pos 0,pos 1,pos 2,pos 3,pos 4,pos 5,pos 6]
 [⟨.exit 6,aK 41 [(0,zT v0),(3,.pe [.bool] (pos 6) (.int .i64 0) 0),(6,zn v1)],aS bs 7 [(6,.vec true 259 [.bool] (.int .i64 1600) v2)],3,.bad,[pos 6],[pos 6]⟩]
 false []
noncomputable def lx:PT:=.split (oh [v2,oL [v0]])
 (.loop 0 [v0,v1,v2,v2,.int .i64 0,v3]
  (.cons 4
  (.next [v4,v5,oa [v6,oi 1],v7])
  (.nil)))
 (.exit 0 [v0,v1,v3])
theorem zq:bg Tryz.prog 100000 oM [] [lu] lx=true:=by kernel_rfl
noncomputable def mJ:LD:=.mk 159 (pos 219) (none) (aK 41 [(0,zT v0),(3,.pe [.bool] (pos 6) (.int .i64 0) 0)]) (aS bs 7 [(6,.vec true 259 [.bool] (.int .i64 1600) v1)]) 2 [pos 0,pos 1,pos 2,pos 3,pos 4,pos 5,pos 6]
 [⟨.exit 4,aK 41 [(3,.pe [.bool] (pos 6) (.int .i64 0) 0)],aS bs 7 [(6,.vec true 259 [.bool] (.int .i64 1600) v0)],1,.bad,[pos 6],[pos 6]⟩]
 false []
noncomputable def vD:PT:=.loop 0 [v0,.int .i64 0,.int .i64 0,v1]
 (.cons 3
 (.split (ok [v3,oi 0])
  (.exit 0 [v4])
  (.next [v2,v4]))
 (.nil))
theorem Ea:bg Tryz.prog 100000 mJ [] [oM] vD=true:=by kernel_rfl
noncomputable def KJ:PT:=.call 0 [zT v0] (.agg [zn v3,zn v4]) 2
 (.split (ok [v3,oi 0])
  (.split (ok [v4,oi 0])
   (.call 1 [zT v0,zs v1,zs v1] (zb v5) 1
    (.split v5
     (.call 1 [zT v0,zs v2,zs v2] (zb v6) 1
      (.split v6
       (.loop 0 [v0,.int .i64 0,.op .rep [oi 1600,.bool false]]
        (.cons 2
        (.loop 1 [v7,v8]
         (.cons 1
         (.loop 2 [v0,v1,v2,v9]
          (.cons 1
          (.ret (.bool true))
          (.cons 2
          (.ret (zb v10))
          (.nil))))
         (.nil)))
        (.nil)))
       (.ret (.bool false))))
     (.ret (.bool false))))
   (.ret (.bool false)))
  (.ret (.bool false)))
theorem Qt:bt Tryz.prog bs 100000 112 [zT v0,zs v1,zs v2] [(43,none),(40,none)] [mI,mJ,B9] KJ 3=true:=by kernel_rfl
noncomputable def zr:LD:=.mk 152 (pos 25) (none) (aK 19 [(0,zM v0),(1,.func 107 [] []),(7,zn (oL [v0])),(8,zn v1)]) (aS bs 9 []) 2 [pos 0,pos 1,pos 2,pos 3,pos 4,pos 5]
 [⟨.ret,aK 19 [(4,zn v0)],aS bs 10 [],1,.bad,[],[]⟩,
  ⟨.exit 0,aK 19 [],aS bs 9 [],0,.bad,[],[]⟩]
 false []
noncomputable def nf:PT:=.split (oh [v1,oL [v0]])
 (.split (og [oi 0,v1])
  (.split (om [oL [oc 1 [oE [v0,v1]]],oi 8])
   (.exit 0 [v1])
   (.next [v0,oa [v1,oi 1]]))
  (.dead))
 (.exit 1 [])
theorem Hc:bg Tryz.prog 100000 zr [] [] nf=true:=by kernel_rfl
noncomputable def UO:LD:=.mk 62 .one none aN.none (aS bs 9 [(7,zk 120 4 [zT v0,zn v1,.an,.an])]) 2 [pos 0,pos 1,pos 2,pos 3,pos 4,pos 5,pos 7]
 [⟨.ret,aN.none,aS bs 9 [(7,zk 120 4 [zT v0,zn v1,.an,.an])],2,.int .i64 5,[pos 7],[pos 7]⟩,
  ⟨.ret,aN.none,aS bs 9 [(7,zk 120 4 [zT v0,zn v1,.an,.an])],2,.int .i64 8,[pos 7],[pos 7]⟩,
  ⟨.ret,aN.none,aS bs 9 [(7,zk 120 4 [zT v0,zn v1,.an,.an])],2,.int .i64 12,[pos 7],[pos 7]⟩,
  ⟨.ret,aN.none,aS bs 9 [(7,zk 120 4 [zT v0,zn v1,.an,.an])],2,.int .i64 0,[pos 7],[pos 7]⟩]
 true [zp 7]
noncomputable def OK:PT:=.split (og [oi 0,v1])
 (.split (oh [v1,oL [v0]])
  (.call 0 [zT v0,zs (oc 0 [oE [v0,v1]])] (.tuple [zn v2,zb v3]) 2
   (.call 1 [zs (oc 0 [oE [v0,v1]])] (zb v4) 1
    (.split (oT [v4])
     (.exit 0 [v0,v1])
     (.split (oh [v2,v1])
      (.exit 1 [v0,v1])
      (.split (om [oL [oc 2 [oE [v0,v1]]],oi 20])
       (.exit 2 [v0,v1])
       (.split (om [oL [oc 3 [oE [v0,v1]]],oi 20])
        (.exit 2 [v0,v1])
        (.loop 0 [oc 3 [oE [v0,v1]],.int .i64 0]
         (.cons 1
         (.split (oo [v5,oi 0])
          (.exit 2 [v0,v1])
          (.exit 3 [v0,v1]))
         (.cons 0
         (.exit 3 [v0,v1])
         (.nil))))))))))
  (.dead))
 (.dead)
theorem Ta:cD Tryz.prog 100000 UO [(106,none),(108,none)] [zr] OK=true:=by kernel_rfl
noncomputable def rE:LD:=.mk 43 (pos 31333) (none) (aK 47 [(0,zT v0),(2,zp 6),(3,zp 7),(5,.func 62 [zp 7] []),(20,.slice (pos 8) 0 3 true true),(21,.int .i64 3),(22,.int .i64 0),(27,zn (oL [v0])),(28,zn v1)]) (aS bs 9 [(6,zk 33 2 [.int .i64 0,.int .i64 0]),(7,zk 120 4 [zT v2,zn v3,.an,.an]),(8,zk 121 3 [.func 62 [zp 7] [],.func 63 [zp 7] [],.func 64 [zp 7] []])]) 4 [pos 0,pos 1,pos 2,pos 3,pos 4,pos 5,pos 6,pos 7,pos 8]
 [⟨.ret,aK 47 [(2,zp 6)],aS bs 9 [(6,zk 33 2 [.int .i64 5,zn v1]),(7,zk 120 4 [zT v0,zn v1,.an,.an]),(8,zk 121 3 [.func 62 [zp 7] [],.func 63 [zp 7] [],.func 64 [zp 7] []])],2,.bad,[pos 6,pos 7,pos 8],[pos 6,pos 7,pos 8]⟩,
  ⟨.ret,aK 47 [(2,zp 6)],aS bs 9 [(6,zk 33 2 [.int .i64 8,zn v1]),(7,zk 120 4 [zT v0,zn v1,.an,.an]),(8,zk 121 3 [.func 62 [zp 7] [],.func 63 [zp 7] [],.func 64 [zp 7] []])],2,.bad,[pos 6,pos 7,pos 8],[pos 6,pos 7,pos 8]⟩,
  ⟨.ret,aK 47 [(2,zp 6)],aS bs 9 [(6,zk 33 2 [.int .i64 12,zn v1]),(7,zk 120 4 [zT v0,zn v1,.an,.an]),(8,zk 121 3 [.func 62 [zp 7] [],.func 63 [zp 7] [],.func 64 [zp 7] []])],2,.bad,[pos 6,pos 7,pos 8],[pos 6,pos 7,pos 8]⟩,
  ⟨.exit 2,aK 47 [(0,zT v0),(2,zp 6),(3,zp 7),(20,.slice (pos 8) 0 3 true true),(21,.int .i64 3),(22,.int .i64 0)],aS bs 9 [(6,zk 33 2 [.int .i64 0,.int .i64 0]),(7,zk 120 4 [zT v1,zn v2,.an,.an]),(8,zk 121 3 [.func 62 [zp 7] [],.func 63 [zp 7] [],.func 64 [zp 7] []])],3,.bad,[pos 6,pos 7,pos 8],[pos 6,pos 7,pos 8]⟩]
 false []
noncomputable def mK:PT:=.split (oh [v1,oL [v0]])
 (.loop 0 [v2,v1]
  (.cons 2
  (.exit 0 [v4,v5])
  (.cons 2
  (.exit 1 [v4,v5])
  (.cons 2
  (.exit 2 [v4,v5])
  (.cons 2
  (.next [v0,oa [v1,oi 1],v4,v5])
  (.nil))))))
 (.exit 3 [v0,v2,v3])
theorem Ca:bg Tryz.prog 100000 rE [] [UO] mK=true:=by kernel_rfl
noncomputable def UP:LD:=.mk 63 .one none aN.none (aS bs 9 [(7,zk 120 4 [zT v0,zn v1,.an,.an])]) 2 [pos 0,pos 1,pos 2,pos 3,pos 4,pos 5,pos 7]
 [⟨.ret,aN.none,aS bs 9 [(7,zk 120 4 [zT v0,zn v1,.an,.an])],2,.int .i64 6,[pos 7],[pos 7]⟩,
  ⟨.ret,aN.none,aS bs 9 [(7,zk 120 4 [zT v0,zn v1,.an,.an])],2,.int .i64 9,[pos 7],[pos 7]⟩,
  ⟨.ret,aN.none,aS bs 9 [(7,zk 120 4 [zT v0,zn v1,.an,.an])],2,.int .i64 0,[pos 7],[pos 7]⟩]
 true [zp 7]
noncomputable def OL:PT:=.split (og [oi 0,v1])
 (.split (oh [v1,oL [v0]])
  (.call 0 [zT v0,zs (oc 1 [oE [v0,v1]])] (.tuple [zn v2,zb v3]) 2
   (.split (of [oc 1 [oE [v0,v1]],.str []])
    (.split (oT [v3])
     (.exit 0 [v0,v1])
     (.call 1 [zT v0,zs (oc 0 [oE [v0,v1]])] (zL v4) 1
      (.split (og [oi 0,ob [oL [v4],oi 1]])
       (.split (oh [ob [oL [v4],oi 1],oL [v4]])
        (.call 0 [zT v0,zs (oc 0 [oE [v4,ob [oL [v4],oi 1]]])] (.tuple [zn v5,zb v6]) 2
         (.split (og [oi 0,v5])
          (.split (oh [v5,oL [v0]])
           (.split (oe [oc 1 [oE [v0,v5]],oc 0 [oE [v0,v1]]])
            (.exit 1 [v0,v1])
            (.exit 2 [v0,v1]))
           (.dead))
          (.dead)))
        (.dead))
       (.dead))))
    (.call 1 [zT v0,zs (oc 0 [oE [v0,v1]])] (zL v4) 1
     (.split (og [oi 0,ob [oL [v4],oi 1]])
      (.split (oh [ob [oL [v4],oi 1],oL [v4]])
       (.call 0 [zT v0,zs (oc 0 [oE [v4,ob [oL [v4],oi 1]]])] (.tuple [zn v5,zb v6]) 2
        (.split (og [oi 0,v5])
         (.split (oh [v5,oL [v0]])
          (.split (oe [oc 1 [oE [v0,v5]],oc 0 [oE [v0,v1]]])
           (.exit 1 [v0,v1])
           (.exit 2 [v0,v1]))
          (.dead))
         (.dead)))
       (.dead))
      (.dead)))))
  (.dead))
 (.dead)
theorem Tb:cD Tryz.prog 100000 UP [(106,none),(61,none)] [] OL=true:=by kernel_rfl
noncomputable def mL:LD:=.mk 43 (pos 31333) (none) (aK 47 [(0,zT v0),(2,zp 6),(3,zp 7),(5,.func 63 [zp 7] []),(20,.slice (pos 8) 0 3 true true),(21,.int .i64 3),(22,.int .i64 1),(27,zn (oL [v0])),(28,zn v1)]) (aS bs 9 [(6,zk 33 2 [.int .i64 0,.int .i64 0]),(7,zk 120 4 [zT v2,zn v3,.an,.an]),(8,zk 121 3 [.func 62 [zp 7] [],.func 63 [zp 7] [],.func 64 [zp 7] []])]) 4 [pos 0,pos 1,pos 2,pos 3,pos 4,pos 5,pos 6,pos 7,pos 8]
 [⟨.ret,aK 47 [(2,zp 6)],aS bs 9 [(6,zk 33 2 [.int .i64 6,zn v1]),(7,zk 120 4 [zT v0,zn v1,.an,.an]),(8,zk 121 3 [.func 62 [zp 7] [],.func 63 [zp 7] [],.func 64 [zp 7] []])],2,.bad,[pos 6,pos 7,pos 8],[pos 6,pos 7,pos 8]⟩,
  ⟨.ret,aK 47 [(2,zp 6)],aS bs 9 [(6,zk 33 2 [.int .i64 9,zn v1]),(7,zk 120 4 [zT v0,zn v1,.an,.an]),(8,zk 121 3 [.func 62 [zp 7] [],.func 63 [zp 7] [],.func 64 [zp 7] []])],2,.bad,[pos 6,pos 7,pos 8],[pos 6,pos 7,pos 8]⟩,
  ⟨.exit 2,aK 47 [(0,zT v0),(2,zp 6),(3,zp 7),(20,.slice (pos 8) 0 3 true true),(21,.int .i64 3),(22,.int .i64 1)],aS bs 9 [(6,zk 33 2 [.int .i64 0,.int .i64 0]),(7,zk 120 4 [zT v1,zn v2,.an,.an]),(8,zk 121 3 [.func 62 [zp 7] [],.func 63 [zp 7] [],.func 64 [zp 7] []])],3,.bad,[pos 6,pos 7,pos 8],[pos 6,pos 7,pos 8]⟩]
 false []
noncomputable def jD:PT:=.split (oh [v1,oL [v0]])
 (.loop 0 [v2,v1]
  (.cons 2
  (.exit 0 [v4,v5])
  (.cons 2
  (.exit 1 [v4,v5])
  (.cons 2
  (.next [v0,oa [v1,oi 1],v4,v5])
  (.nil)))))
 (.exit 2 [v0,v2,v3])
theorem wF:bg Tryz.prog 100000 mL [] [UP] jD=true:=by kernel_rfl
noncomputable def Qu:LD:=.mk 110 .one none aN.none (aS bs 11 [(7,zk 120 4 [zT v2,zn v3,.vl [.str] (oL [v4]) (pos 10),.an]),(10,.vec true 9 [.str] (oL [v4]) v4)]) 5 [pos 0,pos 1,pos 2,pos 3,pos 4,pos 5,pos 7]
 [⟨.ret,aN.none,aS bs 12 [(7,zk 120 4 [zT v1,zn v2,.vl [.str] (oL [v0]) (pos 10),.an]),(10,.vec true 9 [.str] (oL [v0]) v0)],3,.int .i64 5,[pos 7,pos 10],[pos 7,pos 10]⟩,
  ⟨.ret,aN.none,aS bs 12 [(7,zk 120 4 [zT v2,zn v3,.vl [.str] (oL [v1]) (pos 10),.an]),(10,.vec true 9 [.str] (oL [v1]) v1)],4,zn v0,[pos 7,pos 10],[pos 7,pos 10]⟩]
 true [zp 7,.agg [zs v0,zs v1]]
noncomputable def KK:PT:=.split (oe [v0,.str []])
 (.exit 0 [v4,v2,v3])
 (.call 0 [zT v2,zs v0,zs v1] (zn v5) 1
  (.split (oj [v5,oi 0])
   (.exit 1 [v5,v4,v2,v3])
   (.split (og [oi 0,v3])
    (.split (oh [v3,oL [v2]])
     (.call 1 [zT v2,zs (oc 1 [oE [v2,v3]]),zs v0] (.tuple [zn v6,zb v7]) 2
      (.split v7
       (.exit 1 [.int .i64 8,v4,v2,v3])
       (.call 2 [zL v4,zs v0] (zb v8) 1
        (.split v8
         (.exit 1 [.int .i64 8,v4,v2,v3])
         (.split (og [oL [v4],oi 100000000])
          (.exit 1 [.int .i64 0,oS [v4,v0],v2,v3])
          (.dead))))))
     (.dead))
    (.dead))))
theorem Qv:cD Tryz.prog 100000 Qu [(153,none),(154,none),(60,none)] [] KK=true:=by kernel_rfl
noncomputable def Eb:LD:=.mk 64 (pos 57) (none) (aK 49 [(0,zp 7),(19,zV v0),(20,zn (oL [v0])),(21,zn v1)]) (aS bs 10 [(7,zk 120 4 [zT v2,zn v3,.vl [.str] (oL [v4]) (pos 9),.an]),(9,.vec true 9 [.str] (oL [v4]) v4)]) 5 [pos 0,pos 1,pos 2,pos 3,pos 4,pos 5,pos 7]
 [⟨.ret,aK 49 [(2,.int .i64 5)],aS bs 12 [(7,zk 120 4 [zT v0,zn v1,.vl [.str] (oL [v2]) (pos 11),.an]),(11,.vec true 9 [.str] (oL [v2]) v2)],3,.bad,[pos 7],[pos 7,pos 11]⟩,
  ⟨.ret,aK 49 [(2,zn v0)],aS bs 12 [(7,zk 120 4 [zT v1,zn v2,.vl [.str] (oL [v3]) (pos 11),.an]),(11,.vec true 9 [.str] (oL [v3]) v3)],4,.bad,[pos 7],[pos 7,pos 11]⟩,
  ⟨.exit 0,aK 49 [(0,zp 7)],aS bs 10 [(7,zk 120 4 [zT v1,zn v2,.vl [.str] (oL [v0]) (pos 9),.an]),(9,.vec true 9 [.str] (oL [v0]) v0)],3,.bad,[pos 7,pos 9],[pos 7,pos 9]⟩]
 false []
noncomputable def vE:PT:=.split (oh [v1,oL [v0]])
 (.split (og [oi 0,v1])
  (.loop 0 [oc 0 [oE [v0,v1]],oc 1 [oE [v0,v1]],v2,v3,v4]
   (.cons 3
   (.exit 0 [v6,v7,v5])
   (.cons 4
   (.split (oj [v5,oi 0])
    (.exit 1 [v5,v7,v8,v6])
    (.next [v0,oa [v1,oi 1],v7,v8,v6]))
   (.nil))))
  (.dead))
 (.exit 2 [v4,v2,v3])
theorem KL:bg Tryz.prog 100000 Eb [] [Qu] vE=true:=by kernel_rfl
noncomputable def vF:LD:=.mk 111 (pos 121) (none) (aK 140 [(0,zp 7),(3,zp 11),(5,.vl [.str] (oL [v0]) (pos 12)),(21,zV v1),(22,zn (oL [v1])),(23,zn v2)]) (aS bs 14 [(7,zk 120 4 [zT v3,zn v4,.vl [.str] (oL [v5]) (pos 9),.vl [.str] (oL [v6]) (pos 13)]),(9,.vec true 9 [.str] (oL [v5]) v5),(11,zk 80 3 [zs v7,zV v1,zs v8]),(12,.vec true 9 [.str] (oL [v0]) v0),(13,.vec true 9 [.str] (oL [v6]) v6)]) 9 [pos 0,pos 1,pos 2,pos 3,pos 4,pos 5,pos 7,pos 9,pos 11,pos 13]
 [⟨.ret,aK 140 [(4,.int .i64 5)],aS bs 15 [(7,zk 120 4 [zT v6,zn v7,.vl [.str] (oL [v5]) (pos 9),.vl [.str] (oL [v0]) (pos 13)]),(9,.vec true 9 [.str] (oL [v5]) v5),(11,zk 80 3 [zs v2,zV v3,zs v4]),(12,.vec true 9 [.str] (oL [v1]) v1),(13,.vec true 9 [.str] (oL [v0]) v0)],8,.bad,[pos 7,pos 9,pos 11,pos 12,pos 13],[pos 7,pos 9,pos 11,pos 12,pos 13]⟩,
  ⟨.ret,aK 140 [(4,zn v0)],aS bs 15 [(7,zk 120 4 [zT v7,zn v8,.vl [.str] (oL [v6]) (pos 9),.vl [.str] (oL [v1]) (pos 13)]),(9,.vec true 9 [.str] (oL [v6]) v6),(11,zk 80 3 [zs v3,zV v4,zs v5]),(12,.vec true 9 [.str] (oL [v2]) v2),(13,.vec true 9 [.str] (oL [v1]) v1)],9,.bad,[pos 7,pos 9,pos 11,pos 12,pos 13],[pos 7,pos 9,pos 11,pos 12,pos 13]⟩,
  ⟨.exit 0,aK 140 [(0,zp 7),(3,zp 11)],aS bs 14 [(7,zk 120 4 [zT v6,zn v7,.vl [.str] (oL [v2]) (pos 9),.vl [.str] (oL [v0]) (pos 13)]),(9,.vec true 9 [.str] (oL [v2]) v2),(11,zk 80 3 [zs v3,zV v4,zs v5]),(12,.vec true 9 [.str] (oL [v1]) v1),(13,.vec true 9 [.str] (oL [v0]) v0)],8,.bad,[pos 7,pos 9,pos 11,pos 12,pos 13],[pos 7,pos 9,pos 11,pos 12,pos 13]⟩]
 false []
noncomputable def oO:PT:=.split (oh [v2,oL [v1]])
 (.split (og [oi 0,v2])
  (.split (oe [oc 0 [oE [v1,v2]],.str []])
   (.exit 0 [v6,v0,v7,v1,v8,v5,v3,v4])
   (.call 0 [zT v3,zs (oc 0 [oE [v1,v2]]),zs (oc 1 [oE [v1,v2]])] (zn v9) 1
    (.split (oj [v9,oi 0])
     (.exit 1 [v9,v6,v0,v7,v1,v8,v5,v3,v4])
     (.call 1 [zL v0,zs (oc 0 [oE [v1,v2]])] (zb v10) 1
      (.split v10
       (.exit 1 [.int .i64 8,v6,v0,v7,v1,v8,v5,v3,v4])
       (.split (og [oL [v0],oi 100000000])
        (.next [oS [v0,oc 0 [oE [v1,v2]]],v1,oa [v2,oi 1],v3,v4,v5,v6,v7,v8])
        (.dead)))))))
  (.dead))
 (.exit 2 [v6,v0,v5,v7,v1,v8,v3,v4])
theorem Ec:bg Tryz.prog 100000 vF [(153,none),(60,none)] [] oO=true:=by kernel_rfl
noncomputable def zt:LD:=.mk 156 (pos 57) (none) (aK 32 [(1,zV v0),(2,.func 155 [] []),(15,zV v1),(16,zn (oL [v1])),(17,zn v2)]) (aS bs 16 []) 3 [pos 0,pos 1,pos 2,pos 3,pos 4,pos 5]
 [⟨.ret,aK 32 [(6,.bool false)],aS bs 20 [],0,.bad,[],[]⟩,
  ⟨.exit 0,aK 32 [],aS bs 16 [],0,.bad,[],[]⟩]
 false []
noncomputable def rF:PT:=.split (oh [v2,oL [v1]])
 (.split (og [oi 0,v2])
  (.split (oh [v2,oL [v0]])
   (.split (oT [oe [oc 1 [oE [v1,v2]],oc 1 [oE [v0,v2]]]])
    (.exit 0 [])
    (.next [v0,v1,oa [v2,oi 1]]))
   (.dead))
  (.dead))
 (.exit 1 [])
theorem Hd:bg Tryz.prog 100000 zt [] [] rF=true:=by kernel_rfl
noncomputable def Qw:LD:=.mk 111 .one none aN.none (aS bs 12 [(7,zk 120 4 [zT v3,zn v4,.vl [.str] (oL [v5]) (pos 9),.vl [.str] (oL [v6]) (pos 11)]),(9,.vec true 9 [.str] (oL [v5]) v5),(11,.vec true 9 [.str] (oL [v6]) v6)]) 7 [pos 0,pos 1,pos 2,pos 3,pos 4,pos 5,pos 7,pos 9]
 [⟨.ret,aN.none,aS bs 13 [(7,zk 120 4 [zT v2,zn v3,.vl [.str] (oL [v1]) (pos 9),.vl [.str] (oL [v0]) (pos 11)]),(9,.vec true 9 [.str] (oL [v1]) v1),(11,.vec true 9 [.str] (oL [v0]) v0)],4,.int .i64 5,[pos 7,pos 9,pos 11],[pos 7,pos 9,pos 11]⟩,
  ⟨.ret,aN.none,aS bs 14 [(7,zk 120 4 [zT v3,zn v4,.vl [.str] (oL [v2]) (pos 9),.vl [.str] (oL [v1]) (pos 11)]),(9,.vec true 9 [.str] (oL [v2]) v2),(11,.vec true 9 [.str] (oL [v1]) v1)],5,zn v0,[pos 7,pos 9,pos 11],[pos 7,pos 9,pos 11]⟩]
 true [zp 7,.agg [zs v0,zV v1,zs v2]]
noncomputable def KM:PT:=.call 0 [zs v0] (zb v7) 1
 (.split (oT [v7])
  (.exit 0 [v6,v5,v3,v4])
  (.loop 0 [oN,v1,.int .i64 0,v3,v4,v5,v6,v0,v2]
   (.cons 8
   (.exit 0 [v8,v13,v14,v15])
   (.cons 9
   (.exit 1 [v8,v9,v14,v15,v16])
   (.cons 8
   (.call 1 [zT v14,.str [],zs v13] (zn v16) 1
    (.split (oj [v16,oi 0])
     (.exit 1 [v16,v8,v10,v14,v15])
     (.split (og [oi 0,v15])
      (.split (oh [v15,oL [v14]])
       (.call 2 [zT v14,zs (oc 1 [oE [v14,v15]]),zs v11] (.tuple [zs v17,zb v18]) 2
        (.split v18
         (.exit 1 [.int .i64 8,v8,v10,v14,v15])
         (.call 3 [zL v10,zs v11] (zb v19) 1
          (.split v19
           (.exit 1 [.int .i64 8,v8,v10,v14,v15])
           (.call 3 [zL v8,zs v11] (zb v20) 1
            (.split v20
             (.exit 1 [.int .i64 8,v8,v10,v14,v15])
             (.split (og [oL [v8],oi 100000000])
              (.call 4 [zT v14,zs (oc 1 [oE [v14,v15]]),zs v11] (.tuple [.agg [zs v21,zV v22,zs v23],zs v24,zb v25]) 5
               (.split v25
                (.split (of [v23,v13])
                 (.exit 1 [.int .i64 10,oS [v8,v11],v10,v14,v15])
                 (.split (oj [oL [v22],oL [v12]])
                  (.exit 1 [.int .i64 10,oS [v8,v11],v10,v14,v15])
                  (.loop 1 [v12,v22,.int .i64 0]
                   (.cons 0
                   (.exit 1 [.int .i64 10,oS [v8,v11],v10,v14,v15])
                   (.cons 0
                   (.exit 1 [.int .i64 0,oS [v8,v11],v10,v14,v15])
                   (.nil))))))
                (.exit 1 [.int .i64 0,oS [v8,v11],v10,v14,v15])))
              (.dead))))))))
       (.dead))
      (.dead))))
   (.nil))))))
theorem Qx:cD Tryz.prog 100000 Qw [(143,none),(153,none),(141,none),(60,none),(142,none)] [vF,zt] KM=true:=by kernel_rfl
noncomputable def zu:LD:=.mk 64 (pos 121) (none) (aK 49 [(0,zp 7),(36,zM v0),(37,zn (oL [v0])),(38,zn v1)]) (aS bs 11 [(7,zk 120 4 [zT v2,zn v3,.vl [.str] (oL [v4]) (pos 9),.vl [.str] (oL [v5]) (pos 10)]),(9,.vec true 9 [.str] (oL [v4]) v4),(10,.vec true 9 [.str] (oL [v5]) v5)]) 6 [pos 0,pos 1,pos 2,pos 3,pos 4,pos 5,pos 7,pos 9]
 [⟨.ret,aK 49 [(2,.int .i64 5)],aS bs 13 [(7,zk 120 4 [zT v1,zn v2,.vl [.str] (oL [v0]) (pos 9),.vl [.str] (oL [v3]) (pos 12)]),(9,.vec true 9 [.str] (oL [v0]) v0),(12,.vec true 9 [.str] (oL [v3]) v3)],4,.bad,[pos 7,pos 9],[pos 7,pos 9,pos 12]⟩,
  ⟨.ret,aK 49 [(2,zn v0)],aS bs 13 [(7,zk 120 4 [zT v2,zn v3,.vl [.str] (oL [v1]) (pos 9),.vl [.str] (oL [v4]) (pos 12)]),(9,.vec true 9 [.str] (oL [v1]) v1),(12,.vec true 9 [.str] (oL [v4]) v4)],5,.bad,[pos 7,pos 9],[pos 7,pos 9,pos 12]⟩,
  ⟨.exit 2,aK 49 [],aS bs 11 [(7,zk 120 4 [zT v2,zn v3,.vl [.str] (oL [v1]) (pos 9),.vl [.str] (oL [v0]) (pos 10)]),(9,.vec true 9 [.str] (oL [v1]) v1),(10,.vec true 9 [.str] (oL [v0]) v0)],4,.bad,[pos 7,pos 9,pos 10],[pos 7,pos 9,pos 10]⟩]
 false []
noncomputable def rG:PT:=.split (oh [v1,oL [v0]])
 (.split (og [oi 0,v1])
  (.loop 0 [oc 0 [oE [v0,v1]],oc 1 [oE [v0,v1]],oc 2 [oE [v0,v1]],v2,v3,v4,v5]
   (.cons 4
   (.exit 0 [v7,v8,v9,v6])
   (.cons 5
   (.split (oj [v6,oi 0])
    (.exit 1 [v6,v8,v9,v10,v7])
    (.next [v0,oa [v1,oi 1],v9,v10,v8,v7]))
   (.nil))))
  (.dead))
 (.exit 2 [v5,v4,v2,v3])
theorem He:bg Tryz.prog 100000 zu [] [Qw] rG=true:=by kernel_rfl
noncomputable def UQ:LD:=.mk 64 .one none aN.none (aS bs 11 [(7,zk 120 4 [zT v0,zn v1,.vl [.str] (oL [v2]) (pos 9),.vl [.str] (oL [v3]) (pos 10)]),(9,.vec true 9 [.str] (oL [v2]) v2),(10,.vec true 9 [.str] (oL [v3]) v3)]) 4 [pos 0,pos 1,pos 2,pos 3,pos 4,pos 5,pos 7,pos 9,pos 10]
 [⟨.ret,aN.none,aS bs 12 [(7,zk 120 4 [zT v2,zn v3,.vl [.str] (oL [v4]) (pos 11),.an]),(9,.vec true 9 [.str] (oL [v1]) v1),(10,.vec true 9 [.str] (oL [v0]) v0),(11,.vec true 9 [.str] (oL [v4]) v4)],5,.int .i64 5,[pos 7,pos 9,pos 10],[pos 7,pos 9,pos 10,pos 11]⟩,
  ⟨.ret,aN.none,aS bs 12 [(7,zk 120 4 [zT v3,zn v4,.vl [.str] (oL [v5]) (pos 11),.an]),(9,.vec true 9 [.str] (oL [v2]) v2),(10,.vec true 9 [.str] (oL [v1]) v1),(11,.vec true 9 [.str] (oL [v5]) v5)],6,zn v0,[pos 7,pos 9,pos 10],[pos 7,pos 9,pos 10,pos 11]⟩,
  ⟨.ret,aN.none,aS bs 13 [(7,zk 120 4 [zT v2,zn v3,.vl [.str] (oL [v4]) (pos 11),.vl [.str] (oL [v5]) (pos 12)]),(9,.vec true 9 [.str] (oL [v1]) v1),(10,.vec true 9 [.str] (oL [v0]) v0),(11,.vec true 9 [.str] (oL [v4]) v4),(12,.vec true 9 [.str] (oL [v5]) v5)],6,.int .i64 5,[pos 7,pos 9,pos 10],[pos 7,pos 9,pos 10,pos 11,pos 12]⟩,
  ⟨.ret,aN.none,aS bs 13 [(7,zk 120 4 [zT v3,zn v4,.vl [.str] (oL [v5]) (pos 11),.vl [.str] (oL [v6]) (pos 12)]),(9,.vec true 9 [.str] (oL [v2]) v2),(10,.vec true 9 [.str] (oL [v1]) v1),(11,.vec true 9 [.str] (oL [v5]) v5),(12,.vec true 9 [.str] (oL [v6]) v6)],7,zn v0,[pos 7,pos 9,pos 10],[pos 7,pos 9,pos 10,pos 11,pos 12]⟩]
 true [zp 7]
noncomputable def OM:PT:=.split (og [oi 0,v1])
 (.split (oh [v1,oL [v0]])
  (.loop 0 [oc 2 [oE [v0,v1]],.int .i64 0,v0,v1,oN]
   (.cons 3
   (.exit 0 [v3,v2,v4,v5,v6])
   (.cons 4
   (.exit 1 [v4,v3,v2,v5,v6,v7])
   (.cons 3
   (.split (og [oi 0,v6])
    (.split (oh [v6,oL [v5]])
     (.loop 1 [oc 3 [oE [v5,v6]],.int .i64 0,v5,v6,v4,oN]
      (.cons 4
      (.exit 2 [v3,v2,v8,v9,v7,v10])
      (.cons 5
      (.exit 3 [v7,v3,v2,v9,v10,v8,v11])
      (.cons 4
      (.exit 3 [.int .i64 0,v3,v2,v9,v10,v8,v7])
      (.nil)))))
     (.dead))
    (.dead))
   (.nil)))))
  (.dead))
 (.dead)
theorem Tc:cD Tryz.prog 100000 UQ [] [Eb,zu] OM=true:=by kernel_rfl
noncomputable def mM:LD:=.mk 43 (pos 31333) (none) (aK 47 [(0,zT v0),(2,zp 6),(3,zp 7),(5,.func 64 [zp 7] []),(20,.slice (pos 8) 0 3 true true),(21,.int .i64 3),(22,.int .i64 2),(27,zn (oL [v0])),(28,zn v1)]) (aS bs 11 [(6,zk 33 2 [.int .i64 0,.int .i64 0]),(7,zk 120 4 [zT v2,zn v3,.vl [.str] (oL [v4]) (pos 9),.vl [.str] (oL [v5]) (pos 10)]),(8,zk 121 3 [.func 62 [zp 7] [],.func 63 [zp 7] [],.func 64 [zp 7] []]),(9,.vec true 9 [.str] (oL [v4]) v4),(10,.vec true 9 [.str] (oL [v5]) v5)]) 6 [pos 0,pos 1,pos 2,pos 3,pos 4,pos 5,pos 6,pos 7,pos 8]
 [⟨.ret,aK 47 [(2,zp 6)],aS bs 12 [(6,zk 33 2 [.int .i64 5,zn v3]),(7,zk 120 4 [zT v2,zn v3,.vl [.str] (oL [v4]) (pos 11),.an]),(8,zk 121 3 [.func 62 [zp 7] [],.func 63 [zp 7] [],.func 64 [zp 7] []]),(9,.vec true 9 [.str] (oL [v1]) v1),(10,.vec true 9 [.str] (oL [v0]) v0),(11,.vec true 9 [.str] (oL [v4]) v4)],5,.bad,[pos 6,pos 7,pos 8,pos 9,pos 10],[pos 6,pos 7,pos 8,pos 9,pos 10,pos 11]⟩,
  ⟨.ret,aK 47 [(2,zp 6)],aS bs 12 [(6,zk 33 2 [zn v5,zn v3]),(7,zk 120 4 [zT v2,zn v3,.vl [.str] (oL [v4]) (pos 11),.an]),(8,zk 121 3 [.func 62 [zp 7] [],.func 63 [zp 7] [],.func 64 [zp 7] []]),(9,.vec true 9 [.str] (oL [v1]) v1),(10,.vec true 9 [.str] (oL [v0]) v0),(11,.vec true 9 [.str] (oL [v4]) v4)],6,.bad,[pos 6,pos 7,pos 8,pos 9,pos 10],[pos 6,pos 7,pos 8,pos 9,pos 10,pos 11]⟩,
  ⟨.ret,aK 47 [(2,zp 6)],aS bs 13 [(6,zk 33 2 [.int .i64 5,zn v3]),(7,zk 120 4 [zT v2,zn v3,.vl [.str] (oL [v4]) (pos 11),.vl [.str] (oL [v5]) (pos 12)]),(8,zk 121 3 [.func 62 [zp 7] [],.func 63 [zp 7] [],.func 64 [zp 7] []]),(9,.vec true 9 [.str] (oL [v1]) v1),(10,.vec true 9 [.str] (oL [v0]) v0),(11,.vec true 9 [.str] (oL [v4]) v4),(12,.vec true 9 [.str] (oL [v5]) v5)],6,.bad,[pos 6,pos 7,pos 8,pos 9,pos 10],[pos 6,pos 7,pos 8,pos 9,pos 10,pos 11,pos 12]⟩,
  ⟨.ret,aK 47 [(2,zp 6)],aS bs 13 [(6,zk 33 2 [zn v6,zn v3]),(7,zk 120 4 [zT v2,zn v3,.vl [.str] (oL [v4]) (pos 11),.vl [.str] (oL [v5]) (pos 12)]),(8,zk 121 3 [.func 62 [zp 7] [],.func 63 [zp 7] [],.func 64 [zp 7] []]),(9,.vec true 9 [.str] (oL [v1]) v1),(10,.vec true 9 [.str] (oL [v0]) v0),(11,.vec true 9 [.str] (oL [v4]) v4),(12,.vec true 9 [.str] (oL [v5]) v5)],7,.bad,[pos 6,pos 7,pos 8,pos 9,pos 10],[pos 6,pos 7,pos 8,pos 9,pos 10,pos 11,pos 12]⟩,
  ⟨.exit 2,aK 47 [(0,zT v0),(2,zp 6),(3,zp 7),(20,.slice (pos 8) 0 3 true true),(21,.int .i64 3),(22,.int .i64 2)],aS bs 11 [(6,zk 33 2 [.int .i64 0,.int .i64 0]),(7,zk 120 4 [zT v3,zn v4,.vl [.str] (oL [v2]) (pos 9),.vl [.str] (oL [v1]) (pos 10)]),(8,zk 121 3 [.func 62 [zp 7] [],.func 63 [zp 7] [],.func 64 [zp 7] []]),(9,.vec true 9 [.str] (oL [v2]) v2),(10,.vec true 9 [.str] (oL [v1]) v1)],5,.bad,[pos 6,pos 7,pos 8,pos 9,pos 10],[pos 6,pos 7,pos 8,pos 9,pos 10]⟩]
 false []
noncomputable def jE:PT:=.split (oh [v1,oL [v0]])
 (.loop 0 [v2,v1,v4,v5]
  (.cons 5
  (.exit 0 [v6,v7,v8,v9,v10])
  (.cons 6
  (.split (oj [v6,oi 0])
   (.exit 1 [v7,v8,v9,v10,v11,v6])
   (.next [v0,oa [v1,oi 1],v9,v10,v11,oN]))
  (.cons 6
  (.exit 2 [v6,v7,v8,v9,v10,v11])
  (.cons 7
  (.split (oj [v6,oi 0])
   (.exit 3 [v7,v8,v9,v10,v11,v12,v6])
   (.next [v0,oa [v1,oi 1],v9,v10,v11,v12]))
  (.nil))))))
 (.exit 4 [v0,v5,v4,v2,v3])
theorem wG:bg Tryz.prog 100000 mM [] [UQ] jE=true:=by kernel_rfl
noncomputable def ON:PT:=.split (om [oL [v0],oi 40])
 (.ret (.agg [.int .i64 12,.int .i64 40]))
 (.loop 0 [v0,.int .i64 0,v0,.int .i64 0]
  (.cons 2
  (.ret (.agg [.int .i64 5,zn v2]))
  (.cons 2
  (.ret (.agg [.int .i64 8,zn v2]))
  (.cons 2
  (.ret (.agg [.int .i64 12,zn v2]))
  (.cons 3
  (.loop 1 [v1,.int .i64 0,v2,v3]
   (.cons 2
   (.ret (.agg [.int .i64 6,zn v5]))
   (.cons 2
   (.ret (.agg [.int .i64 9,zn v5]))
   (.cons 3
   (.loop 2 [v4,.int .i64 0,v5,v6,oN,oN]
    (.cons 5
    (.ret (.agg [.int .i64 5,zn v10]))
    (.cons 6
    (.ret (.agg [zn v12,zn v10]))
    (.cons 6
    (.ret (.agg [.int .i64 5,zn v10]))
    (.cons 7
    (.ret (.agg [zn v13,zn v10]))
    (.cons 5
    (.ret (.agg [.int .i64 0,.int .i64 0]))
    (.nil)))))))
   (.nil)))))
  (.nil))))))
theorem Td:bt Tryz.prog bs 100000 43 [zT v0] [] [rE,mL,mM] ON 1=true:=by kernel_rfl
end
end Go.Proofs.Sai
