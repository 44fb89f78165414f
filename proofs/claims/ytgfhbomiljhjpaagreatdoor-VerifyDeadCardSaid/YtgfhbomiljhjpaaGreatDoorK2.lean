/- Part K2 of the proof of VerifyDead: texts of the interpreter and what it shows, under short names. No condition. -/
import Derived.Test.YtgfhbomiljhjpaaGreatDoorJ
namespace Go.Proofs.Sai
section
open Go
set_option maxRecDepth 100000
noncomputable def OO:PT:=.split (ok [v5,oi 1])
 (.split (oj [v7,oi 0])
  (.ret (.tuple [.agg [z0 (oN),.str []],.int .i64 2]))
  (.split (oj [v8,oi 0])
   (.ret (.tuple [.agg [z0 (oN),.str []],.int .i64 2]))
   (.call 0 [.agg [zT v0,zS v1,zL v2,zF v3,zn v4],.int .i64 1,zn v6] (zb v9) 1
    (.split (oT [v9])
     (.ret (.tuple [.agg [z0 (oN),.str []],.int .i64 3]))
     (.call 0 [.agg [zT v0,zS v1,zL v2,zF v3,zn v4],.int .i64 0,zn v7] (zb v10) 1
      (.split (oT [v10])
       (.ret (.tuple [.agg [z0 (oN),.str []],.int .i64 3]))
       (.call 0 [.agg [zT v0,zS v1,zL v2,zF v3,zn v4],.int .i64 0,zn v8] (zb v11) 1
        (.split (oT [v11])
         (.ret (.tuple [.agg [z0 (oN),.str []],.int .i64 3]))
         (.ret (.tuple [.agg [z0 (oN),.str [105,110,116]],.int .i64 0]))))))))))
 (.split (ok [v5,oi 2])
  (.split (oj [v7,oi 0])
   (.ret (.tuple [.agg [z0 (oN),.str []],.int .i64 2]))
   (.split (oj [v8,oi 0])
    (.ret (.tuple [.agg [z0 (oN),.str []],.int .i64 2]))
    (.call 0 [.agg [zT v0,zS v1,zL v2,zF v3,zn v4],.int .i64 2,zn v6] (zb v9) 1
     (.split (oT [v9])
      (.ret (.tuple [.agg [z0 (oN),.str []],.int .i64 3]))
      (.call 0 [.agg [zT v0,zS v1,zL v2,zF v3,zn v4],.int .i64 0,zn v7] (zb v10) 1
       (.split (oT [v10])
        (.ret (.tuple [.agg [z0 (oN),.str []],.int .i64 3]))
        (.call 0 [.agg [zT v0,zS v1,zL v2,zF v3,zn v4],.int .i64 0,zn v8] (zb v11) 1
         (.split (oT [v11])
          (.ret (.tuple [.agg [z0 (oN),.str []],.int .i64 3]))
          (.ret (.tuple [.agg [z0 (oN),.str [114,101,97,108]],.int .i64 0]))))))))))
  (.split (ok [v5,oi 3])
   (.split (oj [v7,oi 0])
    (.ret (.tuple [.agg [z0 (oN),.str []],.int .i64 2]))
    (.split (oj [v8,oi 0])
     (.ret (.tuple [.agg [z0 (oN),.str []],.int .i64 2]))
     (.call 0 [.agg [zT v0,zS v1,zL v2,zF v3,zn v4],.int .i64 3,zn v6] (zb v9) 1
      (.split (oT [v9])
       (.ret (.tuple [.agg [z0 (oN),.str []],.int .i64 3]))
       (.call 0 [.agg [zT v0,zS v1,zL v2,zF v3,zn v4],.int .i64 0,zn v7] (zb v10) 1
        (.split (oT [v10])
         (.ret (.tuple [.agg [z0 (oN),.str []],.int .i64 3]))
         (.call 0 [.agg [zT v0,zS v1,zL v2,zF v3,zn v4],.int .i64 0,zn v8] (zb v11) 1
          (.split (oT [v11])
           (.ret (.tuple [.agg [z0 (oN),.str []],.int .i64 3]))
           (.ret (.tuple [.agg [z0 (oN),.str [98,111,111,108]],.int .i64 0]))))))))))
   (.split (ok [v5,oi 4])
    (.split (oj [v7,oi 0])
     (.ret (.tuple [.agg [z0 (oN),.str []],.int .i64 2]))
     (.split (oj [v8,oi 0])
      (.ret (.tuple [.agg [z0 (oN),.str []],.int .i64 2]))
      (.call 0 [.agg [zT v0,zS v1,zL v2,zF v3,zn v4],.int .i64 4,zn v6] (zb v9) 1
       (.split (oT [v9])
        (.ret (.tuple [.agg [z0 (oN),.str []],.int .i64 3]))
        (.call 0 [.agg [zT v0,zS v1,zL v2,zF v3,zn v4],.int .i64 0,zn v7] (zb v10) 1
         (.split (oT [v10])
          (.ret (.tuple [.agg [z0 (oN),.str []],.int .i64 3]))
          (.call 0 [.agg [zT v0,zS v1,zL v2,zF v3,zn v4],.int .i64 0,zn v8] (zb v11) 1
           (.split (oT [v11])
            (.ret (.tuple [.agg [z0 (oN),.str []],.int .i64 3]))
            (.ret (.tuple [.agg [z0 (oN),.str [115,116,114]],.int .i64 0]))))))))))
    (.split (ok [v5,oi 5])
     (.split (oj [v6,oi 0])
      (.ret (.tuple [.agg [z0 (oN),.str []],.int .i64 2]))
      (.split (oj [v7,oi 0])
       (.ret (.tuple [.agg [z0 (oN),.str []],.int .i64 2]))
       (.split (oj [v8,oi 0])
        (.ret (.tuple [.agg [z0 (oN),.str []],.int .i64 2]))
        (.call 0 [.agg [zT v0,zS v1,zL v2,zF v3,zn v4],.int .i64 0,zn v6] (zb v9) 1
         (.split (oT [v9])
          (.ret (.tuple [.agg [z0 (oN),.str []],.int .i64 3]))
          (.call 0 [.agg [zT v0,zS v1,zL v2,zF v3,zn v4],.int .i64 0,zn v7] (zb v10) 1
           (.split (oT [v10])
            (.ret (.tuple [.agg [z0 (oN),.str []],.int .i64 3]))
            (.call 0 [.agg [zT v0,zS v1,zL v2,zF v3,zn v4],.int .i64 0,zn v8] (zb v11) 1
             (.split (oT [v11])
              (.ret (.tuple [.agg [z0 (oN),.str []],.int .i64 3]))
              (.ret (.tuple [.agg [z0 (oN),.str [117,110,105,116]],.int .i64 0])))))))))))
     (.split (ok [v5,oi 6])
      (.split (oj [v7,oi 0])
       (.ret (.tuple [.agg [z0 (oN),.str []],.int .i64 2]))
       (.split (oj [v8,oi 0])
        (.ret (.tuple [.agg [z0 (oN),.str []],.int .i64 2]))
        (.call 0 [.agg [zT v0,zS v1,zL v2,zF v3,zn v4],.int .i64 4,zn v6] (zb v9) 1
         (.split (oT [v9])
          (.ret (.tuple [.agg [z0 (oN),.str []],.int .i64 3]))
          (.call 0 [.agg [zT v0,zS v1,zL v2,zF v3,zn v4],.int .i64 0,zn v7] (zb v10) 1
           (.split (oT [v10])
            (.ret (.tuple [.agg [z0 (oN),.str []],.int .i64 3]))
            (.call 0 [.agg [zT v0,zS v1,zL v2,zF v3,zn v4],.int .i64 0,zn v8] (zb v11) 1
             (.split (oT [v11])
              (.ret (.tuple [.agg [z0 (oN),.str []],.int .i64 3]))
              (.call 1 [.agg [zT v0,zS v1,zL v2,zF v3,zn v4],.agg [zn v5,zn v6,zn v7,zn v8]] (.tuple [.agg [zL v12,zs v13],zn v14]) 3
               (.ret (.tuple [.agg [zL v12,zs v13],zn v14])))))))))))
      (.split (ok [v5,oi 7])
       (.split (oj [v6,oi 0])
        (.ret (.tuple [.agg [z0 (oN),.str []],.int .i64 2]))
        (.split (oj [v7,oi 0])
         (.ret (.tuple [.agg [z0 (oN),.str []],.int .i64 2]))
         (.split (oj [v8,oi 0])
          (.ret (.tuple [.agg [z0 (oN),.str []],.int .i64 2]))
          (.call 0 [.agg [zT v0,zS v1,zL v2,zF v3,zn v4],.int .i64 0,zn v6] (zb v9) 1
           (.split (oT [v9])
            (.ret (.tuple [.agg [z0 (oN),.str []],.int .i64 3]))
            (.call 0 [.agg [zT v0,zS v1,zL v2,zF v3,zn v4],.int .i64 0,zn v7] (zb v10) 1
             (.split (oT [v10])
              (.ret (.tuple [.agg [z0 (oN),.str []],.int .i64 3]))
              (.call 0 [.agg [zT v0,zS v1,zL v2,zF v3,zn v4],.int .i64 0,zn v8] (zb v11) 1
               (.split (oT [v11])
                (.ret (.tuple [.agg [z0 (oN),.str []],.int .i64 3]))
                (.call 2 [.agg [zT v0,zS v1,zL v2,zF v3,zn v4],.agg [zn v5,zn v6,zn v7,zn v8]] (.tuple [.agg [zL v12,zs v13],zn v14]) 3
                 (.ret (.tuple [.agg [zL v12,zs v13],zn v14]))))))))))))
       (.split (ok [v5,oi 8])
        (.split (oj [v7,oi 0])
         (.ret (.tuple [.agg [z0 (oN),.str []],.int .i64 2]))
         (.split (oj [v8,oi 0])
          (.ret (.tuple [.agg [z0 (oN),.str []],.int .i64 2]))
          (.call 0 [.agg [zT v0,zS v1,zL v2,zF v3,zn v4],.int .i64 5,zn v6] (zb v9) 1
           (.split (oT [v9])
            (.ret (.tuple [.agg [z0 (oN),.str []],.int .i64 3]))
            (.call 0 [.agg [zT v0,zS v1,zL v2,zF v3,zn v4],.int .i64 0,zn v7] (zb v10) 1
             (.split (oT [v10])
              (.ret (.tuple [.agg [z0 (oN),.str []],.int .i64 3]))
              (.call 0 [.agg [zT v0,zS v1,zL v2,zF v3,zn v4],.int .i64 0,zn v8] (zb v11) 1
               (.split (oT [v11])
                (.ret (.tuple [.agg [z0 (oN),.str []],.int .i64 3]))
                (.call 3 [.agg [zT v0,zS v1,zL v2,zF v3,zn v4],.agg [zn v5,zn v6,zn v7,zn v8]] (.tuple [.agg [zL v12,zs v13],zn v14]) 3
                 (.ret (.tuple [.agg [zL v12,zs v13],zn v14])))))))))))
        (.split (ok [v5,oi 9])
         (.split (oj [v7,oi 0])
          (.ret (.tuple [.agg [z0 (oN),.str []],.int .i64 2]))
          (.split (oj [v8,oi 0])
           (.ret (.tuple [.agg [z0 (oN),.str []],.int .i64 2]))
           (.call 0 [.agg [zT v0,zS v1,zL v2,zF v3,zn v4],.int .i64 5,zn v6] (zb v9) 1
            (.split (oT [v9])
             (.ret (.tuple [.agg [z0 (oN),.str []],.int .i64 3]))
             (.call 0 [.agg [zT v0,zS v1,zL v2,zF v3,zn v4],.int .i64 0,zn v7] (zb v10) 1
              (.split (oT [v10])
               (.ret (.tuple [.agg [z0 (oN),.str []],.int .i64 3]))
               (.call 0 [.agg [zT v0,zS v1,zL v2,zF v3,zn v4],.int .i64 0,zn v8] (zb v11) 1
                (.split (oT [v11])
                 (.ret (.tuple [.agg [z0 (oN),.str []],.int .i64 3]))
                 (.call 4 [.agg [zT v0,zS v1,zL v2,zF v3,zn v4],.agg [zn v5,zn v6,zn v7,zn v8]] (.tuple [.agg [zL v12,zs v13],zn v14]) 3
                  (.ret (.tuple [.agg [zL v12,zs v13],zn v14])))))))))))
         (.split (ok [v5,oi 10])
          (.split (oj [v6,oi 0])
           (.ret (.tuple [.agg [z0 (oN),.str []],.int .i64 2]))
           (.split (oj [v7,oi 0])
            (.ret (.tuple [.agg [z0 (oN),.str []],.int .i64 2]))
            (.split (oj [v8,oi 0])
             (.ret (.tuple [.agg [z0 (oN),.str []],.int .i64 2]))
             (.call 0 [.agg [zT v0,zS v1,zL v2,zF v3,zn v4],.int .i64 0,zn v6] (zb v9) 1
              (.split (oT [v9])
               (.ret (.tuple [.agg [z0 (oN),.str []],.int .i64 3]))
               (.call 0 [.agg [zT v0,zS v1,zL v2,zF v3,zn v4],.int .i64 0,zn v7] (zb v10) 1
                (.split (oT [v10])
                 (.ret (.tuple [.agg [z0 (oN),.str []],.int .i64 3]))
                 (.call 0 [.agg [zT v0,zS v1,zL v2,zF v3,zn v4],.int .i64 0,zn v8] (zb v11) 1
                  (.split (oT [v11])
                   (.ret (.tuple [.agg [z0 (oN),.str []],.int .i64 3]))
                   (.ret (.tuple [.agg [zL (oS [oN,.str [42]]),.str []],.int .i64 0])))))))))))
          (.split (ok [v5,oi 11])
           (.split (oj [v7,oi 0])
            (.ret (.tuple [.agg [z0 (oN),.str []],.int .i64 2]))
            (.split (oj [v8,oi 0])
             (.ret (.tuple [.agg [z0 (oN),.str []],.int .i64 2]))
             (.call 0 [.agg [zT v0,zS v1,zL v2,zF v3,zn v4],.int .i64 6,zn v6] (zb v9) 1
              (.split (oT [v9])
               (.ret (.tuple [.agg [z0 (oN),.str []],.int .i64 3]))
               (.call 0 [.agg [zT v0,zS v1,zL v2,zF v3,zn v4],.int .i64 0,zn v7] (zb v10) 1
                (.split (oT [v10])
                 (.ret (.tuple [.agg [z0 (oN),.str []],.int .i64 3]))
                 (.call 0 [.agg [zT v0,zS v1,zL v2,zF v3,zn v4],.int .i64 0,zn v8] (zb v11) 1
                  (.split (oT [v11])
                   (.ret (.tuple [.agg [z0 (oN),.str []],.int .i64 3]))
                   (.ret (.tuple [.agg [z0 (oN),.str []],.int .i64 0]))))))))))
           (.split (ok [v5,oi 12])
            (.split (oj [v7,oi 0])
             (.ret (.tuple [.agg [z0 (oN),.str []],.int .i64 2]))
             (.split (oj [v8,oi 0])
              (.ret (.tuple [.agg [z0 (oN),.str []],.int .i64 2]))
              (.call 0 [.agg [zT v0,zS v1,zL v2,zF v3,zn v4],.int .i64 6,zn v6] (zb v9) 1
               (.split (oT [v9])
                (.ret (.tuple [.agg [z0 (oN),.str []],.int .i64 3]))
                (.call 0 [.agg [zT v0,zS v1,zL v2,zF v3,zn v4],.int .i64 0,zn v7] (zb v10) 1
                 (.split (oT [v10])
                  (.ret (.tuple [.agg [z0 (oN),.str []],.int .i64 3]))
                  (.call 0 [.agg [zT v0,zS v1,zL v2,zF v3,zn v4],.int .i64 0,zn v8] (zb v11) 1
                   (.split (oT [v11])
                    (.ret (.tuple [.agg [z0 (oN),.str []],.int .i64 3]))
                    (.ret (.tuple [.agg [zL (oS [oN,.str [98,111,111,108]]),.str []],.int .i64 0]))))))))))
            (.split (ok [v5,oi 13])
             (.split (oj [v8,oi 0])
              (.ret (.tuple [.agg [z0 (oN),.str []],.int .i64 2]))
              (.call 0 [.agg [zT v0,zS v1,zL v2,zF v3,zn v4],.int .i64 7,zn v6] (zb v9) 1
               (.split (oT [v9])
                (.ret (.tuple [.agg [z0 (oN),.str []],.int .i64 3]))
                (.call 0 [.agg [zT v0,zS v1,zL v2,zF v3,zn v4],.int .i64 9,zn v7] (zb v10) 1
                 (.split (oT [v10])
                  (.ret (.tuple [.agg [z0 (oN),.str []],.int .i64 3]))
                  (.call 0 [.agg [zT v0,zS v1,zL v2,zF v3,zn v4],.int .i64 0,zn v8] (zb v11) 1
                   (.split (oT [v11])
                    (.ret (.tuple [.agg [z0 (oN),.str []],.int .i64 3]))
                    (.call 5 [.agg [zT v0,zS v1,zL v2,zF v3,zn v4],.agg [zn v5,zn v6,zn v7,zn v8]] (.tuple [.agg [zL v12,zs v13],zn v14]) 3
                     (.ret (.tuple [.agg [zL v12,zs v13],zn v14]))))))))))
             (.split (ok [v5,oi 14])
              (.split (oj [v8,oi 0])
               (.ret (.tuple [.agg [z0 (oN),.str []],.int .i64 2]))
               (.call 0 [.agg [zT v0,zS v1,zL v2,zF v3,zn v4],.int .i64 8,zn v6] (zb v9) 1
                (.split (oT [v9])
                 (.ret (.tuple [.agg [z0 (oN),.str []],.int .i64 3]))
                 (.call 0 [.agg [zT v0,zS v1,zL v2,zF v3,zn v4],.int .i64 12,zn v7] (zb v10) 1
                  (.split (oT [v10])
                   (.ret (.tuple [.agg [z0 (oN),.str []],.int .i64 3]))
                   (.call 0 [.agg [zT v0,zS v1,zL v2,zF v3,zn v4],.int .i64 0,zn v8] (zb v11) 1
                    (.split (oT [v11])
                     (.ret (.tuple [.agg [z0 (oN),.str []],.int .i64 3]))
                     (.call 6 [.agg [zT v0,zS v1,zL v2,zF v3,zn v4],.agg [zn v5,zn v6,zn v7,zn v8]] (.tuple [.agg [zL v12,zs v13],zn v14]) 3
                      (.ret (.tuple [.agg [zL v12,zs v13],zn v14]))))))))))
              (.split (ok [v5,oi 15])
               (.split (oj [v8,oi 0])
                (.ret (.tuple [.agg [z0 (oN),.str []],.int .i64 2]))
                (.call 0 [.agg [zT v0,zS v1,zL v2,zF v3,zn v4],.int .i64 10,zn v6] (zb v9) 1
                 (.split (oT [v9])
                  (.ret (.tuple [.agg [z0 (oN),.str []],.int .i64 3]))
                  (.call 0 [.agg [zT v0,zS v1,zL v2,zF v3,zn v4],.int .i64 9,zn v7] (zb v10) 1
                   (.split (oT [v10])
                    (.ret (.tuple [.agg [z0 (oN),.str []],.int .i64 3]))
                    (.call 0 [.agg [zT v0,zS v1,zL v2,zF v3,zn v4],.int .i64 0,zn v8] (zb v11) 1
                     (.split (oT [v11])
                      (.ret (.tuple [.agg [z0 (oN),.str []],.int .i64 3]))
                      (.call 7 [.agg [zT v0,zS v1,zL v2,zF v3,zn v4],.agg [zn v5,zn v6,zn v7,zn v8]] (.tuple [.agg [zL v12,zs v13],zn v14]) 3
                       (.ret (.tuple [.agg [zL v12,zs v13],zn v14]))))))))))
               (.split (ok [v5,oi 16])
                (.split (oj [v7,oi 0])
                 (.ret (.tuple [.agg [z0 (oN),.str []],.int .i64 2]))
                 (.split (oj [v8,oi 0])
                  (.ret (.tuple [.agg [z0 (oN),.str []],.int .i64 2]))
                  (.call 0 [.agg [zT v0,zS v1,zL v2,zF v3,zn v4],.int .i64 11,zn v6] (zb v9) 1
                   (.split (oT [v9])
                    (.ret (.tuple [.agg [z0 (oN),.str []],.int .i64 3]))
                    (.call 0 [.agg [zT v0,zS v1,zL v2,zF v3,zn v4],.int .i64 0,zn v7] (zb v10) 1
                     (.split (oT [v10])
                      (.ret (.tuple [.agg [z0 (oN),.str []],.int .i64 3]))
                      (.call 0 [.agg [zT v0,zS v1,zL v2,zF v3,zn v4],.int .i64 0,zn v8] (zb v11) 1
                       (.split (oT [v11])
                        (.ret (.tuple [.agg [z0 (oN),.str []],.int .i64 3]))
                        (.call 8 [.agg [zT v0,zS v1,zL v2,zF v3,zn v4],.agg [zn v5,zn v6,zn v7,zn v8]] (.tuple [.agg [zL v12,zs v13],zn v14]) 3
                         (.ret (.tuple [.agg [zL v12,zs v13],zn v14])))))))))))
                (.split (ok [v5,oi 17])
                 (.split (oj [v7,oi 0])
                  (.ret (.tuple [.agg [z0 (oN),.str []],.int .i64 2]))
                  (.split (oj [v8,oi 0])
                   (.ret (.tuple [.agg [z0 (oN),.str []],.int .i64 2]))
                   (.call 0 [.agg [zT v0,zS v1,zL v2,zF v3,zn v4],.int .i64 12,zn v6] (zb v9) 1
                    (.split (oT [v9])
                     (.ret (.tuple [.agg [z0 (oN),.str []],.int .i64 3]))
                     (.call 0 [.agg [zT v0,zS v1,zL v2,zF v3,zn v4],.int .i64 0,zn v7] (zb v10) 1
                      (.split (oT [v10])
                       (.ret (.tuple [.agg [z0 (oN),.str []],.int .i64 3]))
                       (.call 0 [.agg [zT v0,zS v1,zL v2,zF v3,zn v4],.int .i64 0,zn v8] (zb v11) 1
                        (.split (oT [v11])
                         (.ret (.tuple [.agg [z0 (oN),.str []],.int .i64 3]))
                         (.call 9 [.agg [zT v0,zS v1,zL v2,zF v3,zn v4],.agg [zn v5,zn v6,zn v7,zn v8]] (.tuple [.agg [zL v12,zs v13],zn v14]) 3
                          (.ret (.tuple [.agg [zL v12,zs v13],zn v14])))))))))))
                 (.split (ok [v5,oi 18])
                  (.split (oj [v8,oi 0])
                   (.ret (.tuple [.agg [z0 (oN),.str []],.int .i64 2]))
                   (.call 0 [.agg [zT v0,zS v1,zL v2,zF v3,zn v4],.int .i64 4,zn v6] (zb v9) 1
                    (.split (oT [v9])
                     (.ret (.tuple [.agg [z0 (oN),.str []],.int .i64 3]))
                     (.call 0 [.agg [zT v0,zS v1,zL v2,zF v3,zn v4],.int .i64 4,zn v7] (zb v10) 1
                      (.split (oT [v10])
                       (.ret (.tuple [.agg [z0 (oN),.str []],.int .i64 3]))
                       (.call 0 [.agg [zT v0,zS v1,zL v2,zF v3,zn v4],.int .i64 0,zn v8] (zb v11) 1
                        (.split (oT [v11])
                         (.ret (.tuple [.agg [z0 (oN),.str []],.int .i64 3]))
                         (.call 10 [.agg [zT v0,zS v1,zL v2,zF v3,zn v4],.agg [zn v5,zn v6,zn v7,zn v8]] (.tuple [.agg [zL v12,zs v13],zn v14]) 3
                          (.ret (.tuple [.agg [zL v12,zs v13],zn v14]))))))))))
                  (.split (ok [v5,oi 19])
                   (.split (oj [v8,oi 0])
                    (.ret (.tuple [.agg [z0 (oN),.str []],.int .i64 2]))
                    (.call 0 [.agg [zT v0,zS v1,zL v2,zF v3,zn v4],.int .i64 4,zn v6] (zb v9) 1
                     (.split (oT [v9])
                      (.ret (.tuple [.agg [z0 (oN),.str []],.int .i64 3]))
                      (.call 0 [.agg [zT v0,zS v1,zL v2,zF v3,zn v4],.int .i64 4,zn v7] (zb v10) 1
                       (.split (oT [v10])
                        (.ret (.tuple [.agg [z0 (oN),.str []],.int .i64 3]))
                        (.call 0 [.agg [zT v0,zS v1,zL v2,zF v3,zn v4],.int .i64 0,zn v8] (zb v11) 1
                         (.split (oT [v11])
                          (.ret (.tuple [.agg [z0 (oN),.str []],.int .i64 3]))
                          (.call 10 [.agg [zT v0,zS v1,zL v2,zF v3,zn v4],.agg [zn v5,zn v6,zn v7,zn v8]] (.tuple [.agg [zL v12,zs v13],zn v14]) 3
                           (.ret (.tuple [.agg [zL v12,zs v13],zn v14]))))))))))
                   (.split (ok [v5,oi 20])
                    (.split (oj [v8,oi 0])
                     (.ret (.tuple [.agg [z0 (oN),.str []],.int .i64 2]))
                     (.call 0 [.agg [zT v0,zS v1,zL v2,zF v3,zn v4],.int .i64 4,zn v6] (zb v9) 1
                      (.split (oT [v9])
                       (.ret (.tuple [.agg [z0 (oN),.str []],.int .i64 3]))
                       (.call 0 [.agg [zT v0,zS v1,zL v2,zF v3,zn v4],.int .i64 4,zn v7] (zb v10) 1
                        (.split (oT [v10])
                         (.ret (.tuple [.agg [z0 (oN),.str []],.int .i64 3]))
                         (.call 0 [.agg [zT v0,zS v1,zL v2,zF v3,zn v4],.int .i64 0,zn v8] (zb v11) 1
                          (.split (oT [v11])
                           (.ret (.tuple [.agg [z0 (oN),.str []],.int .i64 3]))
                           (.call 11 [.agg [zT v0,zS v1,zL v2,zF v3,zn v4],.agg [zn v5,zn v6,zn v7,zn v8]] (.tuple [.agg [zL v12,zs v13],zn v14]) 3
                            (.ret (.tuple [.agg [zL v12,zs v13],zn v14]))))))))))
                    (.split (ok [v5,oi 21])
                     (.split (oj [v8,oi 0])
                      (.ret (.tuple [.agg [z0 (oN),.str []],.int .i64 2]))
                      (.call 0 [.agg [zT v0,zS v1,zL v2,zF v3,zn v4],.int .i64 4,zn v6] (zb v9) 1
                       (.split (oT [v9])
                        (.ret (.tuple [.agg [z0 (oN),.str []],.int .i64 3]))
                        (.call 0 [.agg [zT v0,zS v1,zL v2,zF v3,zn v4],.int .i64 4,zn v7] (zb v10) 1
                         (.split (oT [v10])
                          (.ret (.tuple [.agg [z0 (oN),.str []],.int .i64 3]))
                          (.call 0 [.agg [zT v0,zS v1,zL v2,zF v3,zn v4],.int .i64 0,zn v8] (zb v11) 1
                           (.split (oT [v11])
                            (.ret (.tuple [.agg [z0 (oN),.str []],.int .i64 3]))
                            (.call 11 [.agg [zT v0,zS v1,zL v2,zF v3,zn v4],.agg [zn v5,zn v6,zn v7,zn v8]] (.tuple [.agg [zL v12,zs v13],zn v14]) 3
                             (.ret (.tuple [.agg [zL v12,zs v13],zn v14]))))))))))
                     (.split (ok [v5,oi 22])
                      (.split (oj [v7,oi 0])
                       (.ret (.tuple [.agg [z0 (oN),.str []],.int .i64 2]))
                       (.split (oj [v8,oi 0])
                        (.ret (.tuple [.agg [z0 (oN),.str []],.int .i64 2]))
                        (.call 0 [.agg [zT v0,zS v1,zL v2,zF v3,zn v4],.int .i64 4,zn v6] (zb v9) 1
                         (.split (oT [v9])
                          (.ret (.tuple [.agg [z0 (oN),.str []],.int .i64 3]))
                          (.call 0 [.agg [zT v0,zS v1,zL v2,zF v3,zn v4],.int .i64 0,zn v7] (zb v10) 1
                           (.split (oT [v10])
                            (.ret (.tuple [.agg [z0 (oN),.str []],.int .i64 3]))
                            (.call 0 [.agg [zT v0,zS v1,zL v2,zF v3,zn v4],.int .i64 0,zn v8] (zb v11) 1
                             (.split (oT [v11])
                              (.ret (.tuple [.agg [z0 (oN),.str []],.int .i64 3]))
                              (.call 12 [.agg [zT v0,zS v1,zL v2,zF v3,zn v4],.agg [zn v5,zn v6,zn v7,zn v8]] (.tuple [.agg [zL v12,zs v13],zn v14]) 3
                               (.ret (.tuple [.agg [zL v12,zs v13],zn v14])))))))))))
                      (.split (ok [v5,oi 23])
                       (.split (oj [v8,oi 0])
                        (.ret (.tuple [.agg [z0 (oN),.str []],.int .i64 2]))
                        (.call 0 [.agg [zT v0,zS v1,zL v2,zF v3,zn v4],.int .i64 4,zn v6] (zb v9) 1
                         (.split (oT [v9])
                          (.ret (.tuple [.agg [z0 (oN),.str []],.int .i64 3]))
                          (.call 0 [.agg [zT v0,zS v1,zL v2,zF v3,zn v4],.int .i64 12,zn v7] (zb v10) 1
                           (.split (oT [v10])
                            (.ret (.tuple [.agg [z0 (oN),.str []],.int .i64 3]))
                            (.call 0 [.agg [zT v0,zS v1,zL v2,zF v3,zn v4],.int .i64 0,zn v8] (zb v11) 1
                             (.split (oT [v11])
                              (.ret (.tuple [.agg [z0 (oN),.str []],.int .i64 3]))
                              (.call 13 [.agg [zT v0,zS v1,zL v2,zF v3,zn v4],.agg [zn v5,zn v6,zn v7,zn v8]] (.tuple [.agg [zL v12,zs v13],zn v14]) 3
                               (.ret (.tuple [.agg [zL v12,zs v13],zn v14]))))))))))
                       (.split (ok [v5,oi 24])
                        (.split (oj [v8,oi 0])
                         (.ret (.tuple [.agg [z0 (oN),.str []],.int .i64 2]))
                         (.call 0 [.agg [zT v0,zS v1,zL v2,zF v3,zn v4],.int .i64 4,zn v6] (zb v9) 1
                          (.split (oT [v9])
                           (.ret (.tuple [.agg [z0 (oN),.str []],.int .i64 3]))
                           (.call 0 [.agg [zT v0,zS v1,zL v2,zF v3,zn v4],.int .i64 12,zn v7] (zb v10) 1
                            (.split (oT [v10])
                             (.ret (.tuple [.agg [z0 (oN),.str []],.int .i64 3]))
                             (.call 0 [.agg [zT v0,zS v1,zL v2,zF v3,zn v4],.int .i64 0,zn v8] (zb v11) 1
                              (.split (oT [v11])
                               (.ret (.tuple [.agg [z0 (oN),.str []],.int .i64 3]))
                               (.call 13 [.agg [zT v0,zS v1,zL v2,zF v3,zn v4],.agg [zn v5,zn v6,zn v7,zn v8]] (.tuple [.agg [zL v12,zs v13],zn v14]) 3
                                (.ret (.tuple [.agg [zL v12,zs v13],zn v14]))))))))))
                        (.split (ok [v5,oi 25])
                         (.call 0 [.agg [zT v0,zS v1,zL v2,zF v3,zn v4],.int .i64 4,zn v6] (zb v9) 1
                          (.split (oT [v9])
                           (.ret (.tuple [.agg [z0 (oN),.str []],.int .i64 3]))
                           (.call 0 [.agg [zT v0,zS v1,zL v2,zF v3,zn v4],.int .i64 12,zn v7] (zb v10) 1
                            (.split (oT [v10])
                             (.ret (.tuple [.agg [z0 (oN),.str []],.int .i64 3]))
                             (.call 0 [.agg [zT v0,zS v1,zL v2,zF v3,zn v4],.int .i64 13,zn v8] (zb v11) 1
                              (.split (oT [v11])
                               (.ret (.tuple [.agg [z0 (oN),.str []],.int .i64 3]))
                               (.call 13 [.agg [zT v0,zS v1,zL v2,zF v3,zn v4],.agg [zn v5,zn v6,zn v7,zn v8]] (.tuple [.agg [zL v12,zs v13],zn v14]) 3
                                (.ret (.tuple [.agg [zL v12,zs v13],zn v14])))))))))
                         (.split (ok [v5,oi 26])
                          (.split (oj [v6,oi 0])
                           (.ret (.tuple [.agg [z0 (oN),.str []],.int .i64 2]))
                           (.split (oj [v7,oi 0])
                            (.ret (.tuple [.agg [z0 (oN),.str []],.int .i64 2]))
                            (.split (oj [v8,oi 0])
                             (.ret (.tuple [.agg [z0 (oN),.str []],.int .i64 2]))
                             (.call 0 [.agg [zT v0,zS v1,zL v2,zF v3,zn v4],.int .i64 0,zn v6] (zb v9) 1
                              (.split (oT [v9])
                               (.ret (.tuple [.agg [z0 (oN),.str []],.int .i64 3]))
                               (.call 0 [.agg [zT v0,zS v1,zL v2,zF v3,zn v4],.int .i64 0,zn v7] (zb v10) 1
                                (.split (oT [v10])
                                 (.ret (.tuple [.agg [z0 (oN),.str []],.int .i64 3]))
                                 (.call 0 [.agg [zT v0,zS v1,zL v2,zF v3,zn v4],.int .i64 0,zn v8] (zb v11) 1
                                  (.split (oT [v11])
                                   (.ret (.tuple [.agg [z0 (oN),.str []],.int .i64 3]))
                                   (.ret (.tuple [.agg [z0 (oN),.str [105,110,116]],.int .i64 0])))))))))))
                          (.split (ok [v5,oi 27])
                           (.split (oj [v6,oi 0])
                            (.ret (.tuple [.agg [z0 (oN),.str []],.int .i64 2]))
                            (.split (oj [v7,oi 0])
                             (.ret (.tuple [.agg [z0 (oN),.str []],.int .i64 2]))
                             (.split (oj [v8,oi 0])
                              (.ret (.tuple [.agg [z0 (oN),.str []],.int .i64 2]))
                              (.call 0 [.agg [zT v0,zS v1,zL v2,zF v3,zn v4],.int .i64 0,zn v6] (zb v9) 1
                               (.split (oT [v9])
                                (.ret (.tuple [.agg [z0 (oN),.str []],.int .i64 3]))
                                (.call 0 [.agg [zT v0,zS v1,zL v2,zF v3,zn v4],.int .i64 0,zn v7] (zb v10) 1
                                 (.split (oT [v10])
                                  (.ret (.tuple [.agg [z0 (oN),.str []],.int .i64 3]))
                                  (.call 0 [.agg [zT v0,zS v1,zL v2,zF v3,zn v4],.int .i64 0,zn v8] (zb v11) 1
                                   (.split (oT [v11])
                                    (.ret (.tuple [.agg [z0 (oN),.str []],.int .i64 3]))
                                    (.ret (.tuple [.agg [zL (oS [oN,.str [42]]),.str [117,110,105,116]],.int .i64 0])))))))))))
                           (.split (ok [v5,oi 28])
                            (.split (oj [v6,oi 0])
                             (.ret (.tuple [.agg [z0 (oN),.str []],.int .i64 2]))
                             (.split (oj [v7,oi 0])
                              (.ret (.tuple [.agg [z0 (oN),.str []],.int .i64 2]))
                              (.split (oj [v8,oi 0])
                               (.ret (.tuple [.agg [z0 (oN),.str []],.int .i64 2]))
                               (.call 0 [.agg [zT v0,zS v1,zL v2,zF v3,zn v4],.int .i64 0,zn v6] (zb v9) 1
                                (.split (oT [v9])
                                 (.ret (.tuple [.agg [z0 (oN),.str []],.int .i64 3]))
                                 (.call 0 [.agg [zT v0,zS v1,zL v2,zF v3,zn v4],.int .i64 0,zn v7] (zb v10) 1
                                  (.split (oT [v10])
                                   (.ret (.tuple [.agg [z0 (oN),.str []],.int .i64 3]))
                                   (.call 0 [.agg [zT v0,zS v1,zL v2,zF v3,zn v4],.int .i64 0,zn v8] (zb v11) 1
                                    (.split (oT [v11])
                                     (.ret (.tuple [.agg [z0 (oN),.str []],.int .i64 3]))
                                     (.call 14 [.agg [zT v0,zS v1,zL v2,zF v3,zn v4],.agg [zn v5,zn v6,zn v7,zn v8]] (.tuple [.agg [zL v12,zs v13],zn v14]) 3
                                      (.ret (.tuple [.agg [zL v12,zs v13],zn v14]))))))))))))
                            (.ret (.tuple [.agg [z0 (oN),.str []],.int .i64 14])))))))))))))))))))))))))))))
theorem Te:bt Tryz.prog bs 100000 39 [.agg [zT v0,zS v1,zL v2,zF v3],zn v4,.agg [zn v5,zn v6,zn v7,zn v8]] [(58,none),(84,none),(85,none),(86,none),(87,none),(88,none),(89,none),(90,none),(91,none),(92,none),(93,none),(94,none),(95,none),(96,none),(97,none)] [] OO 9=true:=by kernel_rfl
end
end Go.Proofs.Sai
