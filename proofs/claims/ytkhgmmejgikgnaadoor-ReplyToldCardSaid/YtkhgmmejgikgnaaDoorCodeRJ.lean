/- Functions of the program, resolved: made by a program of ours; each is checked by the kernel. -/
import Derived.Test.YtkhgmmejgikgnaaDoorPB
namespace Go.Proofs.YtkhgmmejgikgnaaDoor
def c46 : MC :=
   (.seq
    (.ops [i_ 1 (.box 77 (T 0)),
      i_ 2 (.mv (KB false))])
    (.seq
     (.ops [i_ 3 (.ldN 6 (T 1)),
       i_ 4 (.call 89 [(T 3), (KI 16)]),
       i_ 2 (.mv (T 4))])
     .ret))
def m46 : MF := ⟨5, [(.tmp 2)], c46⟩
theorem r46 : resF Tryd.prog Tryd.f46 = some m46 := by kernel_rfl
theorem k46 : Callable Tryd.prog 46 := ⟨_, Tryd.func46, by kernel_rfl, by kernel_rfl⟩

def c50 : MC :=
   (.seq
    (.ops [i_ 1 (.box 77 (T 0)),
      i_ 2 (.mv (KS [])),
      i_ 3 (.mv (KI 0))])
    (.seq
     (.seq
      (.ops [i_ 5 (.ldN 6 (T 1)),
        i_ 6 (.call 46 [(T 5)]),
        i_ 7 (.not (T 6))])
      (.cond (T 7)
       (.seq
        (.ops [i_ 2 (.mv (KS [])),
          i_ 3 (.mv (KI 4))])
        .ret)
       .skip))
     (.seq
      (.ops [i_ 4 (.raw ⟨(some 4), (.alloc 128), 0, "json.go:135", ⟨[]⟩, none⟩)])
      (.seq
       (.ops [i_ 8 (.ldN 6 (T 1)),
         i_ 9 (.call 91 [(T 4), (T 8)])])
       (.seq
        (.seq
         (.ops [i_ 10 (.faddr 0 (T 4)),
           i_ 11 (.call 92 [(T 10)]),
           i_ 12 (.ib .gtr (T 11) (KI 65536))])
         (.cond (T 12)
          (.seq
           (.ops [i_ 2 (.mv (KS [])),
             i_ 3 (.mv (KI 5))])
           .ret)
          .skip))
        (.seq
         (.ops [i_ 13 (.faddr 0 (T 4)),
           i_ 14 (.call 65 [(T 13)]),
           i_ 2 (.mv (T 14)),
           i_ 3 (.mv (KI 0))])
         .ret))))))
def m50 : MF := ⟨15, [(.tmp 2), (.tmp 3)], c50⟩
theorem r50 : resF Tryd.prog Tryd.f50 = some m50 := by kernel_rfl
theorem k50 : Callable Tryd.prog 50 := ⟨_, Tryd.func50, by kernel_rfl, by kernel_rfl⟩

def c89 : MC :=
   (.seq
    (.ops [i_ 2 (.box 77 (T 0)),
      i_ 3 (.box 3 (T 1)),
      i_ 4 (.mv (KB false))])
    (.seq
     (.seq
      (.ops [i_ 5 (.ld1 (T 3)),
        i_ 6 (.ib .eql (T 5) (KI 0))])
      (.cond (T 6)
       (.seq
        (.ops [i_ 4 (.mv (KB false))])
        .ret)
       .skip))
     (.seq
      (.seq
       (.ops [i_ 7 (.faddr 0 (T 2)),
         i_ 8 (.ld1 (T 7))])
       (.block 0
        (.seq
         (.ops [i_ 10 (.ib .eql (T 8) (KI 0)),
           i_ 9 (.mv (T 10))])
         (.cond (T 9)
          (.seq
           (.ops [i_ 11 (.ldN 6 (T 2)),
             i_ 12 (.call 132 [(T 11), (KB false), (KB false), (KB false), (KB false), (KB false)]),
             i_ 4 (.mv (T 12))])
           .ret)
          (.seq
           (.ops [i_ 14 (.ib .eql (T 8) (KI 1)),
             i_ 13 (.mv (T 14))])
           (.cond (T 13)
            (.seq
             (.ops [i_ 15 (.ldN 6 (T 2)),
               i_ 16 (.call 132 [(T 15), (KB true), (KB false), (KB false), (KB false), (KB false)]),
               i_ 4 (.mv (T 16))])
             .ret)
            (.seq
             (.ops [i_ 18 (.ib .eql (T 8) (KI 2)),
               i_ 17 (.mv (T 18))])
             (.cond (T 17)
              (.seq
               (.ops [i_ 19 (.ldN 6 (T 2)),
                 i_ 20 (.call 132 [(T 19), (KB false), (KB true), (KB false), (KB false), (KB false)]),
                 i_ 21 (.mv (T 20)),
                 ig 22 21 true (.faddr 2 (T 2)),
                 ig 23 21 true (.ld1 (T 22)),
                 ig 24 21 true (.ib .geq (T 23) (KI (-9007199254740992))),
                 i_ 25 (.pick (T 21) (T 24) (KB false)),
                 i_ 26 (.mv (T 25)),
                 ig 27 26 true (.faddr 2 (T 2)),
                 ig 28 26 true (.ld1 (T 27)),
                 ig 29 26 true (.ib .leq (T 28) (KI 9007199254740992)),
                 i_ 30 (.pick (T 26) (T 29) (KB false)),
                 i_ 4 (.mv (T 30))])
               .ret)
              (.seq
               (.ops [i_ 32 (.ib .eql (T 8) (KI 3)),
                 i_ 31 (.mv (T 32))])
               (.cond (T 31)
                (.seq
                 (.ops [i_ 33 (.ldN 6 (T 2)),
                   i_ 34 (.call 132 [(T 33), (KB false), (KB false), (KB true), (KB false), (KB false)]),
                   i_ 35 (.mv (T 34)),
                   ig 36 35 true (.faddr 3 (T 2)),
                   ig 37 35 true (.ld1 (T 36)),
                   ig 38 35 true (.call 86 [(T 37)]),
                   i_ 39 (.pick (T 35) (T 38) (KB false)),
                   i_ 4 (.mv (T 39))])
                 .ret)
                (.seq
                 (.ops [i_ 41 (.ib .eql (T 8) (KI 4)),
                   i_ 40 (.mv (T 41))])
                 (.cond (T 40)
                  (.seq
                   (.ops [i_ 42 (.ldN 6 (T 2)),
                     i_ 43 (.call 132 [(T 42), (KB false), (KB false), (KB false), (KB true), (KB false)]),
                     i_ 44 (.not (T 43))])
                   (.cond (T 44)
                    (.seq
                     (.ops [i_ 4 (.mv (KB false))])
                     .ret)
                    .skip))
                  (.seq
                   (.ops [i_ 46 (.ib .eql (T 8) (KI 5)),
                     i_ 45 (.mv (T 46))])
                   (.cond (T 45)
                    (.seq
                     (.ops [i_ 47 (.ldN 6 (T 2)),
                       i_ 48 (.call 132 [(T 47), (KB false), (KB false), (KB false), (KB true), (KB true)]),
                       i_ 49 (.not (T 48)),
                       i_ 50 (.mv (T 49)),
                       ig 51 50 false (.faddr 5 (T 2)),
                       ig 52 50 false (.ld1 (T 51)),
                       ig 53 50 false (.lenV (T 52)),
                       ig 54 50 false (.faddr 4 (T 2)),
                       ig 55 50 false (.ld1 (T 54)),
                       ig 56 50 false (.lenV (T 55)),
                       ig 57 50 false (.ib .neq (T 53) (T 56)),
                       i_ 58 (.pick (T 50) (KB true) (T 57)),
                       i_ 59 (.mv (T 58)),
                       ig 60 59 false (.faddr 5 (T 2)),
                       ig 61 59 false (.ld1 (T 60)),
                       ig 62 59 false (.call 133 [(T 61)]),
                       ig 63 59 false (.not (T 62)),
                       i_ 64 (.pick (T 59) (KB true) (T 63))])
                     (.cond (T 64)
                      (.seq
                       (.ops [i_ 4 (.mv (KB false))])
                       .ret)
                      .skip))
                    (.seq
                     (.ops [i_ 4 (.mv (KB false))])
                     .ret)))))))))))))))
      (.seq
       (.ops [i_ 65 (.faddr 4 (T 2)),
         i_ 66 (.ld1 (T 65)),
         i_ 67 (.mkfn 135 [(T 3)]),
         i_ 68 (.call 134 [(T 66), (T 67)]),
         i_ 69 (.not (T 68)),
         i_ 4 (.mv (T 69))])
       .ret))))
def m89 : MF := ⟨70, [(.tmp 4)], c89⟩
theorem r89 : resF Tryd.prog Tryd.f89 = some m89 := by kernel_rfl
theorem k89 : Callable Tryd.prog 89 := ⟨_, Tryd.func89, by kernel_rfl, by kernel_rfl⟩

def c91 : MC :=
   (.seq
    (.ops [i_ 3 (.box 77 (T 1))])
    (.seq
     (.ops [i_ 4 (.faddr 0 (T 3)),
       i_ 5 (.ld1 (T 4))])
     (.block 0
      (.seq
       (.ops [i_ 7 (.ib .eql (T 5) (KI 0)),
         i_ 6 (.mv (T 7))])
       (.cond (T 6)
        (.ops [i_ 8 (.mv (T 0)),
          i_ 9 (.nilck (T 8)),
          i_ 10 (.faddr 0 (T 9)),
          i_ 11 (.call 114 [(T 10), (KS [110, 117, 108, 108])])])
        (.seq
         (.ops [i_ 13 (.ib .eql (T 5) (KI 1)),
           i_ 12 (.mv (T 13))])
         (.cond (T 12)
          (.dops <|
            .op 0 (i_ 14 (.mv (T 0))) <|
            .op 1 (i_ 15 (.nilck (T 14))) <|
            .op 2 (i_ 16 (.faddr 0 (T 15))) <|
            .op 3 (i_ 17 (.faddr 1 (T 3))) <|
            .op 4 (i_ 18 (.ld1 (T 17))) <|
            .op 5 (id_ 19 (.call 136 [(T 18)]) [4]) <|
            .op 6 (id_ 20 (.call 114 [(T 16), (T 19)]) [4]) <|
            .nil)
          (.seq
           (.ops [i_ 22 (.ib .eql (T 5) (KI 2)),
             i_ 21 (.mv (T 22))])
           (.cond (T 21)
            (.dops <|
              .op 0 (i_ 23 (.mv (T 0))) <|
              .op 1 (i_ 24 (.nilck (T 23))) <|
              .op 2 (i_ 25 (.faddr 0 (T 24))) <|
              .op 3 (i_ 26 (.faddr 2 (T 3))) <|
              .op 4 (i_ 27 (.ld1 (T 26))) <|
              .op 5 (id_ 28 (.call 137 [(T 27), (KI 10)]) [4]) <|
              .op 6 (id_ 29 (.call 114 [(T 25), (T 28)]) [4]) <|
              .nil)
            (.seq
             (.ops [i_ 31 (.ib .eql (T 5) (KI 3)),
               i_ 30 (.mv (T 31))])
             (.cond (T 30)
              (.dops <|
                .op 0 (i_ 32 (.mv (T 0))) <|
                .op 1 (i_ 33 (.nilck (T 32))) <|
                .op 2 (i_ 34 (.faddr 0 (T 33))) <|
                .op 3 (i_ 35 (.faddr 3 (T 3))) <|
                .op 4 (i_ 36 (.ld1 (T 35))) <|
                .op 5 (id_ 37 (.call 138 [(T 36)]) [4]) <|
                .op 6 (id_ 38 (.call 114 [(T 34), (T 37)]) [4]) <|
                .nil)
              (.seq
               (.ops [i_ 40 (.ib .eql (T 5) (KI 4)),
                 i_ 39 (.mv (T 40))])
               (.cond (T 39)
                (.ops [i_ 41 (.mv (T 0)),
                  i_ 42 (.ldN 6 (T 3)),
                  i_ 43 (.call 139 [(T 41), (T 42), (KU 91), (KU 93)])])
                (.seq
                 (.ops [i_ 45 (.ib .eql (T 5) (KI 5)),
                   i_ 44 (.mv (T 45))])
                 (.cond (T 44)
                  (.ops [i_ 46 (.mv (T 0)),
                    i_ 47 (.ldN 6 (T 3)),
                    i_ 48 (.call 139 [(T 46), (T 47), (KU 123), (KU 125)])])
                  .skip)))))))))))))))
def m91 : MF := ⟨49, [], c91⟩
theorem r91 : resF Tryd.prog Tryd.f91 = some m91 := by kernel_rfl
theorem k91 : Callable Tryd.prog 91 := ⟨_, Tryd.func91, by kernel_rfl, by kernel_rfl⟩

def c132 : MC :=
   (.seq
    (.ops [i_ 6 (.box 77 (T 0)),
      i_ 12 (.mv (KB false))])
    (.seq
     (.ops [i_ 13 (.mv (T 1)),
       i_ 14 (.mv (T 13)),
       ig 15 14 false (.faddr 1 (T 6)),
       ig 16 14 false (.ld1 (T 15)),
       ig 17 14 false (.not (T 16)),
       i_ 18 (.pick (T 14) (KB true) (T 17)),
       i_ 19 (.mv (T 18)),
       ig 20 19 true (.mv (T 2)),
       ig 21 19 true (.mv (T 20)),
       ig 22 21 false (.faddr 2 (T 6)),
       ig 23 21 false (.ld1 (T 22)),
       ig 24 21 false (.ib .eql (T 23) (KI 0)),
       ig 25 19 true (.pick (T 21) (KB true) (T 24)),
       i_ 26 (.pick (T 19) (T 25) (KB false)),
       i_ 27 (.mv (T 26)),
       ig 28 27 true (.mv (T 3)),
       ig 29 27 true (.mv (T 28)),
       ig 30 29 false (.faddr 3 (T 6)),
       ig 31 29 false (.ld1 (T 30)),
       ig 32 29 false (.sb .eql (T 31) (KS [])),
       ig 33 27 true (.pick (T 29) (KB true) (T 32)),
       i_ 34 (.pick (T 27) (T 33) (KB false)),
       i_ 35 (.mv (T 34)),
       ig 36 35 true (.mv (T 4)),
       ig 37 35 true (.mv (T 36)),
       ig 38 37 false (.faddr 4 (T 6)),
       ig 39 37 false (.ld1 (T 38)),
       ig 40 37 false (.lenV (T 39)),
       ig 41 37 false (.ib .eql (T 40) (KI 0)),
       ig 42 35 true (.pick (T 37) (KB true) (T 41)),
       i_ 43 (.pick (T 35) (T 42) (KB false)),
       i_ 44 (.mv (T 43)),
       ig 45 44 true (.mv (T 5)),
       ig 46 44 true (.mv (T 45)),
       ig 47 46 false (.faddr 5 (T 6)),
       ig 48 46 false (.ld1 (T 47)),
       ig 49 46 false (.lenV (T 48)),
       ig 50 46 false (.ib .eql (T 49) (KI 0)),
       ig 51 44 true (.pick (T 46) (KB true) (T 50)),
       i_ 52 (.pick (T 44) (T 51) (KB false)),
       i_ 12 (.mv (T 52))])
     .ret))
def m132 : MF := ⟨53, [(.tmp 12)], c132⟩
theorem r132 : resF Tryd.prog Tryd.f132 = some m132 := by kernel_rfl
theorem k132 : Callable Tryd.prog 132 := ⟨_, Tryd.func132, by kernel_rfl, by kernel_rfl⟩

def c133 : MC :=
   (.seq
    (.ops [i_ 2 (.mv (KB false))])
    (.seq
     (.ops [i_ 6 (.raw ⟨(some 6), (.makeMap 190 none), 190, "json.go:28", ⟨[]⟩, none⟩),
       i_ 3 (.mv (T 6))])
     (.seq
      (.seq
       (.ops [i_ 7 (.mv (T 0)),
         i_ 8 (.lenV (T 7)),
         i_ 9 (.mv (KI 0))])
       (.block 0
        (.loop [(10, 24), (5, 6), (2, 3), (9, 10)]
         (.seq
          (.ops [i_ 10 (.ib .lss (T 9) (T 8))])
          (.seq
           (.cond (T 10)
            .skip
            (.exit 0))
           (.seq
            (.block 1
             (.seq
              (.ops [i_ 11 (.iaddr 1 (T 7) (T 9)),
                i_ 12 (.ld1 (T 11)),
                i_ 5 (.mv (T 12))])
              (.seq
               (.seq
                (.ops [i_ 13 (.mv (T 3)),
                  i_ 14 (.mv (T 5)),
                  i_ 15 (.raw ⟨(some 15), (.lookup 190 (T 13) (T 14) false), 4, "json.go:30", ⟨[⟨0, .data⟩, ⟨1, .data⟩]⟩, none⟩),
                  i_ 16 (.mv (T 15)),
                  ig 17 16 false (.mv (T 5)),
                  ig 18 16 false (.call 86 [(T 17)]),
                  ig 19 16 false (.not (T 18)),
                  i_ 20 (.pick (T 16) (KB true) (T 19))])
                (.cond (T 20)
                 (.seq
                  (.ops [i_ 2 (.mv (KB false))])
                  .ret)
                 .skip))
               (.ops [i_ 21 (.mv (T 3)),
                 i_ 22 (.mv (T 5)),
                 n_ (.raw ⟨none, (.mapUpdate 190 (T 21) (T 22) (KB true)), 0, "json.go:33", ⟨[⟨0, .data⟩, ⟨1, .data⟩, ⟨0, .phase⟩, ⟨1, .phase⟩]⟩, none⟩)]))))
            (.ops [i_ 23 (.ib .add (T 9) (KI 1)),
              i_ 9 (.mv (T 23))])))))))
      (.seq
       (.ops [i_ 2 (.mv (KB true))])
       .ret))))
def m133 : MF := ⟨24, [(.tmp 2)], c133⟩
theorem r133 : resF Tryd.prog Tryd.f133 = some m133 := by kernel_rfl
theorem k133 : Callable Tryd.prog 133 := ⟨_, Tryd.func133, by kernel_rfl, by kernel_rfl⟩

def c134 : MC :=
   (.seq
    (.ops [i_ 4 (.mv (KB false))])
    (.seq
     (.ops [i_ 5 (.mv (T 0)),
       i_ 6 (.mv (T 1)),
       i_ 7 (.call 171 [(T 5), (T 6)]),
       i_ 8 (.ib .geq (T 7) (KI 0)),
       i_ 4 (.mv (T 8))])
     .ret))
def m134 : MF := ⟨9, [(.tmp 4)], c134⟩
theorem r134 : resF Tryd.prog Tryd.f134 = some m134 := by kernel_rfl
theorem k134 : Callable Tryd.prog 134 := ⟨_, Tryd.func134, by kernel_rfl, by kernel_rfl⟩

def c135 : MC :=
   (.seq
    (.ops [i_ 2 (.box 77 (T 0)),
      i_ 3 (.mv (KB false))])
    (.seq
     (.ops [i_ 4 (.ldN 6 (T 2)),
       i_ 5 (.ld1 (T 1)),
       i_ 6 (.ib .sub (T 5) (KI 1)),
       i_ 7 (.call 89 [(T 4), (T 6)]),
       i_ 8 (.not (T 7)),
       i_ 3 (.mv (T 8))])
     .ret))
def m135 : MF := ⟨9, [(.tmp 3)], c135⟩
theorem r135 : resF Tryd.prog Tryd.f135 = some m135 := by kernel_rfl
theorem k135 : Callable Tryd.prog 135 := ⟨_, Tryd.func135, by kernel_rfl, by kernel_rfl⟩

def c138 : MC :=
   (.seq
    (.ops [i_ 2 (.mv (KS []))])
    (.seq
     (.ops [i_ 3 (.raw ⟨(some 3), (.alloc 99), 0, "json.go:68", ⟨[]⟩, none⟩)])
     (.seq
      (.ops [i_ 6 (.call 63 [(T 3), (KU 34)])])
      (.seq
       (.seq
        (.ops [i_ 7 (.mv (T 0)),
          i_ 8 (.lenS (T 7)),
          i_ 9 (.mv (KI 0))])
        (.block 0
         (.loop [(10, 17), (4, 6), (18, 28), (17, 18), (28, 32), (32, 36), (36, 40), (40, 56), (9, 10)]
          (.seq
           (.ops [i_ 10 (.ib .lss (T 9) (T 8))])
           (.seq
            (.cond (T 10)
             .skip
             (.exit 0))
            (.seq
             (.block 1
              (.seq
               (.ops [i_ 11 (.mv (T 9)),
                 i_ 4 (.mv (T 11))])
               (.seq
                (.ops [i_ 12 (.mv (T 0)),
                  i_ 13 (.mv (T 4)),
                  i_ 14 (.idx (T 12) (T 13)),
                  i_ 5 (.mv (T 14))])
                (.block 2
                 (.seq
                  (.ops [i_ 18 (.mv (T 5)),
                    i_ 19 (.ib .eql (T 18) (KU 34)),
                    i_ 20 (.mv (T 19)),
                    ig 21 20 false (.mv (T 5)),
                    ig 22 20 false (.ib .eql (T 21) (KU 92)),
                    i_ 23 (.pick (T 20) (KB true) (T 22)),
                    i_ 17 (.mv (T 23))])
                  (.cond (T 17)
                   (.seq
                    (.ops [i_ 24 (.call 63 [(T 3), (KU 92)])])
                    (.ops [i_ 25 (.mv (T 5)),
                      i_ 26 (.call 63 [(T 3), (T 25)])]))
                   (.seq
                    (.ops [i_ 28 (.mv (T 5)),
                      i_ 29 (.ib .eql (T 28) (KU 10)),
                      i_ 27 (.mv (T 29))])
                    (.cond (T 27)
                     (.ops [i_ 30 (.call 114 [(T 3), (KS [92, 110])])])
                     (.seq
                      (.ops [i_ 32 (.mv (T 5)),
                        i_ 33 (.ib .eql (T 32) (KU 13)),
                        i_ 31 (.mv (T 33))])
                      (.cond (T 31)
                       (.ops [i_ 34 (.call 114 [(T 3), (KS [92, 114])])])
                       (.seq
                        (.ops [i_ 36 (.mv (T 5)),
                          i_ 37 (.ib .eql (T 36) (KU 9)),
                          i_ 35 (.mv (T 37))])
                        (.cond (T 35)
                         (.ops [i_ 38 (.call 114 [(T 3), (KS [92, 116])])])
                         (.seq
                          (.ops [i_ 40 (.mv (T 5)),
                            i_ 41 (.ib .lss (T 40) (KU 32)),
                            i_ 42 (.mv (T 41)),
                            ig 43 42 false (.mv (T 5)),
                            ig 44 42 false (.ib .eql (T 43) (KU 127)),
                            i_ 45 (.pick (T 42) (KB true) (T 44)),
                            i_ 39 (.mv (T 45))])
                          (.cond (T 39)
                           (.seq
                            (.ops [i_ 46 (.call 114 [(T 3), (KS [92, 117, 48, 48])])])
                            (.seq
                             (.ops [i_ 47 (.mv (T 5)),
                               i_ 48 (.ib .shr (T 47) (.const (.int .u64 4))),
                               i_ 49 (.idx (KS [48, 49, 50, 51, 52, 53, 54, 55, 56, 57, 97, 98, 99, 100, 101, 102]) (T 48)),
                               i_ 50 (.call 63 [(T 3), (T 49)])])
                             (.ops [i_ 51 (.mv (T 5)),
                               i_ 52 (.ib .and (T 51) (KU 15)),
                               i_ 53 (.idx (KS [48, 49, 50, 51, 52, 53, 54, 55, 56, 57, 97, 98, 99, 100, 101, 102]) (T 52)),
                               i_ 54 (.call 63 [(T 3), (T 53)])])))
                           (.ops [i_ 15 (.mv (T 5)),
                             i_ 16 (.call 63 [(T 3), (T 15)])])))))))))))))))
             (.ops [i_ 55 (.ib .add (T 9) (KI 1)),
               i_ 9 (.mv (T 55))])))))))
       (.seq
        (.ops [i_ 56 (.call 63 [(T 3), (KU 34)])])
        (.seq
         (.ops [i_ 57 (.call 65 [(T 3)]),
           i_ 2 (.mv (T 57))])
         .ret))))))
def m138 : MF := ⟨58, [(.tmp 2)], c138⟩
theorem r138 : resF Tryd.prog Tryd.f138 = some m138 := by kernel_rfl
theorem k138 : Callable Tryd.prog 138 := ⟨_, Tryd.func138, by kernel_rfl, by kernel_rfl⟩

def c139 : MC :=
   (.seq
    (.ops [i_ 5 (.box 77 (T 1))])
    (.seq
     (.ops [i_ 10 (.mv (T 0)),
       i_ 11 (.nilck (T 10)),
       i_ 12 (.faddr 0 (T 11)),
       i_ 13 (.mv (T 2)),
       i_ 14 (.call 63 [(T 12), (T 13)])])
     (.seq
      (.seq
       (.ops [i_ 15 (.faddr 4 (T 5)),
         i_ 16 (.ld1 (T 15)),
         i_ 17 (.lenV (T 16)),
         i_ 18 (.mv (KI 0))])
       (.block 0
        (.loop [(19, 50), (9, 10), (8, 9), (18, 19)]
         (.seq
          (.ops [i_ 19 (.ib .lss (T 18) (T 17))])
          (.seq
           (.cond (T 19)
            .skip
            (.exit 0))
           (.seq
            (.block 1
             (.seq
              (.ops [i_ 20 (.mv (T 18)),
                i_ 21 (.iaddr 6 (T 16) (T 18)),
                i_ 22 (.ldN 6 (T 21)),
                i_ 9 (.alloc 77 [(.int .i64 0), (.bool false), (.int .i64 0), (.string ⟨⟨[]⟩⟩), (.slice none 0 0), (.slice none 0 0)]),
                i_ 8 (.mv (T 20)),
                n_ (.st 6 (T 9) (T 22))])
              (.seq
               (.seq
                (.ops [i_ 23 (.mv (T 8)),
                  i_ 24 (.ib .gtr (T 23) (KI 0))])
                (.cond (T 24)
                 (.ops [i_ 25 (.mv (T 0)),
                   i_ 26 (.nilck (T 25)),
                   i_ 27 (.faddr 0 (T 26)),
                   i_ 28 (.call 63 [(T 27), (KU 44)])])
                 .skip))
               (.seq
                (.seq
                 (.ops [i_ 29 (.faddr 0 (T 5)),
                   i_ 30 (.ld1 (T 29)),
                   i_ 31 (.ib .eql (T 30) (KI 5))])
                 (.cond (T 31)
                  (.seq
                   (.dops <|
                     .op 0 (i_ 32 (.mv (T 0))) <|
                     .op 1 (i_ 33 (.nilck (T 32))) <|
                     .op 2 (i_ 34 (.faddr 0 (T 33))) <|
                     .op 3 (i_ 35 (.faddr 5 (T 5))) <|
                     .op 4 (i_ 36 (.ld1 (T 35))) <|
                     .op 5 (i_ 37 (.mv (T 8))) <|
                     .op 6 (i_ 38 (.iaddr 1 (T 36) (T 37))) <|
                     .op 7 (i_ 39 (.ld1 (T 38))) <|
                     .op 8 (id_ 40 (.call 138 [(T 39)]) [4, 7]) <|
                     .op 9 (id_ 41 (.call 114 [(T 34), (T 40)]) [7, 4]) <|
                     .nil)
                   (.ops [i_ 42 (.mv (T 0)),
                     i_ 43 (.nilck (T 42)),
                     i_ 44 (.faddr 0 (T 43)),
                     i_ 45 (.call 63 [(T 44), (KU 58)])]))
                  .skip))
                (.ops [i_ 46 (.mv (T 0)),
                  i_ 47 (.ldN 6 (T 9)),
                  i_ 48 (.call 91 [(T 46), (T 47)])])))))
            (.ops [i_ 49 (.ib .add (T 18) (KI 1)),
              i_ 18 (.mv (T 49))])))))))
      (.ops [i_ 50 (.mv (T 0)),
        i_ 51 (.nilck (T 50)),
        i_ 52 (.faddr 0 (T 51)),
        i_ 53 (.mv (T 3)),
        i_ 54 (.call 63 [(T 52), (T 53)])]))))
def m139 : MF := ⟨55, [], c139⟩
theorem r139 : resF Tryd.prog Tryd.f139 = some m139 := by kernel_rfl
theorem k139 : Callable Tryd.prog 139 := ⟨_, Tryd.func139, by kernel_rfl, by kernel_rfl⟩

def c171 : MC :=
   (.seq
    (.ops [i_ 4 (.mv (KI 0))])
    (.seq
     (.seq
      (.ops [i_ 6 (.mv (T 0)),
        i_ 7 (.lenV (T 6)),
        i_ 8 (.mv (KI 0))])
      (.block 0
       (.loop [(9, 19), (5, 6), (4, 5), (8, 9)]
        (.seq
         (.ops [i_ 9 (.ib .lss (T 8) (T 7))])
         (.seq
          (.cond (T 9)
           .skip
           (.exit 0))
          (.seq
           (.block 1
            (.seq
             (.ops [i_ 10 (.mv (T 8)),
               i_ 5 (.mv (T 10))])
             (.seq
              (.ops [i_ 11 (.mv (T 1)),
                i_ 12 (.mv (T 0)),
                i_ 13 (.mv (T 5)),
                i_ 14 (.iaddr 6 (T 12) (T 13)),
                i_ 15 (.ldN 6 (T 14)),
                i_ 16 (.callv (T 11) [(T 15)])])
              (.cond (T 16)
               (.seq
                (.ops [i_ 17 (.mv (T 5)),
                  i_ 4 (.mv (T 17))])
                .ret)
               .skip))))
           (.ops [i_ 18 (.ib .add (T 8) (KI 1)),
             i_ 8 (.mv (T 18))])))))))
     (.seq
      (.ops [i_ 4 (.mv (KI (-1)))])
      .ret)))
def m171 : MF := ⟨19, [(.tmp 4)], c171⟩
theorem r171 : resF Tryd.prog Tryd.f171 = some m171 := by kernel_rfl
theorem k171 : Callable Tryd.prog 171 := ⟨_, Tryd.func171, by kernel_rfl, by kernel_rfl⟩

end Go.Proofs.YtkhgmmejgikgnaaDoor
