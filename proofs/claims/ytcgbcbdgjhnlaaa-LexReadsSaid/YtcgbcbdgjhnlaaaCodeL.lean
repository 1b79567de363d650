/- Functions of the program, resolved: made by a program of ours; each is checked by the kernel. -/
import Derived.Test.YtcgbcbdgjhnlaaaTools
namespace Go.Proofs.Ytcgbcbdgjhnlaaa
def c3 : MC :=
   (.seq
    (.ops [i_ 6 (.mv (KB false))])
    (.seq
     (.ops [i_ 17 (.mv (T 0)),
       i_ 18 (.call 21 [(T 17), (KI 200)]),
       i_ 19 (.mv (T 1)),
       i_ 20 (.call 21 [(T 19), (KI 60)]),
       i_ 21 (.mv (T 2)),
       i_ 22 (.call 21 [(T 21), (KI 200)]),
       i_ 0 (.mv (T 18)),
       i_ 1 (.mv (T 20)),
       i_ 2 (.mv (T 22))])
     (.seq
      (.ops [i_ 24 (.mv (T 0)),
        i_ 25 (.call 22 [(T 24)]),
        i_ 23 (.mv (T 25)),
        i_ 26 (.ext (T 23) 0),
        i_ 27 (.ext (T 23) 1),
        i_ 7 (.mv (T 26)),
        i_ 8 (.mv (T 27))])
      (.seq
       (.ops [i_ 29 (.mv (T 2)),
         i_ 30 (.call 22 [(T 29)]),
         i_ 28 (.mv (T 30)),
         i_ 31 (.ext (T 28) 0),
         i_ 32 (.ext (T 28) 1),
         i_ 9 (.mv (T 31)),
         i_ 10 (.mv (T 32))])
       (.seq
        (.seq
         (.ops [i_ 33 (.mv (T 8)),
           i_ 34 (.ib .neq (T 33) (KI 0)),
           i_ 35 (.mv (T 34)),
           ig 36 35 false (.mv (T 10)),
           ig 37 35 false (.ib .neq (T 36) (KI 0)),
           i_ 38 (.pick (T 35) (KB true) (T 37))])
         (.cond (T 38)
          (.seq
           (.ops [i_ 39 (.call 23 []),
             i_ 6 (.mv (T 39))])
           .ret)
          .skip))
        (.seq
         (.seq
          (.ops [i_ 11 (.mv (KI 0))])
          (.block 0
           (.loop [(40, 46), (46, 51), (6, 7), (11, 12)]
            (.seq
             (.seq
              (.ops [i_ 40 (.mv (T 11)),
                i_ 41 (.mv (T 1)),
                i_ 42 (.lenS (T 41)),
                i_ 43 (.ib .lss (T 40) (T 42))])
              (.cond (T 43)
               .skip
               (.exit 0)))
             (.seq
              (.block 1
               (.seq
                (.ops [i_ 46 (.mv (T 1)),
                  i_ 47 (.mv (T 11)),
                  i_ 48 (.idx (T 46) (T 47)),
                  i_ 49 (.ib .eql (T 48) (KU 10))])
                (.cond (T 49)
                 (.seq
                  (.ops [i_ 50 (.call 23 []),
                    i_ 6 (.mv (T 50))])
                  .ret)
                 .skip)))
              (.ops [i_ 44 (.mv (T 11)),
                i_ 45 (.ib .add (T 44) (KI 1)),
                i_ 11 (.mv (T 45))]))))))
         (.seq
          (.ops [i_ 51 (.mv (T 0)),
            i_ 52 (.sb .add (T 51) (KS [10])),
            i_ 12 (.mv (T 52))])
          (.seq
           (.ops [i_ 54 (.mv (T 12)),
             i_ 55 (.sb .add (T 54) (KS [47, 47])),
             i_ 56 (.mv (T 1)),
             i_ 57 (.sb .add (T 55) (T 56)),
             i_ 58 (.sb .add (T 57) (KS [10])),
             i_ 59 (.mv (T 2)),
             i_ 60 (.sb .add (T 58) (T 59)),
             i_ 61 (.call 22 [(T 60)]),
             i_ 53 (.mv (T 61)),
             i_ 62 (.ext (T 53) 0),
             i_ 63 (.ext (T 53) 1),
             i_ 13 (.mv (T 62)),
             i_ 14 (.mv (T 63))])
           (.seq
            (.seq
             (.ops [i_ 64 (.mv (T 14)),
               i_ 65 (.ib .neq (T 64) (KI 0)),
               i_ 66 (.mv (T 65)),
               ig 67 66 false (.mv (T 13)),
               ig 68 66 false (.lenV (T 67)),
               ig 69 66 false (.mv (T 7)),
               ig 70 66 false (.lenV (T 69)),
               ig 71 66 false (.mv (T 9)),
               ig 72 66 false (.lenV (T 71)),
               ig 73 66 false (.ib .add (T 70) (T 72)),
               ig 74 66 false (.ib .neq (T 68) (T 73)),
               i_ 75 (.pick (T 66) (KB true) (T 74))])
             (.cond (T 75)
              (.seq
               (.ops [i_ 6 (.mv (KB false))])
               .ret)
              .skip))
            (.seq
             (.seq
              (.ops [i_ 15 (.mv (KI 0))])
              (.block 2
               (.loop [(76, 82), (82, 114), (16, 17), (6, 7), (15, 16)]
                (.seq
                 (.seq
                  (.ops [i_ 76 (.mv (T 15)),
                    i_ 77 (.mv (T 13)),
                    i_ 78 (.lenV (T 77)),
                    i_ 79 (.ib .lss (T 76) (T 78))])
                  (.cond (T 79)
                   .skip
                   (.exit 2)))
                 (.seq
                  (.block 3
                   (.seq
                    (.ops [i_ 82 (.build [(.int .i64 0), (.string ⟨⟨[]⟩⟩), (.int .i64 0)] []),
                      i_ 16 (.alloc 29 [(.int .i64 0), (.string ⟨⟨[]⟩⟩), (.int .i64 0)]),
                      n_ (.st 3 (T 16) (T 82))])
                    (.seq
                     (.seq
                      (.ops [i_ 83 (.mv (T 15)),
                        i_ 84 (.mv (T 7)),
                        i_ 85 (.lenV (T 84)),
                        i_ 86 (.ib .lss (T 83) (T 85))])
                      (.cond (T 86)
                       (.ops [i_ 87 (.mv (T 7)),
                         i_ 88 (.mv (T 15)),
                         i_ 89 (.iaddr 3 (T 87) (T 88)),
                         i_ 90 (.ldN 3 (T 89)),
                         n_ (.st 3 (T 16) (T 90))])
                       (.seq
                        (.ops [i_ 91 (.mv (T 9)),
                          i_ 92 (.mv (T 15)),
                          i_ 93 (.mv (T 7)),
                          i_ 94 (.lenV (T 93)),
                          i_ 95 (.ib .sub (T 92) (T 94)),
                          i_ 96 (.iaddr 3 (T 91) (T 95)),
                          i_ 97 (.ldN 3 (T 96)),
                          n_ (.st 3 (T 16) (T 97))])
                        (.ops [i_ 98 (.faddr 2 (T 16)),
                          i_ 99 (.ld1 (T 98)),
                          i_ 100 (.mv (T 12)),
                          i_ 101 (.lenS (T 100)),
                          i_ 102 (.ib .add (T 99) (T 101)),
                          i_ 103 (.mv (T 1)),
                          i_ 104 (.lenS (T 103)),
                          i_ 105 (.ib .add (T 102) (T 104)),
                          i_ 106 (.ib .add (T 105) (KI 3)),
                          i_ 107 (.faddr 2 (T 16)),
                          n_ (.st 1 (T 107) (T 106))]))))
                     (.seq
                      (.dops <|
                        .op 0 (i_ 108 (.mv (T 13))) <|
                        .op 1 (i_ 109 (.mv (T 15))) <|
                        .op 2 (i_ 110 (.iaddr 3 (T 108) (T 109))) <|
                        .op 3 (i_ 111 (.ldN 3 (T 110))) <|
                        .op 4 (i_ 112 (.ldN 3 (T 16))) <|
                        .op 5 (i_ 113 (.eqA true 29 [29] [1, 2, 1] (T 111) (T 112))) <|
                        .nil)
                      (.cond (T 113)
                       (.seq
                        (.ops [i_ 6 (.mv (KB false))])
                        .ret)
                       .skip)))))
                  (.ops [i_ 80 (.mv (T 15)),
                    i_ 81 (.ib .add (T 80) (KI 1)),
                    i_ 15 (.mv (T 81))]))))))
             (.seq
              (.ops [i_ 114 (.call 23 []),
                i_ 6 (.mv (T 114))])
              .ret)))))))))))
def m3 : MF := ⟨115, [(.tmp 6)], c3⟩
theorem r3 : resF Try.prog Try.f3 = some m3 := by kernel_rfl
theorem k3 : Callable Try.prog 3 := ⟨_, Try.func3, by kernel_rfl, by kernel_rfl⟩

def c4 : MC :=
   (.seq
    (.ops [i_ 2 (.mv (KB false))])
    (.seq
     (.ops [i_ 7 (.mv (T 0)),
       i_ 8 (.call 24 [(T 7), (KI 16381), (KI 16387)]),
       i_ 0 (.mv (T 8))])
     (.seq
      (.ops [i_ 9 (.mv (T 0)),
        i_ 10 (.mkslice 5 1 1 [(.int .u8 0)] (T 9) (T 9)),
        i_ 3 (.mv (T 10))])
      (.seq
       (.seq
        (.ops [i_ 4 (.mv (KI 0))])
        (.block 0
         (.loop [(11, 16), (16, 19), (4, 5)]
          (.seq
           (.seq
            (.ops [i_ 11 (.mv (T 4)),
              i_ 12 (.mv (T 0)),
              i_ 13 (.ib .lss (T 11) (T 12))])
            (.cond (T 13)
             .skip
             (.exit 0)))
           (.seq
            (.block 1
             (.ops [i_ 16 (.mv (T 3)),
               i_ 17 (.mv (T 4)),
               i_ 18 (.iaddr 1 (T 16) (T 17)),
               n_ (.st 1 (T 18) (KU 32))]))
            (.ops [i_ 14 (.mv (T 4)),
              i_ 15 (.ib .add (T 14) (KI 1)),
              i_ 4 (.mv (T 15))]))))))
       (.seq
        (.ops [i_ 19 (.mv (T 3)),
          i_ 20 (.iaddr 1 (T 19) (KI 0)),
          n_ (.st 1 (T 20) (KU 97))])
        (.seq
         (.ops [i_ 22 (.mv (T 3)),
           i_ 23 (.b2s (T 22)),
           i_ 24 (.call 22 [(T 23)]),
           i_ 21 (.mv (T 24)),
           i_ 25 (.ext (T 21) 0),
           i_ 26 (.ext (T 21) 1),
           i_ 5 (.mv (T 25)),
           i_ 6 (.mv (T 26))])
         (.seq
          (.ops [i_ 27 (.mv (T 6)),
            i_ 28 (.ib .eql (T 27) (KI 0)),
            i_ 29 (.mv (T 0)),
            i_ 30 (.ib .leq (T 29) (KI 16384)),
            i_ 31 (.bb .eql (T 28) (T 30)),
            i_ 32 (.mv (T 31)),
            ig 33 32 true (.mv (T 6)),
            ig 34 32 true (.ib .eql (T 33) (KI 0)),
            ig 35 32 true (.mv (T 34)),
            ig 36 35 true (.mv (T 5)),
            ig 37 35 true (.lenV (T 36)),
            ig 38 35 true (.ib .eql (T 37) (KI 1)),
            ig 39 32 true (.pick (T 35) (T 38) (KB false)),
            ig 40 32 true (.mv (T 39)),
            ig 41 40 false (.mv (T 6)),
            ig 42 40 false (.ib .eql (T 41) (KI 5)),
            ig 43 40 false (.mv (T 42)),
            ig 44 43 true (.mv (T 5)),
            ig 45 43 true (.lenV (T 44)),
            ig 46 43 true (.ib .eql (T 45) (KI 0)),
            ig 47 40 false (.pick (T 43) (T 46) (KB false)),
            ig 48 32 true (.pick (T 40) (KB true) (T 47)),
            i_ 49 (.pick (T 32) (T 48) (KB false)),
            i_ 50 (.mv (T 49)),
            ig 51 50 true (.call 23 []),
            i_ 52 (.pick (T 50) (T 51) (KB false)),
            i_ 2 (.mv (T 52))])
          .ret)))))))
def m4 : MF := ⟨53, [(.tmp 2)], c4⟩
theorem r4 : resF Try.prog Try.f4 = some m4 := by kernel_rfl
theorem k4 : Callable Try.prog 4 := ⟨_, Try.func4, by kernel_rfl, by kernel_rfl⟩

def c5 : MC :=
   (.seq
    (.ops [i_ 2 (.mv (KB false))])
    (.seq
     (.ops [i_ 7 (.mv (T 0)),
       i_ 8 (.call 21 [(T 7), (KI 400)]),
       i_ 0 (.mv (T 8))])
     (.seq
      (.ops [i_ 10 (.mv (T 0)),
        i_ 11 (.call 22 [(T 10)]),
        i_ 9 (.mv (T 11)),
        i_ 12 (.ext (T 9) 0),
        i_ 13 (.ext (T 9) 1),
        i_ 3 (.mv (T 12)),
        i_ 4 (.mv (T 13))])
      (.seq
       (.ops [i_ 15 (.mv (T 0)),
         i_ 16 (.call 25 [(T 15)]),
         i_ 14 (.mv (T 16)),
         i_ 17 (.ext (T 14) 0),
         i_ 18 (.ext (T 14) 1),
         i_ 5 (.mv (T 17)),
         i_ 6 (.mv (T 18))])
       (.seq
        (.ops [i_ 19 (.mv (T 3)),
          i_ 20 (.mv (T 5)),
          i_ 21 (.call 26 [(T 19), (T 20)]),
          i_ 22 (.mv (T 21)),
          ig 23 22 true (.mv (T 4)),
          ig 24 22 true (.mv (T 6)),
          ig 25 22 true (.ib .eql (T 23) (T 24)),
          i_ 26 (.pick (T 22) (T 25) (KB false)),
          i_ 27 (.mv (T 26)),
          ig 28 27 true (.mv (T 3)),
          ig 29 27 true (.call 27 [(T 28)]),
          ig 30 27 true (.mv (T 5)),
          ig 31 27 true (.call 28 [(T 30)]),
          ig 32 27 true (.sb .eql (T 29) (T 31)),
          i_ 33 (.pick (T 27) (T 32) (KB false)),
          i_ 34 (.mv (T 33)),
          ig 35 34 true (.call 23 []),
          i_ 36 (.pick (T 34) (T 35) (KB false)),
          i_ 2 (.mv (T 36))])
        .ret)))))
def m5 : MF := ⟨37, [(.tmp 2)], c5⟩
theorem r5 : resF Try.prog Try.f5 = some m5 := by kernel_rfl
theorem k5 : Callable Try.prog 5 := ⟨_, Try.func5, by kernel_rfl, by kernel_rfl⟩

def c6 : MC :=
   (.seq
    (.ops [i_ 2 (.mv (KB false))])
    (.seq
     (.ops [i_ 8 (.mv (T 0)),
       i_ 9 (.call 21 [(T 8), (KI 400)]),
       i_ 0 (.mv (T 9))])
     (.seq
      (.ops [i_ 11 (.mv (T 0)),
        i_ 12 (.call 22 [(T 11)]),
        i_ 10 (.mv (T 12)),
        i_ 13 (.ext (T 10) 0),
        i_ 14 (.ext (T 10) 1),
        i_ 3 (.mv (T 13)),
        i_ 4 (.mv (T 14))])
      (.seq
       (.seq
        (.ops [i_ 15 (.mv (T 4)),
          i_ 16 (.ib .neq (T 15) (KI 0))])
        (.cond (T 16)
         (.seq
          (.ops [i_ 17 (.mv (T 3)),
            i_ 18 (.lenV (T 17)),
            i_ 19 (.ib .eql (T 18) (KI 0)),
            i_ 20 (.mv (T 19)),
            ig 21 20 true (.call 23 []),
            i_ 22 (.pick (T 20) (T 21) (KB false)),
            i_ 2 (.mv (T 22))])
          .ret)
         .skip))
       (.seq
        (.ops [i_ 24 (.mv (T 3)),
          i_ 25 (.call 27 [(T 24)]),
          i_ 26 (.call 22 [(T 25)]),
          i_ 23 (.mv (T 26)),
          i_ 27 (.ext (T 23) 0),
          i_ 28 (.ext (T 23) 1),
          i_ 5 (.mv (T 27)),
          i_ 6 (.mv (T 28))])
        (.seq
         (.seq
          (.ops [i_ 29 (.mv (T 6)),
            i_ 30 (.ib .neq (T 29) (KI 0)),
            i_ 31 (.mv (T 30)),
            ig 32 31 false (.mv (T 3)),
            ig 33 31 false (.lenV (T 32)),
            ig 34 31 false (.mv (T 5)),
            ig 35 31 false (.lenV (T 34)),
            ig 36 31 false (.ib .neq (T 33) (T 35)),
            i_ 37 (.pick (T 31) (KB true) (T 36))])
          (.cond (T 37)
           (.seq
            (.ops [i_ 2 (.mv (KB false))])
            .ret)
           .skip))
         (.seq
          (.seq
           (.ops [i_ 7 (.mv (KI 0))])
           (.block 0
            (.loop [(38, 44), (44, 68), (2, 3), (7, 8)]
             (.seq
              (.seq
               (.ops [i_ 38 (.mv (T 7)),
                 i_ 39 (.mv (T 3)),
                 i_ 40 (.lenV (T 39)),
                 i_ 41 (.ib .lss (T 38) (T 40))])
               (.cond (T 41)
                .skip
                (.exit 0)))
              (.seq
               (.block 1
                (.seq
                 (.dops <|
                   .op 0 (i_ 44 (.mv (T 3))) <|
                   .op 1 (i_ 45 (.mv (T 7))) <|
                   .op 2 (i_ 46 (.iaddr 3 (T 44) (T 45))) <|
                   .op 3 (i_ 47 (.faddr 0 (T 46))) <|
                   .op 4 (i_ 48 (.ld1 (T 47))) <|
                   .op 5 (i_ 49 (.mv (T 5))) <|
                   .op 6 (i_ 50 (.mv (T 7))) <|
                   .op 7 (i_ 51 (.iaddr 3 (T 49) (T 50))) <|
                   .op 8 (i_ 52 (.faddr 0 (T 51))) <|
                   .op 9 (i_ 53 (.ld1 (T 52))) <|
                   .op 10 (i_ 54 (.ib .neq (T 48) (T 53))) <|
                   .op 11 (i_ 55 (.mv (T 54))) <|
                   .op 12 (ig 56 55 false (.mv (T 3))) <|
                   .op 13 (ig 57 55 false (.mv (T 7))) <|
                   .op 14 (ig 58 55 false (.iaddr 3 (T 56) (T 57))) <|
                   .op 15 (ig 59 55 false (.faddr 1 (T 58))) <|
                   .op 16 (ig 60 55 false (.ld1 (T 59))) <|
                   .op 17 (ig 61 55 false (.mv (T 5))) <|
                   .op 18 (ig 62 55 false (.mv (T 7))) <|
                   .op 19 (ig 63 55 false (.iaddr 3 (T 61) (T 62))) <|
                   .op 20 (ig 64 55 false (.faddr 1 (T 63))) <|
                   .op 21 (ig 65 55 false (.ld1 (T 64))) <|
                   .op 22 (ig 66 55 false (.sb .neq (T 60) (T 65))) <|
                   .op 23 (i_ 67 (.pick (T 55) (KB true) (T 66))) <|
                   .nil)
                 (.cond (T 67)
                  (.seq
                   (.ops [i_ 2 (.mv (KB false))])
                   .ret)
                  .skip)))
               (.ops [i_ 42 (.mv (T 7)),
                 i_ 43 (.ib .add (T 42) (KI 1)),
                 i_ 7 (.mv (T 43))]))))))
          (.seq
           (.ops [i_ 68 (.call 23 []),
             i_ 2 (.mv (T 68))])
           .ret))))))))
def m6 : MF := ⟨69, [(.tmp 2)], c6⟩
theorem r6 : resF Try.prog Try.f6 = some m6 := by kernel_rfl
theorem k6 : Callable Try.prog 6 := ⟨_, Try.func6, by kernel_rfl, by kernel_rfl⟩

def c22 : MC :=
   (.seq
    (.ops [i_ 2 (.mv (.const (.slice none 0 0))),
      i_ 3 (.mv (KI 0))])
    (.seq
     (.seq
      (.ops [i_ 8 (.mv (T 0)),
        i_ 9 (.lenS (T 8)),
        i_ 10 (.ib .gtr (T 9) (KI 16384))])
      (.cond (T 10)
       (.seq
        (.ops [i_ 2 (.mv (.const (.slice none 0 0))),
          i_ 3 (.mv (KI 5))])
        .ret)
       .skip))
     (.seq
      (.ops [i_ 11 (.mv (T 0)),
        i_ 12 (.build [(.string ⟨⟨[]⟩⟩), (.int .i64 0)] [(0, (1, (T 11)))]),
        i_ 13 (.box 139 (T 12)),
        i_ 4 (.mv (T 13))])
      (.seq
       (.ops [i_ 5 (.mv (.const (.slice none 0 0)))])
       (.block 0
        (.loop [(14, 25), (2, 4), (25, 35), (6, 8), (5, 6)]
         (.block 1
          (.seq
           (.ops [i_ 14 (.mv (T 4)),
             i_ 15 (.call 80 [(T 14)])])
           (.seq
            (.seq
             (.ops [i_ 16 (.mv (T 4)),
               i_ 17 (.nilck (T 16)),
               i_ 18 (.faddr 1 (T 17)),
               i_ 19 (.ld1 (T 18)),
               i_ 20 (.mv (T 0)),
               i_ 21 (.lenS (T 20)),
               i_ 22 (.ib .eql (T 19) (T 21))])
             (.cond (T 22)
              (.seq
               (.ops [i_ 23 (.mv (T 5)),
                 i_ 2 (.mv (T 23)),
                 i_ 3 (.mv (KI 0))])
               .ret)
              .skip))
            (.seq
             (.ops [i_ 25 (.mv (T 4)),
               i_ 26 (.call 81 [(T 25)]),
               i_ 24 (.mv (T 26)),
               i_ 27 (.ext (T 24) 0),
               i_ 28 (.ext (T 24) 1),
               i_ 6 (.alloc 29 [(.int .i64 0), (.string ⟨⟨[]⟩⟩), (.int .i64 0)]),
               n_ (.st 3 (T 6) (T 27)),
               i_ 7 (.mv (T 28))])
             (.seq
              (.seq
               (.ops [i_ 29 (.mv (T 7)),
                 i_ 30 (.not (T 29))])
               (.cond (T 30)
                (.seq
                 (.ops [i_ 2 (.mv (.const (.slice none 0 0))),
                   i_ 3 (.mv (KI 4))])
                 .ret)
                .skip))
              (.ops [i_ 31 (.mv (T 5)),
                i_ 32 (.ldN 3 (T 6)),
                i_ 33 (.bslice 29 [(.int .i64 0), (.string ⟨⟨[]⟩⟩), (.int .i64 0)] 1 3 [(0, (3, (T 32)))]),
                i_ 34 (.append 29 3 32 (T 31) (T 33)),
                i_ 5 (.mv (T 34))]))))))))))))
def m22 : MF := ⟨35, [(.tmp 2), (.tmp 3)], c22⟩
theorem r22 : resF Try.prog Try.f22 = some m22 := by kernel_rfl
theorem k22 : Callable Try.prog 22 := ⟨_, Try.func22, by kernel_rfl, by kernel_rfl⟩

def c23 : MC :=
   (.seq
    (.ops [i_ 0 (.mv (KB false))])
    (.seq
     (.ops [i_ 4 (.call 22 [(KS [97, 45, 62, 98])]),
       i_ 3 (.mv (T 4)),
       i_ 5 (.ext (T 3) 0),
       i_ 6 (.ext (T 3) 1),
       i_ 1 (.mv (T 5)),
       i_ 2 (.mv (T 6))])
     (.seq
      (.ops [i_ 7 (.mv (T 2)),
        i_ 8 (.ib .eql (T 7) (KI 0)),
        i_ 9 (.mv (T 8)),
        ig 10 9 true (.mv (T 1)),
        ig 11 9 true (.lenV (T 10)),
        ig 12 9 true (.ib .eql (T 11) (KI 3)),
        i_ 13 (.pick (T 9) (T 12) (KB false)),
        i_ 14 (.mv (T 13)),
        ig 15 14 true (.mv (T 1)),
        ig 16 14 true (.iaddr 3 (T 15) (KI 1)),
        ig 17 14 true (.faddr 1 (T 16)),
        ig 18 14 true (.ld1 (T 17)),
        ig 19 14 true (.sb .eql (T 18) (KS [45, 62])),
        i_ 20 (.pick (T 14) (T 19) (KB false)),
        i_ 0 (.mv (T 20))])
      .ret)))
def m23 : MF := ⟨21, [(.tmp 0)], c23⟩
theorem r23 : resF Try.prog Try.f23 = some m23 := by kernel_rfl
theorem k23 : Callable Try.prog 23 := ⟨_, Try.func23, by kernel_rfl, by kernel_rfl⟩

def c25 : MC :=
   (.seq
    (.ops [i_ 2 (.mv (.const (.slice none 0 0))),
      i_ 3 (.mv (KI 0))])
    (.seq
     (.seq
      (.ops [i_ 9 (.mv (T 0)),
        i_ 10 (.lenS (T 9)),
        i_ 11 (.ib .gtr (T 10) (KI 16384))])
      (.cond (T 11)
       (.seq
        (.ops [i_ 2 (.mv (.const (.slice none 0 0))),
          i_ 3 (.mv (KI 5))])
        .ret)
       .skip))
     (.seq
      (.ops [i_ 4 (.mv (.const (.slice none 0 0)))])
      (.seq
       (.ops [i_ 5 (.mv (KI 0))])
       (.seq
        (.block 0
         (.loop [(12, 155), (6, 9), (5, 6), (4, 5), (2, 4)]
          (.seq
           (.seq
            (.ops [i_ 12 (.mv (T 5)),
              i_ 13 (.mv (T 0)),
              i_ 14 (.lenS (T 13)),
              i_ 15 (.ib .lss (T 12) (T 14))])
            (.cond (T 15)
             .skip
             (.exit 0)))
           (.block 1
            (.seq
             (.ops [i_ 16 (.mv (T 0)),
               i_ 17 (.mv (T 5)),
               i_ 18 (.idx (T 16) (T 17)),
               i_ 6 (.mv (T 18))])
             (.seq
              (.seq
               (.ops [i_ 19 (.mv (T 6)),
                 i_ 20 (.ib .eql (T 19) (KU 32)),
                 i_ 21 (.mv (T 20)),
                 ig 22 21 false (.mv (T 6)),
                 ig 23 21 false (.ib .eql (T 22) (KU 9)),
                 i_ 24 (.pick (T 21) (KB true) (T 23)),
                 i_ 25 (.mv (T 24)),
                 ig 26 25 false (.mv (T 6)),
                 ig 27 25 false (.ib .eql (T 26) (KU 10)),
                 i_ 28 (.pick (T 25) (KB true) (T 27)),
                 i_ 29 (.mv (T 28)),
                 ig 30 29 false (.mv (T 6)),
                 ig 31 29 false (.ib .eql (T 30) (KU 13)),
                 i_ 32 (.pick (T 29) (KB true) (T 31))])
               (.cond (T 32)
                (.seq
                 (.ops [i_ 33 (.mv (T 5)),
                   i_ 34 (.ib .add (T 33) (KI 1)),
                   i_ 5 (.mv (T 34))])
                 (.exit 1))
                .skip))
              (.seq
               (.seq
                (.ops [i_ 35 (.mv (T 6)),
                  i_ 36 (.ib .eql (T 35) (KU 47)),
                  i_ 37 (.mv (T 36)),
                  ig 38 37 true (.mv (T 5)),
                  ig 39 37 true (.ib .add (T 38) (KI 1)),
                  ig 40 37 true (.mv (T 0)),
                  ig 41 37 true (.lenS (T 40)),
                  ig 42 37 true (.ib .lss (T 39) (T 41)),
                  i_ 43 (.pick (T 37) (T 42) (KB false)),
                  i_ 44 (.mv (T 43)),
                  ig 45 44 true (.mv (T 0)),
                  ig 46 44 true (.mv (T 5)),
                  ig 47 44 true (.ib .add (T 46) (KI 1)),
                  ig 48 44 true (.idx (T 45) (T 47)),
                  ig 49 44 true (.ib .eql (T 48) (KU 47)),
                  i_ 50 (.pick (T 44) (T 49) (KB false))])
                (.cond (T 50)
                 (.seq
                  (.block 2
                   (.loop [(51, 63), (5, 6)]
                    (.seq
                     (.seq
                      (.ops [i_ 51 (.mv (T 5)),
                        i_ 52 (.mv (T 0)),
                        i_ 53 (.lenS (T 52)),
                        i_ 54 (.ib .lss (T 51) (T 53)),
                        i_ 55 (.mv (T 54)),
                        ig 56 55 true (.mv (T 0)),
                        ig 57 55 true (.mv (T 5)),
                        ig 58 55 true (.idx (T 56) (T 57)),
                        ig 59 55 true (.ib .neq (T 58) (KU 10)),
                        i_ 60 (.pick (T 55) (T 59) (KB false))])
                      (.cond (T 60)
                       .skip
                       (.exit 2)))
                     (.block 3
                      (.ops [i_ 61 (.mv (T 5)),
                        i_ 62 (.ib .add (T 61) (KI 1)),
                        i_ 5 (.mv (T 62))])))))
                  (.exit 1))
                 .skip))
               (.seq
                (.ops [i_ 63 (.mv (T 5)),
                  i_ 7 (.mv (T 63))])
                (.seq
                 (.seq
                  (.ops [i_ 64 (.mv (T 6)),
                    i_ 65 (.call 82 [(T 64)])])
                  (.cond (T 65)
                   (.seq
                    (.block 4
                     (.loop [(66, 78), (5, 6)]
                      (.seq
                       (.seq
                        (.ops [i_ 66 (.mv (T 5)),
                          i_ 67 (.mv (T 0)),
                          i_ 68 (.lenS (T 67)),
                          i_ 69 (.ib .lss (T 66) (T 68)),
                          i_ 70 (.mv (T 69)),
                          ig 71 70 true (.mv (T 0)),
                          ig 72 70 true (.mv (T 5)),
                          ig 73 70 true (.idx (T 71) (T 72)),
                          ig 74 70 true (.call 82 [(T 73)]),
                          i_ 75 (.pick (T 70) (T 74) (KB false))])
                        (.cond (T 75)
                         .skip
                         (.exit 4)))
                       (.block 5
                        (.ops [i_ 76 (.mv (T 5)),
                          i_ 77 (.ib .add (T 76) (KI 1)),
                          i_ 5 (.mv (T 77))])))))
                    (.seq
                     (.ops [i_ 78 (.mv (T 4)),
                       i_ 79 (.mv (T 0)),
                       i_ 80 (.mv (T 7)),
                       i_ 81 (.mv (T 5)),
                       i_ 82 (.slS (T 79) (some (T 80)) (some (T 81))),
                       i_ 83 (.mv (T 7)),
                       i_ 84 (.build [(.int .i64 0), (.string ⟨⟨[]⟩⟩), (.int .i64 0)] [(0, (1, (KI 1))), (1, (1, (T 82))), (2, (1, (T 83)))]),
                       i_ 85 (.bslice 143 [(.int .i64 0), (.string ⟨⟨[]⟩⟩), (.int .i64 0)] 1 3 [(0, (3, (T 84)))]),
                       i_ 86 (.append 143 3 32 (T 78) (T 85)),
                       i_ 4 (.mv (T 86))])
                     (.exit 1)))
                   .skip))
                 (.seq
                  (.seq
                   (.ops [i_ 87 (.mv (T 6)),
                     i_ 88 (.ib .eql (T 87) (KU 34))])
                   (.cond (T 88)
                    (.seq
                     (.ops [i_ 89 (.mv (T 5)),
                       i_ 90 (.ib .add (T 89) (KI 1)),
                       i_ 5 (.mv (T 90))])
                     (.seq
                      (.block 6
                       (.loop [(91, 115), (5, 6)]
                        (.seq
                         (.seq
                          (.ops [i_ 91 (.mv (T 5)),
                            i_ 92 (.mv (T 0)),
                            i_ 93 (.lenS (T 92)),
                            i_ 94 (.ib .lss (T 91) (T 93)),
                            i_ 95 (.mv (T 94)),
                            ig 96 95 true (.mv (T 0)),
                            ig 97 95 true (.mv (T 5)),
                            ig 98 95 true (.idx (T 96) (T 97)),
                            ig 99 95 true (.ib .geq (T 98) (KU 32)),
                            i_ 100 (.pick (T 95) (T 99) (KB false)),
                            i_ 101 (.mv (T 100)),
                            ig 102 101 true (.mv (T 0)),
                            ig 103 101 true (.mv (T 5)),
                            ig 104 101 true (.idx (T 102) (T 103)),
                            ig 105 101 true (.ib .leq (T 104) (KU 126)),
                            i_ 106 (.pick (T 101) (T 105) (KB false)),
                            i_ 107 (.mv (T 106)),
                            ig 108 107 true (.mv (T 0)),
                            ig 109 107 true (.mv (T 5)),
                            ig 110 107 true (.idx (T 108) (T 109)),
                            ig 111 107 true (.ib .neq (T 110) (KU 34)),
                            i_ 112 (.pick (T 107) (T 111) (KB false))])
                          (.cond (T 112)
                           .skip
                           (.exit 6)))
                         (.block 7
                          (.ops [i_ 113 (.mv (T 5)),
                            i_ 114 (.ib .add (T 113) (KI 1)),
                            i_ 5 (.mv (T 114))])))))
                      (.seq
                       (.seq
                        (.ops [i_ 115 (.mv (T 5)),
                          i_ 116 (.mv (T 0)),
                          i_ 117 (.lenS (T 116)),
                          i_ 118 (.ib .eql (T 115) (T 117)),
                          i_ 119 (.mv (T 118)),
                          ig 120 119 false (.mv (T 0)),
                          ig 121 119 false (.mv (T 5)),
                          ig 122 119 false (.idx (T 120) (T 121)),
                          ig 123 119 false (.ib .neq (T 122) (KU 34)),
                          i_ 124 (.pick (T 119) (KB true) (T 123))])
                        (.cond (T 124)
                         (.seq
                          (.ops [i_ 2 (.mv (.const (.slice none 0 0))),
                            i_ 3 (.mv (KI 4))])
                          .ret)
                         .skip))
                       (.seq
                        (.ops [i_ 125 (.mv (T 5)),
                          i_ 126 (.ib .add (T 125) (KI 1)),
                          i_ 5 (.mv (T 126))])
                        (.seq
                         (.ops [i_ 127 (.mv (T 4)),
                           i_ 128 (.mv (T 0)),
                           i_ 129 (.mv (T 7)),
                           i_ 130 (.ib .add (T 129) (KI 1)),
                           i_ 131 (.mv (T 5)),
                           i_ 132 (.ib .sub (T 131) (KI 1)),
                           i_ 133 (.slS (T 128) (some (T 130)) (some (T 132))),
                           i_ 134 (.mv (T 7)),
                           i_ 135 (.build [(.int .i64 0), (.string ⟨⟨[]⟩⟩), (.int .i64 0)] [(0, (1, (KI 2))), (1, (1, (T 133))), (2, (1, (T 134)))]),
                           i_ 136 (.bslice 143 [(.int .i64 0), (.string ⟨⟨[]⟩⟩), (.int .i64 0)] 1 3 [(0, (3, (T 135)))]),
                           i_ 137 (.append 143 3 32 (T 127) (T 136)),
                           i_ 4 (.mv (T 137))])
                         (.exit 1))))))
                    .skip))
                  (.seq
                   (.ops [i_ 138 (.mv (T 0)),
                     i_ 139 (.mv (T 5)),
                     i_ 140 (.call 83 [(T 138), (T 139)]),
                     i_ 8 (.mv (T 140))])
                   (.seq
                    (.seq
                     (.ops [i_ 141 (.mv (T 8)),
                       i_ 142 (.ib .eql (T 141) (KI 0))])
                     (.cond (T 142)
                      (.seq
                       (.ops [i_ 2 (.mv (.const (.slice none 0 0))),
                         i_ 3 (.mv (KI 4))])
                       .ret)
                      .skip))
                    (.seq
                     (.ops [i_ 143 (.mv (T 5)),
                       i_ 144 (.mv (T 8)),
                       i_ 145 (.ib .add (T 143) (T 144)),
                       i_ 5 (.mv (T 145))])
                     (.ops [i_ 146 (.mv (T 4)),
                       i_ 147 (.mv (T 0)),
                       i_ 148 (.mv (T 7)),
                       i_ 149 (.mv (T 5)),
                       i_ 150 (.slS (T 147) (some (T 148)) (some (T 149))),
                       i_ 151 (.mv (T 7)),
                       i_ 152 (.build [(.int .i64 0), (.string ⟨⟨[]⟩⟩), (.int .i64 0)] [(0, (1, (KI 3))), (1, (1, (T 150))), (2, (1, (T 151)))]),
                       i_ 153 (.bslice 143 [(.int .i64 0), (.string ⟨⟨[]⟩⟩), (.int .i64 0)] 1 3 [(0, (3, (T 152)))]),
                       i_ 154 (.append 143 3 32 (T 146) (T 153)),
                       i_ 4 (.mv (T 154))]))))))))))))))
        (.seq
         (.ops [i_ 155 (.mv (T 4)),
           i_ 2 (.mv (T 155)),
           i_ 3 (.mv (KI 0))])
         .ret))))))
def m25 : MF := ⟨156, [(.tmp 2), (.tmp 3)], c25⟩
theorem r25 : resF Try.prog Try.f25 = some m25 := by kernel_rfl
theorem k25 : Callable Try.prog 25 := ⟨_, Try.func25, by kernel_rfl, by kernel_rfl⟩

def c26 : MC :=
   (.seq
    (.ops [i_ 4 (.mv (KB false))])
    (.seq
     (.seq
      (.ops [i_ 6 (.mv (T 0)),
        i_ 7 (.lenV (T 6)),
        i_ 8 (.mv (T 1)),
        i_ 9 (.lenV (T 8)),
        i_ 10 (.ib .neq (T 7) (T 9))])
      (.cond (T 10)
       (.seq
        (.ops [i_ 4 (.mv (KB false))])
        .ret)
       .skip))
     (.seq
      (.seq
       (.ops [i_ 5 (.mv (KI 0))])
       (.block 0
        (.loop [(11, 17), (17, 54), (4, 6)]
         (.seq
          (.seq
           (.ops [i_ 11 (.mv (T 5)),
             i_ 12 (.mv (T 0)),
             i_ 13 (.lenV (T 12)),
             i_ 14 (.ib .lss (T 11) (T 13))])
           (.cond (T 14)
            .skip
            (.exit 0)))
          (.seq
           (.block 1
            (.seq
             (.dops <|
               .op 0 (i_ 17 (.mv (T 0))) <|
               .op 1 (i_ 18 (.mv (T 5))) <|
               .op 2 (i_ 19 (.iaddr 3 (T 17) (T 18))) <|
               .op 3 (i_ 20 (.faddr 0 (T 19))) <|
               .op 4 (i_ 21 (.ld1 (T 20))) <|
               .op 5 (i_ 22 (.mv (T 1))) <|
               .op 6 (i_ 23 (.mv (T 5))) <|
               .op 7 (i_ 24 (.iaddr 3 (T 22) (T 23))) <|
               .op 8 (i_ 25 (.faddr 0 (T 24))) <|
               .op 9 (i_ 26 (.ld1 (T 25))) <|
               .op 10 (i_ 27 (.ib .neq (T 21) (T 26))) <|
               .op 11 (i_ 28 (.mv (T 27))) <|
               .op 12 (ig 29 28 false (.mv (T 0))) <|
               .op 13 (ig 30 28 false (.mv (T 5))) <|
               .op 14 (ig 31 28 false (.iaddr 3 (T 29) (T 30))) <|
               .op 15 (ig 32 28 false (.faddr 1 (T 31))) <|
               .op 16 (ig 33 28 false (.ld1 (T 32))) <|
               .op 17 (ig 34 28 false (.mv (T 1))) <|
               .op 18 (ig 35 28 false (.mv (T 5))) <|
               .op 19 (ig 36 28 false (.iaddr 3 (T 34) (T 35))) <|
               .op 20 (ig 37 28 false (.faddr 1 (T 36))) <|
               .op 21 (ig 38 28 false (.ld1 (T 37))) <|
               .op 22 (ig 39 28 false (.sb .neq (T 33) (T 38))) <|
               .op 23 (i_ 40 (.pick (T 28) (KB true) (T 39))) <|
               .op 24 (i_ 41 (.mv (T 40))) <|
               .op 25 (ig 42 41 false (.mv (T 0))) <|
               .op 26 (ig 43 41 false (.mv (T 5))) <|
               .op 27 (ig 44 41 false (.iaddr 3 (T 42) (T 43))) <|
               .op 28 (ig 45 41 false (.faddr 2 (T 44))) <|
               .op 29 (ig 46 41 false (.ld1 (T 45))) <|
               .op 30 (ig 47 41 false (.mv (T 1))) <|
               .op 31 (ig 48 41 false (.mv (T 5))) <|
               .op 32 (ig 49 41 false (.iaddr 3 (T 47) (T 48))) <|
               .op 33 (ig 50 41 false (.faddr 2 (T 49))) <|
               .op 34 (ig 51 41 false (.ld1 (T 50))) <|
               .op 35 (ig 52 41 false (.ib .neq (T 46) (T 51))) <|
               .op 36 (i_ 53 (.pick (T 41) (KB true) (T 52))) <|
               .nil)
             (.cond (T 53)
              (.seq
               (.ops [i_ 4 (.mv (KB false))])
               .ret)
              .skip)))
           (.ops [i_ 15 (.mv (T 5)),
             i_ 16 (.ib .add (T 15) (KI 1)),
             i_ 5 (.mv (T 16))]))))))
      (.seq
       (.ops [i_ 4 (.mv (KB true))])
       .ret))))
def m26 : MF := ⟨54, [(.tmp 4)], c26⟩
theorem r26 : resF Try.prog Try.f26 = some m26 := by kernel_rfl
theorem k26 : Callable Try.prog 26 := ⟨_, Try.func26, by kernel_rfl, by kernel_rfl⟩

def c27 : MC :=
   (.seq
    (.ops [i_ 2 (.mv (KS []))])
    (.seq
     (.ops [i_ 3 (.mv (.const (.slice none 0 0)))])
     (.seq
      (.seq
       (.ops [i_ 6 (.mv (T 0)),
         i_ 7 (.lenV (T 6)),
         i_ 8 (.mv (KI 0))])
       (.block 0
        (.loop [(9, 28), (5, 6), (3, 4), (8, 9)]
         (.seq
          (.ops [i_ 9 (.ib .lss (T 8) (T 7))])
          (.seq
           (.cond (T 9)
            .skip
            (.exit 0))
           (.seq
            (.block 1
             (.seq
              (.ops [i_ 10 (.iaddr 3 (T 6) (T 8)),
                i_ 11 (.ldN 3 (T 10)),
                i_ 5 (.alloc 29 [(.int .i64 0), (.string ⟨⟨[]⟩⟩), (.int .i64 0)]),
                n_ (.st 3 (T 5) (T 11))])
              (.seq
               (.ops [i_ 12 (.faddr 0 (T 5)),
                 i_ 13 (.ld1 (T 12)),
                 i_ 14 (.ib .eql (T 13) (KI 2))])
               (.cond (T 14)
                (.ops [i_ 15 (.mv (T 3)),
                  i_ 16 (.faddr 1 (T 5)),
                  i_ 17 (.ld1 (T 16)),
                  i_ 18 (.sb .add (KS [34]) (T 17)),
                  i_ 19 (.sb .add (T 18) (KS [34])),
                  i_ 20 (.bslice 9 [(.string ⟨⟨[]⟩⟩)] 1 1 [(0, (1, (T 19)))]),
                  i_ 21 (.append 9 1 16 (T 15) (T 20)),
                  i_ 3 (.mv (T 21))])
                (.ops [i_ 22 (.mv (T 3)),
                  i_ 23 (.faddr 1 (T 5)),
                  i_ 24 (.ld1 (T 23)),
                  i_ 25 (.bslice 9 [(.string ⟨⟨[]⟩⟩)] 1 1 [(0, (1, (T 24)))]),
                  i_ 26 (.append 9 1 16 (T 22) (T 25)),
                  i_ 3 (.mv (T 26))])))))
            (.ops [i_ 27 (.ib .add (T 8) (KI 1)),
              i_ 8 (.mv (T 27))])))))))
      (.seq
       (.ops [i_ 28 (.mv (T 3)),
         i_ 29 (.call 84 [(T 28), (KS [32])]),
         i_ 2 (.mv (T 29))])
       .ret))))
def m27 : MF := ⟨30, [(.tmp 2)], c27⟩
theorem r27 : resF Try.prog Try.f27 = some m27 := by kernel_rfl
theorem k27 : Callable Try.prog 27 := ⟨_, Try.func27, by kernel_rfl, by kernel_rfl⟩

def c28 : MC :=
   (.seq
    (.ops [i_ 2 (.mv (KS []))])
    (.seq
     (.ops [i_ 3 (.mv (KS []))])
     (.seq
      (.seq
       (.ops [i_ 4 (.mv (KI 0))])
       (.block 0
        (.loop [(5, 11), (11, 37), (3, 5)]
         (.seq
          (.seq
           (.ops [i_ 5 (.mv (T 4)),
             i_ 6 (.mv (T 0)),
             i_ 7 (.lenV (T 6)),
             i_ 8 (.ib .lss (T 5) (T 7))])
           (.cond (T 8)
            .skip
            (.exit 0)))
          (.seq
           (.block 1
            (.seq
             (.seq
              (.ops [i_ 11 (.mv (T 4)),
                i_ 12 (.ib .gtr (T 11) (KI 0))])
              (.cond (T 12)
               (.ops [i_ 13 (.mv (T 3)),
                 i_ 14 (.sb .add (T 13) (KS [32])),
                 i_ 3 (.mv (T 14))])
               .skip))
             (.seq
              (.ops [i_ 15 (.mv (T 0)),
                i_ 16 (.mv (T 4)),
                i_ 17 (.iaddr 3 (T 15) (T 16)),
                i_ 18 (.faddr 0 (T 17)),
                i_ 19 (.ld1 (T 18)),
                i_ 20 (.ib .eql (T 19) (KI 2))])
              (.cond (T 20)
               (.ops [i_ 21 (.mv (T 3)),
                 i_ 22 (.sb .add (T 21) (KS [34])),
                 i_ 23 (.mv (T 0)),
                 i_ 24 (.mv (T 4)),
                 i_ 25 (.iaddr 3 (T 23) (T 24)),
                 i_ 26 (.faddr 1 (T 25)),
                 i_ 27 (.ld1 (T 26)),
                 i_ 28 (.sb .add (T 22) (T 27)),
                 i_ 29 (.sb .add (T 28) (KS [34])),
                 i_ 3 (.mv (T 29))])
               (.ops [i_ 30 (.mv (T 3)),
                 i_ 31 (.mv (T 0)),
                 i_ 32 (.mv (T 4)),
                 i_ 33 (.iaddr 3 (T 31) (T 32)),
                 i_ 34 (.faddr 1 (T 33)),
                 i_ 35 (.ld1 (T 34)),
                 i_ 36 (.sb .add (T 30) (T 35)),
                 i_ 3 (.mv (T 36))])))))
           (.ops [i_ 9 (.mv (T 4)),
             i_ 10 (.ib .add (T 9) (KI 1)),
             i_ 4 (.mv (T 10))]))))))
      (.seq
       (.ops [i_ 37 (.mv (T 3)),
         i_ 2 (.mv (T 37))])
       .ret))))
def m28 : MF := ⟨38, [(.tmp 2)], c28⟩
theorem r28 : resF Try.prog Try.f28 = some m28 := by kernel_rfl
theorem k28 : Callable Try.prog 28 := ⟨_, Try.func28, by kernel_rfl, by kernel_rfl⟩

def c80 : MC :=
   (.block 0
    (.loop [(2, 17)]
     (.block 1
      (.seq
       (.ops [i_ 2 (.mv (T 0)),
         i_ 3 (.call 127 [(T 2), (FN 128)])])
       (.seq
        (.seq
         (.dops <|
           .op 0 (i_ 4 (.mv (T 0))) <|
           .op 1 (i_ 5 (.nilck (T 4))) <|
           .op 2 (i_ 6 (.faddr 0 (T 5))) <|
           .op 3 (i_ 7 (.ld1 (T 6))) <|
           .op 4 (i_ 8 (.mv (T 0))) <|
           .op 5 (i_ 9 (.nilck (T 8))) <|
           .op 6 (i_ 10 (.faddr 1 (T 9))) <|
           .op 7 (i_ 11 (.ld1 (T 10))) <|
           .op 8 (i_ 12 (.slS (T 7) (some (T 11)) none)) <|
           .op 9 (id_ 13 (.call 129 [(T 12), (KS [47, 47])]) [3, 7]) <|
           .op 10 (i_ 14 (.not (T 13))) <|
           .nil)
         (.cond (T 14)
          .ret
          .skip))
        (.ops [i_ 15 (.mv (T 0)),
          i_ 16 (.call 127 [(T 15), (FN 130)])]))))))
def m80 : MF := ⟨17, [], c80⟩
theorem r80 : resF Try.prog Try.f80 = some m80 := by kernel_rfl
theorem k80 : Callable Try.prog 80 := ⟨_, Try.func80, by kernel_rfl, by kernel_rfl⟩

def c81 : MC :=
   (.seq
    (.ops [i_ 2 (.alloc 29 [(.int .i64 0), (.string ⟨⟨[]⟩⟩), (.int .i64 0)]),
      i_ 3 (.mv (KB false))])
    (.seq
     (.ops [i_ 8 (.mv (T 0)),
       i_ 9 (.nilck (T 8)),
       i_ 10 (.faddr 1 (T 9)),
       i_ 11 (.ld1 (T 10)),
       i_ 12 (.build [(.int .i64 0), (.string ⟨⟨[]⟩⟩), (.int .i64 0)] [(2, (1, (T 11)))]),
       i_ 4 (.alloc 29 [(.int .i64 0), (.string ⟨⟨[]⟩⟩), (.int .i64 0)]),
       n_ (.st 3 (T 4) (T 12))])
     (.seq
      (.dops <|
        .op 0 (i_ 13 (.mv (T 0))) <|
        .op 1 (i_ 14 (.nilck (T 13))) <|
        .op 2 (i_ 15 (.faddr 0 (T 14))) <|
        .op 3 (i_ 16 (.ld1 (T 15))) <|
        .op 4 (i_ 17 (.mv (T 0))) <|
        .op 5 (i_ 18 (.nilck (T 17))) <|
        .op 6 (i_ 19 (.faddr 1 (T 18))) <|
        .op 7 (i_ 20 (.ld1 (T 19))) <|
        .op 8 (i_ 21 (.idx (T 16) (T 20))) <|
        .op 9 (i_ 5 (.mv (T 21))) <|
        .nil)
      (.seq
       (.block 0
        (.seq
         (.ops [i_ 24 (.mv (T 5)),
           i_ 25 (.call 131 [(T 24)]),
           i_ 23 (.mv (T 25))])
         (.cond (T 23)
          (.ops [i_ 26 (.mv (T 0)),
            i_ 27 (.call 127 [(T 26), (FN 131)]),
            i_ 28 (.faddr 0 (T 4)),
            n_ (.st 1 (T 28) (KI 1)),
            i_ 29 (.faddr 1 (T 4)),
            n_ (.st 1 (T 29) (T 27))])
          (.seq
           (.ops [i_ 31 (.mv (T 5)),
             i_ 32 (.ib .eql (T 31) (KU 34)),
             i_ 30 (.mv (T 32))])
           (.cond (T 30)
            (.seq
             (.ops [i_ 34 (.mv (T 0)),
               i_ 35 (.call 132 [(T 34)]),
               i_ 33 (.mv (T 35)),
               i_ 36 (.ext (T 33) 0),
               i_ 37 (.ext (T 33) 1),
               i_ 6 (.mv (T 36)),
               i_ 7 (.mv (T 37))])
             (.seq
              (.ops [i_ 38 (.mv (T 6)),
                i_ 39 (.faddr 0 (T 4)),
                n_ (.st 1 (T 39) (KI 2)),
                i_ 40 (.faddr 1 (T 4)),
                n_ (.st 1 (T 40) (T 38))])
              (.seq
               (.ops [i_ 41 (.ldN 3 (T 4)),
                 i_ 42 (.mv (T 7)),
                 n_ (.st 3 (T 2) (T 41)),
                 i_ 3 (.mv (T 42))])
               .ret)))
            (.seq
             (.dops <|
               .op 0 (i_ 44 (.mv (T 0))) <|
               .op 1 (i_ 45 (.nilck (T 44))) <|
               .op 2 (i_ 46 (.faddr 0 (T 45))) <|
               .op 3 (i_ 47 (.ld1 (T 46))) <|
               .op 4 (i_ 48 (.mv (T 0))) <|
               .op 5 (i_ 49 (.nilck (T 48))) <|
               .op 6 (i_ 50 (.faddr 1 (T 49))) <|
               .op 7 (i_ 51 (.ld1 (T 50))) <|
               .op 8 (i_ 52 (.slS (T 47) (some (T 51)) none)) <|
               .op 9 (id_ 53 (.call 129 [(T 52), (KS [45, 62])]) [3, 7]) <|
               .op 10 (i_ 43 (.mv (T 53))) <|
               .nil)
             (.cond (T 43)
              (.seq
               (.ops [i_ 54 (.faddr 0 (T 4)),
                 n_ (.st 1 (T 54) (KI 3)),
                 i_ 55 (.faddr 1 (T 4)),
                 n_ (.st 1 (T 55) (KS [45, 62]))])
               (.ops [i_ 56 (.mv (T 0)),
                 i_ 57 (.nilck (T 56)),
                 i_ 58 (.faddr 1 (T 57)),
                 i_ 59 (.ld1 (T 58)),
                 i_ 60 (.ib .add (T 59) (KI 2)),
                 i_ 61 (.nilck (T 56)),
                 i_ 62 (.faddr 1 (T 61)),
                 n_ (.st 1 (T 62) (T 60))]))
              (.seq
               (.ops [i_ 64 (.mv (T 5)),
                 i_ 65 (.call 133 [(KS [123, 125, 59, 58, 61, 124, 38, 45, 40, 41, 35, 44]), (T 64)]),
                 i_ 66 (.ib .geq (T 65) (KI 0)),
                 i_ 63 (.mv (T 66))])
               (.cond (T 63)
                (.seq
                 (.dops <|
                   .op 0 (i_ 67 (.mv (T 0))) <|
                   .op 1 (i_ 68 (.nilck (T 67))) <|
                   .op 2 (i_ 69 (.faddr 0 (T 68))) <|
                   .op 3 (i_ 70 (.ld1 (T 69))) <|
                   .op 4 (i_ 71 (.mv (T 0))) <|
                   .op 5 (i_ 72 (.nilck (T 71))) <|
                   .op 6 (i_ 73 (.faddr 1 (T 72))) <|
                   .op 7 (i_ 74 (.ld1 (T 73))) <|
                   .op 8 (i_ 75 (.mv (T 0))) <|
                   .op 9 (i_ 76 (.nilck (T 75))) <|
                   .op 10 (i_ 77 (.faddr 1 (T 76))) <|
                   .op 11 (i_ 78 (.ld1 (T 77))) <|
                   .op 12 (i_ 79 (.ib .add (T 78) (KI 1))) <|
                   .op 13 (i_ 80 (.slS (T 70) (some (T 74)) (some (T 79)))) <|
                   .op 14 (i_ 81 (.faddr 0 (T 4))) <|
                   .op 15 (n_ (.st 1 (T 81) (KI 3))) <|
                   .op 16 (i_ 82 (.faddr 1 (T 4))) <|
                   .op 17 (nd_ (.st 1 (T 82) (T 80)) [3, 7, 11]) <|
                   .nil)
                 (.ops [i_ 83 (.mv (T 0)),
                   i_ 84 (.nilck (T 83)),
                   i_ 85 (.faddr 1 (T 84)),
                   i_ 86 (.ld1 (T 85)),
                   i_ 87 (.ib .add (T 86) (KI 1)),
                   i_ 88 (.nilck (T 83)),
                   i_ 89 (.faddr 1 (T 88)),
                   n_ (.st 1 (T 89) (T 87))]))
                (.seq
                 (.ops [i_ 22 (.ldN 3 (T 4)),
                   n_ (.st 3 (T 2) (T 22)),
                   i_ 3 (.mv (KB false))])
                 .ret))))))))))
       (.seq
        (.ops [i_ 90 (.ldN 3 (T 4)),
          n_ (.st 3 (T 2) (T 90)),
          i_ 3 (.mv (KB true))])
        .ret)))))
def m81 : MF := ⟨91, [(.cell 2 3), (.tmp 3)], c81⟩
theorem r81 : resF Try.prog Try.f81 = some m81 := by kernel_rfl
theorem k81 : Callable Try.prog 81 := ⟨_, Try.func81, by kernel_rfl, by kernel_rfl⟩

def c82 : MC :=
   (.seq
    (.ops [i_ 2 (.mv (KB false))])
    (.seq
     (.ops [i_ 3 (.mv (T 0)),
       i_ 4 (.ib .geq (T 3) (KU 97)),
       i_ 5 (.mv (T 4)),
       ig 6 5 true (.mv (T 0)),
       ig 7 5 true (.ib .leq (T 6) (KU 122)),
       i_ 8 (.pick (T 5) (T 7) (KB false)),
       i_ 9 (.mv (T 8)),
       ig 10 9 false (.mv (T 0)),
       ig 11 9 false (.ib .geq (T 10) (KU 65)),
       ig 12 9 false (.mv (T 11)),
       ig 13 12 true (.mv (T 0)),
       ig 14 12 true (.ib .leq (T 13) (KU 90)),
       ig 15 9 false (.pick (T 12) (T 14) (KB false)),
       i_ 16 (.pick (T 9) (KB true) (T 15)),
       i_ 17 (.mv (T 16)),
       ig 18 17 false (.mv (T 0)),
       ig 19 17 false (.ib .geq (T 18) (KU 48)),
       ig 20 17 false (.mv (T 19)),
       ig 21 20 true (.mv (T 0)),
       ig 22 20 true (.ib .leq (T 21) (KU 57)),
       ig 23 17 false (.pick (T 20) (T 22) (KB false)),
       i_ 24 (.pick (T 17) (KB true) (T 23)),
       i_ 25 (.mv (T 24)),
       ig 26 25 false (.mv (T 0)),
       ig 27 25 false (.ib .eql (T 26) (KU 95)),
       i_ 28 (.pick (T 25) (KB true) (T 27)),
       i_ 2 (.mv (T 28))])
     .ret))
def m82 : MF := ⟨29, [(.tmp 2)], c82⟩
theorem r82 : resF Try.prog Try.f82 = some m82 := by kernel_rfl
theorem k82 : Callable Try.prog 82 := ⟨_, Try.func82, by kernel_rfl, by kernel_rfl⟩

def c83 : MC :=
   (.seq
    (.ops [i_ 4 (.mv (KI 0))])
    (.seq
     (.seq
      (.ops [i_ 7 (.mv (T 1)),
        i_ 8 (.ib .add (T 7) (KI 1)),
        i_ 9 (.mv (T 0)),
        i_ 10 (.lenS (T 9)),
        i_ 11 (.ib .lss (T 8) (T 10)),
        i_ 12 (.mv (T 11)),
        ig 13 12 true (.mv (T 0)),
        ig 14 12 true (.mv (T 1)),
        ig 15 12 true (.idx (T 13) (T 14)),
        ig 16 12 true (.ib .eql (T 15) (KU 45)),
        i_ 17 (.pick (T 12) (T 16) (KB false)),
        i_ 18 (.mv (T 17)),
        ig 19 18 true (.mv (T 0)),
        ig 20 18 true (.mv (T 1)),
        ig 21 18 true (.ib .add (T 20) (KI 1)),
        ig 22 18 true (.idx (T 19) (T 21)),
        ig 23 18 true (.ib .eql (T 22) (KU 62)),
        i_ 24 (.pick (T 18) (T 23) (KB false))])
      (.cond (T 24)
       (.seq
        (.ops [i_ 4 (.mv (KI 2))])
        .ret)
       .skip))
     (.seq
      (.ops [i_ 5 (.mv (KS [123, 125, 59, 58, 61, 124, 38, 45, 40, 41, 35, 44]))])
      (.seq
       (.seq
        (.ops [i_ 6 (.mv (KI 0))])
        (.block 0
         (.loop [(25, 31), (31, 38), (4, 5), (6, 7)]
          (.seq
           (.seq
            (.ops [i_ 25 (.mv (T 6)),
              i_ 26 (.mv (T 5)),
              i_ 27 (.lenS (T 26)),
              i_ 28 (.ib .lss (T 25) (T 27))])
            (.cond (T 28)
             .skip
             (.exit 0)))
           (.seq
            (.block 1
             (.seq
              (.dops <|
                .op 0 (i_ 31 (.mv (T 5))) <|
                .op 1 (i_ 32 (.mv (T 6))) <|
                .op 2 (i_ 33 (.idx (T 31) (T 32))) <|
                .op 3 (i_ 34 (.mv (T 0))) <|
                .op 4 (i_ 35 (.mv (T 1))) <|
                .op 5 (i_ 36 (.idx (T 34) (T 35))) <|
                .op 6 (i_ 37 (.ib .eql (T 33) (T 36))) <|
                .nil)
              (.cond (T 37)
               (.seq
                (.ops [i_ 4 (.mv (KI 1))])
                .ret)
               .skip)))
            (.ops [i_ 29 (.mv (T 6)),
              i_ 30 (.ib .add (T 29) (KI 1)),
              i_ 6 (.mv (T 30))]))))))
       (.seq
        (.ops [i_ 4 (.mv (KI 0))])
        .ret)))))
def m83 : MF := ⟨38, [(.tmp 4)], c83⟩
theorem r83 : resF Try.prog Try.f83 = some m83 := by kernel_rfl
theorem k83 : Callable Try.prog 83 := ⟨_, Try.func83, by kernel_rfl, by kernel_rfl⟩

def c127 : MC :=
   (.seq
    (.ops [i_ 4 (.mv (KS []))])
    (.seq
     (.ops [i_ 6 (.mv (T 0)),
       i_ 7 (.nilck (T 6)),
       i_ 8 (.faddr 1 (T 7)),
       i_ 9 (.ld1 (T 8)),
       i_ 5 (.mv (T 9))])
     (.seq
      (.block 0
       (.loop [(10, 40)]
        (.seq
         (.seq
          (.dops <|
            .op 0 (i_ 10 (.mv (T 0))) <|
            .op 1 (i_ 11 (.nilck (T 10))) <|
            .op 2 (i_ 12 (.faddr 1 (T 11))) <|
            .op 3 (i_ 13 (.ld1 (T 12))) <|
            .op 4 (i_ 14 (.mv (T 0))) <|
            .op 5 (i_ 15 (.nilck (T 14))) <|
            .op 6 (i_ 16 (.faddr 0 (T 15))) <|
            .op 7 (i_ 17 (.ld1 (T 16))) <|
            .op 8 (i_ 18 (.lenS (T 17))) <|
            .op 9 (i_ 19 (.ib .lss (T 13) (T 18))) <|
            .op 10 (i_ 20 (.mv (T 19))) <|
            .op 11 (ig 21 20 true (.mv (T 1))) <|
            .op 12 (ig 22 20 true (.mv (T 0))) <|
            .op 13 (ig 23 20 true (.nilck (T 22))) <|
            .op 14 (ig 24 20 true (.faddr 0 (T 23))) <|
            .op 15 (ig 25 20 true (.ld1 (T 24))) <|
            .op 16 (ig 26 20 true (.mv (T 0))) <|
            .op 17 (ig 27 20 true (.nilck (T 26))) <|
            .op 18 (ig 28 20 true (.faddr 1 (T 27))) <|
            .op 19 (ig 29 20 true (.ld1 (T 28))) <|
            .op 20 (ig 30 20 true (.idx (T 25) (T 29))) <|
            .op 21 (igd 31 20 true (.callv (T 21) [(T 30)]) [15, 19, 3, 7]) <|
            .op 22 (i_ 32 (.pick (T 20) (T 31) (KB false))) <|
            .nil)
          (.cond (T 32)
           .skip
           (.exit 0)))
         (.block 1
          (.ops [i_ 33 (.mv (T 0)),
            i_ 34 (.nilck (T 33)),
            i_ 35 (.faddr 1 (T 34)),
            i_ 36 (.ld1 (T 35)),
            i_ 37 (.ib .add (T 36) (KI 1)),
            i_ 38 (.nilck (T 33)),
            i_ 39 (.faddr 1 (T 38)),
            n_ (.st 1 (T 39) (T 37))])))))
      (.seq
       (.dops <|
         .op 0 (i_ 40 (.mv (T 0))) <|
         .op 1 (i_ 41 (.nilck (T 40))) <|
         .op 2 (i_ 42 (.faddr 0 (T 41))) <|
         .op 3 (i_ 43 (.ld1 (T 42))) <|
         .op 4 (i_ 44 (.mv (T 5))) <|
         .op 5 (i_ 45 (.mv (T 0))) <|
         .op 6 (i_ 46 (.nilck (T 45))) <|
         .op 7 (i_ 47 (.faddr 1 (T 46))) <|
         .op 8 (i_ 48 (.ld1 (T 47))) <|
         .op 9 (i_ 49 (.slS (T 43) (some (T 44)) (some (T 48)))) <|
         .op 10 (i_ 4 (.mv (T 49))) <|
         .nil)
       .ret))))
def m127 : MF := ⟨50, [(.tmp 4)], c127⟩
theorem r127 : resF Try.prog Try.f127 = some m127 := by kernel_rfl
theorem k127 : Callable Try.prog 127 := ⟨_, Try.func127, by kernel_rfl, by kernel_rfl⟩

def c128 : MC :=
   (.seq
    (.ops [i_ 2 (.mv (KB false))])
    (.seq
     (.ops [i_ 3 (.mv (T 0)),
       i_ 4 (.ib .eql (T 3) (KU 32)),
       i_ 5 (.mv (T 4)),
       ig 6 5 false (.mv (T 0)),
       ig 7 5 false (.ib .eql (T 6) (KU 9)),
       i_ 8 (.pick (T 5) (KB true) (T 7)),
       i_ 9 (.mv (T 8)),
       ig 10 9 false (.mv (T 0)),
       ig 11 9 false (.ib .eql (T 10) (KU 10)),
       i_ 12 (.pick (T 9) (KB true) (T 11)),
       i_ 13 (.mv (T 12)),
       ig 14 13 false (.mv (T 0)),
       ig 15 13 false (.ib .eql (T 14) (KU 13)),
       i_ 16 (.pick (T 13) (KB true) (T 15)),
       i_ 2 (.mv (T 16))])
     .ret))
def m128 : MF := ⟨17, [(.tmp 2)], c128⟩
theorem r128 : resF Try.prog Try.f128 = some m128 := by kernel_rfl
theorem k128 : Callable Try.prog 128 := ⟨_, Try.func128, by kernel_rfl, by kernel_rfl⟩

def c130 : MC :=
   (.seq
    (.ops [i_ 2 (.mv (KB false))])
    (.seq
     (.ops [i_ 3 (.mv (T 0)),
       i_ 4 (.ib .neq (T 3) (KU 10)),
       i_ 2 (.mv (T 4))])
     .ret))
def m130 : MF := ⟨5, [(.tmp 2)], c130⟩
theorem r130 : resF Try.prog Try.f130 = some m130 := by kernel_rfl
theorem k130 : Callable Try.prog 130 := ⟨_, Try.func130, by kernel_rfl, by kernel_rfl⟩

def c131 : MC :=
   (.seq
    (.ops [i_ 2 (.mv (KB false))])
    (.seq
     (.ops [i_ 3 (.mv (T 0)),
       i_ 4 (.ib .geq (T 3) (KU 97)),
       i_ 5 (.mv (T 4)),
       ig 6 5 true (.mv (T 0)),
       ig 7 5 true (.ib .leq (T 6) (KU 122)),
       i_ 8 (.pick (T 5) (T 7) (KB false)),
       i_ 9 (.mv (T 8)),
       ig 10 9 false (.mv (T 0)),
       ig 11 9 false (.ib .geq (T 10) (KU 65)),
       ig 12 9 false (.mv (T 11)),
       ig 13 12 true (.mv (T 0)),
       ig 14 12 true (.ib .leq (T 13) (KU 90)),
       ig 15 9 false (.pick (T 12) (T 14) (KB false)),
       i_ 16 (.pick (T 9) (KB true) (T 15)),
       i_ 17 (.mv (T 16)),
       ig 18 17 false (.mv (T 0)),
       ig 19 17 false (.ib .geq (T 18) (KU 48)),
       ig 20 17 false (.mv (T 19)),
       ig 21 20 true (.mv (T 0)),
       ig 22 20 true (.ib .leq (T 21) (KU 57)),
       ig 23 17 false (.pick (T 20) (T 22) (KB false)),
       i_ 24 (.pick (T 17) (KB true) (T 23)),
       i_ 25 (.mv (T 24)),
       ig 26 25 false (.mv (T 0)),
       ig 27 25 false (.ib .eql (T 26) (KU 95)),
       i_ 28 (.pick (T 25) (KB true) (T 27)),
       i_ 2 (.mv (T 28))])
     .ret))
def m131 : MF := ⟨29, [(.tmp 2)], c131⟩
theorem r131 : resF Try.prog Try.f131 = some m131 := by kernel_rfl
theorem k131 : Callable Try.prog 131 := ⟨_, Try.func131, by kernel_rfl, by kernel_rfl⟩

def c132 : MC :=
   (.seq
    (.ops [i_ 2 (.mv (KS [])),
      i_ 3 (.mv (KB false))])
    (.seq
     (.ops [i_ 5 (.mv (T 0)),
       i_ 6 (.nilck (T 5)),
       i_ 7 (.faddr 1 (T 6)),
       i_ 8 (.ld1 (T 7)),
       i_ 9 (.ib .add (T 8) (KI 1)),
       i_ 10 (.nilck (T 5)),
       i_ 11 (.faddr 1 (T 10)),
       n_ (.st 1 (T 11) (T 9))])
     (.seq
      (.ops [i_ 12 (.mv (T 0)),
        i_ 13 (.call 127 [(T 12), (FN 159)]),
        i_ 4 (.mv (T 13))])
      (.seq
       (.seq
        (.dops <|
          .op 0 (i_ 14 (.mv (T 0))) <|
          .op 1 (i_ 15 (.nilck (T 14))) <|
          .op 2 (i_ 16 (.faddr 1 (T 15))) <|
          .op 3 (i_ 17 (.ld1 (T 16))) <|
          .op 4 (i_ 18 (.mv (T 0))) <|
          .op 5 (i_ 19 (.nilck (T 18))) <|
          .op 6 (i_ 20 (.faddr 0 (T 19))) <|
          .op 7 (i_ 21 (.ld1 (T 20))) <|
          .op 8 (i_ 22 (.lenS (T 21))) <|
          .op 9 (i_ 23 (.ib .eql (T 17) (T 22))) <|
          .op 10 (i_ 24 (.mv (T 23))) <|
          .op 11 (ig 25 24 false (.mv (T 0))) <|
          .op 12 (ig 26 24 false (.nilck (T 25))) <|
          .op 13 (ig 27 24 false (.faddr 0 (T 26))) <|
          .op 14 (ig 28 24 false (.ld1 (T 27))) <|
          .op 15 (ig 29 24 false (.mv (T 0))) <|
          .op 16 (ig 30 24 false (.nilck (T 29))) <|
          .op 17 (ig 31 24 false (.faddr 1 (T 30))) <|
          .op 18 (ig 32 24 false (.ld1 (T 31))) <|
          .op 19 (ig 33 24 false (.idx (T 28) (T 32))) <|
          .op 20 (ig 34 24 false (.ib .neq (T 33) (KU 34))) <|
          .op 21 (i_ 35 (.pick (T 24) (KB true) (T 34))) <|
          .nil)
        (.cond (T 35)
         (.seq
          (.ops [i_ 2 (.mv (KS [])),
            i_ 3 (.mv (KB false))])
          .ret)
         .skip))
       (.seq
        (.ops [i_ 36 (.mv (T 0)),
          i_ 37 (.nilck (T 36)),
          i_ 38 (.faddr 1 (T 37)),
          i_ 39 (.ld1 (T 38)),
          i_ 40 (.ib .add (T 39) (KI 1)),
          i_ 41 (.nilck (T 36)),
          i_ 42 (.faddr 1 (T 41)),
          n_ (.st 1 (T 42) (T 40))])
        (.seq
         (.ops [i_ 43 (.mv (T 4)),
           i_ 2 (.mv (T 43)),
           i_ 3 (.mv (KB true))])
         .ret))))))
def m132 : MF := ⟨44, [(.tmp 2), (.tmp 3)], c132⟩
theorem r132 : resF Try.prog Try.f132 = some m132 := by kernel_rfl
theorem k132 : Callable Try.prog 132 := ⟨_, Try.func132, by kernel_rfl, by kernel_rfl⟩

def c158 : MC :=
   (.seq
    (.ops [i_ 4 (.mv (KB false))])
    (.seq
     (.ops [i_ 5 (.mv (T 0)),
       i_ 6 (.lenS (T 5)),
       i_ 7 (.mv (T 1)),
       i_ 8 (.lenS (T 7)),
       i_ 9 (.ib .geq (T 6) (T 8)),
       i_ 10 (.mv (T 9)),
       ig 11 10 true (.mv (T 0)),
       ig 12 10 true (.mv (T 1)),
       ig 13 10 true (.lenS (T 12)),
       ig 14 10 true (.slS (T 11) none (some (T 13))),
       ig 15 10 true (.mv (T 1)),
       ig 16 10 true (.sb .eql (T 14) (T 15)),
       i_ 17 (.pick (T 10) (T 16) (KB false)),
       i_ 4 (.mv (T 17))])
     .ret))
def m158 : MF := ⟨18, [(.tmp 4)], c158⟩
theorem r158 : resF Try.prog Try.f158 = some m158 := by kernel_rfl
theorem k158 : Callable Try.prog 158 := ⟨_, Try.func158, by kernel_rfl, by kernel_rfl⟩

def c129 : MC :=
   (.seq
    (.ops [i_ 4 (.mv (KB false))])
    (.seq
     (.ops [i_ 5 (.mv (T 0)),
       i_ 6 (.mv (T 1)),
       i_ 7 (.call 158 [(T 5), (T 6)]),
       i_ 4 (.mv (T 7))])
     .ret))
def m129 : MF := ⟨8, [(.tmp 4)], c129⟩
theorem r129 : resF Try.prog Try.f129 = some m129 := by kernel_rfl
theorem k129 : Callable Try.prog 129 := ⟨_, Try.func129, by kernel_rfl, by kernel_rfl⟩

def c159 : MC :=
   (.seq
    (.ops [i_ 2 (.mv (KB false))])
    (.seq
     (.ops [i_ 3 (.mv (T 0)),
       i_ 4 (.ib .geq (T 3) (KU 32)),
       i_ 5 (.mv (T 4)),
       ig 6 5 true (.mv (T 0)),
       ig 7 5 true (.ib .leq (T 6) (KU 126)),
       i_ 8 (.pick (T 5) (T 7) (KB false)),
       i_ 9 (.mv (T 8)),
       ig 10 9 true (.mv (T 0)),
       ig 11 9 true (.ib .neq (T 10) (KU 34)),
       i_ 12 (.pick (T 9) (T 11) (KB false)),
       i_ 2 (.mv (T 12))])
     .ret))
def m159 : MF := ⟨13, [(.tmp 2)], c159⟩
theorem r159 : resF Try.prog Try.f159 = some m159 := by kernel_rfl
theorem k159 : Callable Try.prog 159 := ⟨_, Try.func159, by kernel_rfl, by kernel_rfl⟩

end Go.Proofs.Ytcgbcbdgjhnlaaa
