/- Functions of the program, resolved: made by a program of ours; each is checked by the kernel. -/
import Derived.Test.YtkhgmmejgikgnaaTools
namespace Go.Proofs.Ytkhgmmejgikgnaa
def c3 : MC :=
   (.seq
    (.ops [i_ 4 (.mv (KB false))])
    (.seq
     (.ops [i_ 9 (.mv (T 0)),
       i_ 10 (.call 5 [(T 9), (KI 20)]),
       i_ 11 (.mv (T 1)),
       i_ 12 (.call 5 [(T 11), (KI 40)]),
       i_ 0 (.mv (T 10)),
       i_ 1 (.mv (T 12))])
     (.seq
      (.ops [i_ 14 (.mv (T 0)),
        i_ 15 (.mv (T 1)),
        i_ 16 (.call 6 [(T 14), (T 15)]),
        i_ 13 (.mv (T 16)),
        i_ 17 (.ext (T 13) 0),
        i_ 18 (.ext (T 13) 1),
        i_ 5 (.mv (T 17)),
        i_ 6 (.mv (T 18))])
      (.seq
       (.ops [i_ 20 (.mv (T 0)),
         i_ 21 (.mv (T 1)),
         i_ 22 (.call 7 [(T 20), (T 21)]),
         i_ 19 (.mv (T 22)),
         i_ 23 (.ext (T 19) 0),
         i_ 24 (.ext (T 19) 1),
         i_ 7 (.mv (T 23)),
         i_ 8 (.mv (T 24))])
       (.seq
        (.ops [i_ 25 (.mv (T 5)),
          i_ 26 (.mv (T 7)),
          i_ 27 (.ib .eql (T 25) (T 26)),
          i_ 28 (.mv (T 27)),
          ig 29 28 true (.mv (T 6)),
          ig 30 28 true (.mv (T 8)),
          ig 31 28 true (.ib .eql (T 29) (T 30)),
          i_ 32 (.pick (T 28) (T 31) (KB false)),
          i_ 33 (.mv (T 32)),
          ig 34 33 true (.mv (T 1)),
          ig 35 33 true (.call 9 [(T 34)]),
          ig 36 33 true (.mv (T 1)),
          ig 37 33 true (.call 10 [(T 36)]),
          ig 38 33 true (.call 8 [(T 35), (T 37)]),
          i_ 39 (.pick (T 33) (T 38) (KB false)),
          i_ 40 (.mv (T 39)),
          ig 41 40 true (.call 11 []),
          i_ 42 (.pick (T 40) (T 41) (KB false)),
          i_ 4 (.mv (T 42))])
        .ret)))))
def m3 : MF := ⟨43, [(.tmp 4)], c3⟩
theorem r3 : resF Try.prog Try.f3 = some m3 := by kernel_rfl

def c4 : MC :=
   (.seq
    (.ops [i_ 4 (.mv (KB false))])
    (.seq
     (.ops [i_ 16 (.call 12 []),
       i_ 5 (.mv (T 16))])
     (.seq
      (.ops [i_ 17 (.mv (T 0)),
        i_ 18 (.mv (T 5)),
        i_ 19 (.lenV (T 18)),
        i_ 20 (.ib .sub (T 19) (KI 1)),
        i_ 21 (.call 13 [(T 17), (KI 0), (T 20)]),
        i_ 0 (.mv (T 21))])
      (.seq
       (.dops <|
         .op 0 (i_ 23 (.mv (T 5))) <|
         .op 1 (i_ 24 (.mv (T 0))) <|
         .op 2 (i_ 25 (.iaddr 3 (T 23) (T 24))) <|
         .op 3 (i_ 26 (.faddr 1 (T 25))) <|
         .op 4 (i_ 27 (.ld1 (T 26))) <|
         .op 5 (i_ 28 (.mv (T 5))) <|
         .op 6 (i_ 29 (.mv (T 0))) <|
         .op 7 (i_ 30 (.iaddr 3 (T 28) (T 29))) <|
         .op 8 (i_ 31 (.faddr 0 (T 30))) <|
         .op 9 (i_ 32 (.ld1 (T 31))) <|
         .op 10 (id_ 33 (.call 6 [(T 27), (T 32)]) [9, 4]) <|
         .op 11 (i_ 22 (.mv (T 33))) <|
         .op 12 (i_ 34 (.ext (T 22) 0)) <|
         .op 13 (i_ 35 (.ext (T 22) 1)) <|
         .op 14 (i_ 6 (.mv (T 34))) <|
         .op 15 (i_ 7 (.mv (T 35))) <|
         .nil)
       (.seq
        (.seq
         (.ops [i_ 36 (.mv (T 7)),
           i_ 37 (.ib .neq (T 36) (KI 0)),
           i_ 38 (.mv (T 37)),
           ig 39 38 false (.mv (T 6)),
           ig 40 38 false (.mv (T 5)),
           ig 41 38 false (.mv (T 0)),
           ig 42 38 false (.iaddr 3 (T 40) (T 41)),
           ig 43 38 false (.faddr 2 (T 42)),
           ig 44 38 false (.ld1 (T 43)),
           ig 45 38 false (.ib .neq (T 39) (T 44)),
           i_ 46 (.pick (T 38) (KB true) (T 45))])
         (.cond (T 46)
          (.seq
           (.ops [i_ 4 (.mv (KB false))])
           .ret)
          .skip))
        (.seq
         (.seq
          (.ops [i_ 8 (.mv (KI 0))])
          (.block 0
           (.loop [(47, 53), (54, 78), (53, 54), (9, 11), (4, 5), (8, 9)]
            (.seq
             (.seq
              (.ops [i_ 47 (.mv (T 8)),
                i_ 48 (.mv (T 5)),
                i_ 49 (.lenV (T 48)),
                i_ 50 (.ib .lss (T 47) (T 49))])
              (.cond (T 50)
               .skip
               (.exit 0)))
             (.seq
              (.block 1
               (.seq
                (.dops <|
                  .op 0 (i_ 54 (.mv (T 5))) <|
                  .op 1 (i_ 55 (.mv (T 8))) <|
                  .op 2 (i_ 56 (.iaddr 3 (T 54) (T 55))) <|
                  .op 3 (i_ 57 (.faddr 1 (T 56))) <|
                  .op 4 (i_ 58 (.ld1 (T 57))) <|
                  .op 5 (i_ 59 (.mv (T 5))) <|
                  .op 6 (i_ 60 (.mv (T 8))) <|
                  .op 7 (i_ 61 (.iaddr 3 (T 59) (T 60))) <|
                  .op 8 (i_ 62 (.faddr 0 (T 61))) <|
                  .op 9 (i_ 63 (.ld1 (T 62))) <|
                  .op 10 (id_ 64 (.call 6 [(T 58), (T 63)]) [9, 4]) <|
                  .op 11 (i_ 53 (.mv (T 64))) <|
                  .op 12 (i_ 65 (.ext (T 53) 0)) <|
                  .op 13 (i_ 66 (.ext (T 53) 1)) <|
                  .op 14 (i_ 9 (.mv (T 65))) <|
                  .op 15 (i_ 10 (.mv (T 66))) <|
                  .nil)
                (.seq
                 (.ops [i_ 67 (.mv (T 10)),
                   i_ 68 (.ib .neq (T 67) (KI 0)),
                   i_ 69 (.mv (T 68)),
                   ig 70 69 false (.mv (T 9)),
                   ig 71 69 false (.mv (T 6)),
                   ig 72 69 false (.ib .eql (T 70) (T 71)),
                   ig 73 69 false (.mv (T 8)),
                   ig 74 69 false (.mv (T 0)),
                   ig 75 69 false (.ib .eql (T 73) (T 74)),
                   ig 76 69 false (.bb .neq (T 72) (T 75)),
                   i_ 77 (.pick (T 69) (KB true) (T 76))])
                 (.cond (T 77)
                  (.seq
                   (.ops [i_ 4 (.mv (KB false))])
                   .ret)
                  .skip))))
              (.ops [i_ 51 (.mv (T 8)),
                i_ 52 (.ib .add (T 51) (KI 1)),
                i_ 8 (.mv (T 52))]))))))
         (.seq
          (.ops [i_ 11 (.mv (KB false))])
          (.seq
           (.ops [i_ 78 (.mv (T 5)),
             i_ 79 (.mv (T 0)),
             i_ 80 (.iaddr 3 (T 78) (T 79)),
             i_ 81 (.faddr 0 (T 80)),
             i_ 82 (.ld1 (T 81)),
             i_ 83 (.call 9 [(T 82)]),
             i_ 12 (.mv (T 83))])
           (.seq
            (.seq
             (.ops [i_ 13 (.mv (KI 0))])
             (.block 2
              (.loop [(84, 90), (90, 99), (11, 12), (13, 14)]
               (.seq
                (.seq
                 (.ops [i_ 84 (.mv (T 13)),
                   i_ 85 (.mv (T 12)),
                   i_ 86 (.lenV (T 85)),
                   i_ 87 (.ib .lss (T 84) (T 86))])
                 (.cond (T 87)
                  .skip
                  (.exit 2)))
                (.seq
                 (.block 3
                  (.ops [i_ 90 (.mv (T 11)),
                    i_ 91 (.mv (T 90)),
                    ig 92 91 false (.mv (T 12)),
                    ig 93 91 false (.mv (T 13)),
                    ig 94 91 false (.iaddr 1 (T 92) (T 93)),
                    ig 95 91 false (.ld1 (T 94)),
                    ig 96 91 false (.mv (T 1)),
                    ig 97 91 false (.sb .eql (T 95) (T 96)),
                    i_ 98 (.pick (T 91) (KB true) (T 97)),
                    i_ 11 (.mv (T 98))]))
                 (.ops [i_ 88 (.mv (T 13)),
                   i_ 89 (.ib .add (T 88) (KI 1)),
                   i_ 13 (.mv (T 89))]))))))
            (.seq
             (.ops [i_ 100 (.mv (T 1)),
               i_ 101 (.mv (T 5)),
               i_ 102 (.mv (T 0)),
               i_ 103 (.iaddr 3 (T 101) (T 102)),
               i_ 104 (.faddr 0 (T 103)),
               i_ 105 (.ld1 (T 104)),
               i_ 106 (.call 6 [(T 100), (T 105)]),
               i_ 99 (.mv (T 106)),
               i_ 107 (.ext (T 99) 0),
               i_ 108 (.ext (T 99) 1),
               i_ 14 (.mv (T 107)),
               i_ 15 (.mv (T 108))])
             (.seq
              (.ops [i_ 109 (.mv (T 15)),
                i_ 110 (.ib .eql (T 109) (KI 0)),
                i_ 111 (.mv (T 11)),
                i_ 112 (.bb .eql (T 110) (T 111)),
                i_ 113 (.mv (T 112)),
                ig 114 113 true (.mv (T 11)),
                ig 115 113 true (.mv (T 114)),
                ig 116 115 false (.mv (T 15)),
                ig 117 115 false (.ib .eql (T 116) (KI 23)),
                ig 118 113 true (.pick (T 115) (KB true) (T 117)),
                i_ 119 (.pick (T 113) (T 118) (KB false)),
                i_ 120 (.mv (T 119)),
                ig 121 120 true (.call 11 []),
                i_ 122 (.pick (T 120) (T 121) (KB false)),
                i_ 4 (.mv (T 122))])
              .ret)))))))))))
def m4 : MF := ⟨123, [(.tmp 4)], c4⟩
theorem r4 : resF Try.prog Try.f4 = some m4 := by kernel_rfl

def c5 : MC :=
   (.seq
    (.ops [i_ 4 (.mv (KS []))])
    (.seq
     (.seq
      (.ops [i_ 5 (.mv (T 0)),
        i_ 6 (.lenS (T 5)),
        i_ 7 (.mv (T 1)),
        i_ 8 (.ib .gtr (T 6) (T 7))])
      (.cond (T 8)
       (.seq
        (.ops [i_ 9 (.mv (T 0)),
          i_ 10 (.mv (T 1)),
          i_ 11 (.slS (T 9) none (some (T 10))),
          i_ 4 (.mv (T 11))])
        .ret)
       .skip))
     (.seq
      (.ops [i_ 12 (.mv (T 0)),
        i_ 4 (.mv (T 12))])
      .ret)))
def m5 : MF := ⟨13, [(.tmp 4)], c5⟩
theorem r5 : resF Try.prog Try.f5 = some m5 := by kernel_rfl

def c6 : MC :=
   (.seq
    (.ops [i_ 4 (.mv (KI 0)),
      i_ 5 (.mv (KI 0))])
    (.seq
     (.ops [i_ 7 (.mv (T 1)),
       i_ 8 (.call 14 [(T 7)]),
       i_ 6 (.alloc 40 [(.int .i64 0), (.int .i64 0)]),
       n_ (.st 2 (T 6) (T 8))])
     (.seq
      (.block 0
       (.seq
        (.ops [i_ 10 (.ldN 2 (T 6)),
          i_ 11 (.build [(.int .i64 0), (.int .i64 0)] []),
          i_ 12 (.eqA false 40 [40] [1, 1] (T 10) (T 11)),
          i_ 9 (.mv (T 12))])
        (.cond (T 9)
         (.seq
          (.ops [i_ 4 (.mv (KI 0)),
            i_ 5 (.mv (KI 24))])
          .ret)
         (.seq
          (.ops [i_ 14 (.mv (T 0)),
            i_ 15 (.sb .eql (T 14) (KS [80, 79, 83, 84])),
            i_ 16 (.mv (T 15)),
            ig 17 16 true (.faddr 0 (T 6)),
            ig 18 16 true (.ld1 (T 17)),
            ig 19 16 true (.ib .gtr (T 18) (KI 0)),
            i_ 20 (.pick (T 16) (T 19) (KB false)),
            i_ 13 (.mv (T 20))])
          (.cond (T 13)
           (.seq
            (.ops [i_ 21 (.faddr 0 (T 6)),
              i_ 22 (.ld1 (T 21)),
              i_ 4 (.mv (T 22)),
              i_ 5 (.mv (KI 0))])
            .ret)
           (.seq
            (.ops [i_ 24 (.mv (T 0)),
              i_ 25 (.sb .eql (T 24) (KS [71, 69, 84])),
              i_ 26 (.mv (T 25)),
              ig 27 26 true (.faddr 1 (T 6)),
              ig 28 26 true (.ld1 (T 27)),
              ig 29 26 true (.ib .gtr (T 28) (KI 0)),
              i_ 30 (.pick (T 26) (T 29) (KB false)),
              i_ 23 (.mv (T 30))])
            (.cond (T 23)
             (.seq
              (.ops [i_ 31 (.faddr 1 (T 6)),
                i_ 32 (.ld1 (T 31)),
                i_ 4 (.mv (T 32)),
                i_ 5 (.mv (KI 0))])
              .ret)
             .skip)))))))
      (.seq
       (.ops [i_ 4 (.mv (KI 0)),
         i_ 5 (.mv (KI 23))])
       .ret))))
def m6 : MF := ⟨33, [(.tmp 4), (.tmp 5)], c6⟩
theorem r6 : resF Try.prog Try.f6 = some m6 := by kernel_rfl

def c7 : MC :=
   (.seq
    (.ops [i_ 4 (.mv (KI 0)),
      i_ 5 (.mv (KI 0))])
    (.seq
     (.ops [i_ 9 (.call 12 []),
       i_ 6 (.mv (T 9))])
     (.seq
      (.ops [i_ 7 (.mv (KI 24))])
      (.seq
       (.seq
        (.ops [i_ 8 (.mv (KI 0))])
        (.block 0
         (.loop [(10, 16), (16, 35), (4, 6), (7, 9)]
          (.seq
           (.seq
            (.ops [i_ 10 (.mv (T 8)),
              i_ 11 (.mv (T 6)),
              i_ 12 (.lenV (T 11)),
              i_ 13 (.ib .lss (T 10) (T 12))])
            (.cond (T 13)
             .skip
             (.exit 0)))
           (.seq
            (.block 1
             (.seq
              (.ops [i_ 16 (.mv (T 6)),
                i_ 17 (.mv (T 8)),
                i_ 18 (.iaddr 3 (T 16) (T 17)),
                i_ 19 (.faddr 0 (T 18)),
                i_ 20 (.ld1 (T 19)),
                i_ 21 (.mv (T 1)),
                i_ 22 (.sb .eql (T 20) (T 21))])
              (.cond (T 22)
               (.seq
                (.seq
                 (.ops [i_ 23 (.mv (T 6)),
                   i_ 24 (.mv (T 8)),
                   i_ 25 (.iaddr 3 (T 23) (T 24)),
                   i_ 26 (.faddr 1 (T 25)),
                   i_ 27 (.ld1 (T 26)),
                   i_ 28 (.mv (T 0)),
                   i_ 29 (.sb .eql (T 27) (T 28))])
                 (.cond (T 29)
                  (.seq
                   (.ops [i_ 30 (.mv (T 6)),
                     i_ 31 (.mv (T 8)),
                     i_ 32 (.iaddr 3 (T 30) (T 31)),
                     i_ 33 (.faddr 2 (T 32)),
                     i_ 34 (.ld1 (T 33)),
                     i_ 4 (.mv (T 34)),
                     i_ 5 (.mv (KI 0))])
                   .ret)
                  .skip))
                (.ops [i_ 7 (.mv (KI 23))]))
               .skip)))
            (.ops [i_ 14 (.mv (T 8)),
              i_ 15 (.ib .add (T 14) (KI 1)),
              i_ 8 (.mv (T 15))]))))))
       (.seq
        (.ops [i_ 35 (.mv (T 7)),
          i_ 4 (.mv (KI 0)),
          i_ 5 (.mv (T 35))])
        .ret)))))
def m7 : MF := ⟨36, [(.tmp 4), (.tmp 5)], c7⟩
theorem r7 : resF Try.prog Try.f7 = some m7 := by kernel_rfl

def c8 : MC :=
   (.seq
    (.ops [i_ 4 (.mv (KB false))])
    (.seq
     (.seq
      (.ops [i_ 6 (.mv (T 0)),
        i_ 7 (.lenV (T 6)),
        i_ 8 (.mv (T 1)),
        i_ 9 (.lenV (T 8)),
        i_ 10 (.ib .neq (T 7) (T 9))])
      (.cond (T 10)
       (.seq
        (.ops [i_ 4 (.mv (KB false))])
        .ret)
       .skip))
     (.seq
      (.seq
       (.ops [i_ 5 (.mv (KI 0))])
       (.block 0
        (.loop [(11, 17), (17, 26), (4, 6)]
         (.seq
          (.seq
           (.ops [i_ 11 (.mv (T 5)),
             i_ 12 (.mv (T 0)),
             i_ 13 (.lenV (T 12)),
             i_ 14 (.ib .lss (T 11) (T 13))])
           (.cond (T 14)
            .skip
            (.exit 0)))
          (.seq
           (.block 1
            (.seq
             (.dops <|
               .op 0 (i_ 17 (.mv (T 0))) <|
               .op 1 (i_ 18 (.mv (T 5))) <|
               .op 2 (i_ 19 (.iaddr 1 (T 17) (T 18))) <|
               .op 3 (i_ 20 (.ld1 (T 19))) <|
               .op 4 (i_ 21 (.mv (T 1))) <|
               .op 5 (i_ 22 (.mv (T 5))) <|
               .op 6 (i_ 23 (.iaddr 1 (T 21) (T 22))) <|
               .op 7 (i_ 24 (.ld1 (T 23))) <|
               .op 8 (i_ 25 (.sb .neq (T 20) (T 24))) <|
               .nil)
             (.cond (T 25)
              (.seq
               (.ops [i_ 4 (.mv (KB false))])
               .ret)
              .skip)))
           (.ops [i_ 15 (.mv (T 5)),
             i_ 16 (.ib .add (T 15) (KI 1)),
             i_ 5 (.mv (T 16))]))))))
      (.seq
       (.ops [i_ 4 (.mv (KB true))])
       .ret))))
def m8 : MF := ⟨26, [(.tmp 4)], c8⟩
theorem r8 : resF Try.prog Try.f8 = some m8 := by kernel_rfl

def c9 : MC :=
   (.seq
    (.ops [i_ 2 (.mv (.const (.slice none 0 0)))])
    (.seq
     (.ops [i_ 3 (.mv (.const (.slice none 0 0)))])
     (.seq
      (.ops [i_ 5 (.mv (T 0)),
        i_ 6 (.call 14 [(T 5)]),
        i_ 4 (.alloc 40 [(.int .i64 0), (.int .i64 0)]),
        n_ (.st 2 (T 4) (T 6))])
      (.seq
       (.seq
        (.ops [i_ 7 (.faddr 1 (T 4)),
          i_ 8 (.ld1 (T 7)),
          i_ 9 (.ib .gtr (T 8) (KI 0))])
        (.cond (T 9)
         (.ops [i_ 10 (.mv (T 3)),
           i_ 11 (.bslice 9 [(.string ⟨⟨[]⟩⟩)] 1 1 [(0, (1, (KS [71, 69, 84])))]),
           i_ 12 (.append 9 1 16 (T 10) (T 11)),
           i_ 3 (.mv (T 12))])
         .skip))
       (.seq
        (.seq
         (.ops [i_ 13 (.faddr 0 (T 4)),
           i_ 14 (.ld1 (T 13)),
           i_ 15 (.ib .gtr (T 14) (KI 0))])
         (.cond (T 15)
          (.ops [i_ 16 (.mv (T 3)),
            i_ 17 (.bslice 9 [(.string ⟨⟨[]⟩⟩)] 1 1 [(0, (1, (KS [80, 79, 83, 84])))]),
            i_ 18 (.append 9 1 16 (T 16) (T 17)),
            i_ 3 (.mv (T 18))])
          .skip))
        (.seq
         (.ops [i_ 19 (.mv (T 3)),
           i_ 2 (.mv (T 19))])
         .ret))))))
def m9 : MF := ⟨20, [(.tmp 2)], c9⟩
theorem r9 : resF Try.prog Try.f9 = some m9 := by kernel_rfl

def c10 : MC :=
   (.seq
    (.ops [i_ 2 (.mv (.const (.slice none 0 0)))])
    (.seq
     (.ops [i_ 6 (.call 12 []),
       i_ 3 (.mv (T 6))])
     (.seq
      (.ops [i_ 4 (.mv (.const (.slice none 0 0)))])
      (.seq
       (.seq
        (.ops [i_ 5 (.mv (KI 0))])
        (.block 0
         (.loop [(7, 13), (13, 28), (4, 6)]
          (.seq
           (.seq
            (.ops [i_ 7 (.mv (T 5)),
              i_ 8 (.mv (T 3)),
              i_ 9 (.lenV (T 8)),
              i_ 10 (.ib .lss (T 7) (T 9))])
            (.cond (T 10)
             .skip
             (.exit 0)))
           (.seq
            (.block 1
             (.seq
              (.ops [i_ 13 (.mv (T 3)),
                i_ 14 (.mv (T 5)),
                i_ 15 (.iaddr 3 (T 13) (T 14)),
                i_ 16 (.faddr 0 (T 15)),
                i_ 17 (.ld1 (T 16)),
                i_ 18 (.mv (T 0)),
                i_ 19 (.sb .eql (T 17) (T 18))])
              (.cond (T 19)
               (.ops [i_ 20 (.mv (T 4)),
                 i_ 21 (.mv (T 3)),
                 i_ 22 (.mv (T 5)),
                 i_ 23 (.iaddr 3 (T 21) (T 22)),
                 i_ 24 (.faddr 1 (T 23)),
                 i_ 25 (.ld1 (T 24)),
                 i_ 26 (.bslice 9 [(.string ⟨⟨[]⟩⟩)] 1 1 [(0, (1, (T 25)))]),
                 i_ 27 (.append 9 1 16 (T 20) (T 26)),
                 i_ 4 (.mv (T 27))])
               .skip)))
            (.ops [i_ 11 (.mv (T 5)),
              i_ 12 (.ib .add (T 11) (KI 1)),
              i_ 5 (.mv (T 12))]))))))
       (.seq
        (.ops [i_ 28 (.mv (T 4)),
          i_ 2 (.mv (T 28))])
        .ret)))))
def m10 : MF := ⟨29, [(.tmp 2)], c10⟩
theorem r10 : resF Try.prog Try.f10 = some m10 := by kernel_rfl

def c11 : MC :=
   (.seq
    (.ops [i_ 0 (.mv (KB false))])
    (.seq
     (.ops [i_ 4 (.call 6 [(KS [80, 79, 83, 84]), (KS [47, 116, 111, 107, 101, 110])]),
       i_ 3 (.mv (T 4)),
       i_ 5 (.ext (T 3) 0),
       i_ 6 (.ext (T 3) 1),
       i_ 1 (.mv (T 5)),
       i_ 2 (.mv (T 6))])
     (.seq
      (.ops [i_ 7 (.mv (T 2)),
        i_ 8 (.ib .eql (T 7) (KI 0)),
        i_ 9 (.mv (T 8)),
        ig 10 9 true (.mv (T 1)),
        ig 11 9 true (.ib .eql (T 10) (KI 2)),
        i_ 12 (.pick (T 9) (T 11) (KB false)),
        i_ 0 (.mv (T 12))])
      .ret)))
def m11 : MF := ⟨13, [(.tmp 0)], c11⟩
theorem r11 : resF Try.prog Try.f11 = some m11 := by kernel_rfl

def c12 : MC :=
   (.seq
    (.ops [i_ 0 (.mv (.const (.slice none 0 0)))])
    (.seq
     (.ops [i_ 1 (.build [(.string ⟨⟨[]⟩⟩), (.string ⟨⟨[]⟩⟩), (.int .i64 0)] [(0, (1, (KS [47, 97, 117, 116, 104, 111, 114, 105, 122, 101]))), (1, (1, (KS [80, 79, 83, 84]))), (2, (1, (KI 1)))]),
       i_ 2 (.build [(.string ⟨⟨[]⟩⟩), (.string ⟨⟨[]⟩⟩), (.int .i64 0)] [(0, (1, (KS [47, 116, 111, 107, 101, 110]))), (1, (1, (KS [80, 79, 83, 84]))), (2, (1, (KI 2)))]),
       i_ 3 (.build [(.string ⟨⟨[]⟩⟩), (.string ⟨⟨[]⟩⟩), (.int .i64 0)] [(0, (1, (KS [47, 105, 110, 116, 114, 111, 115, 112, 101, 99, 116]))), (1, (1, (KS [80, 79, 83, 84]))), (2, (1, (KI 3)))]),
       i_ 4 (.build [(.string ⟨⟨[]⟩⟩), (.string ⟨⟨[]⟩⟩), (.int .i64 0)] [(0, (1, (KS [47, 114, 101, 118, 111, 107, 101]))), (1, (1, (KS [80, 79, 83, 84]))), (2, (1, (KI 4)))]),
       i_ 5 (.build [(.string ⟨⟨[]⟩⟩), (.string ⟨⟨[]⟩⟩), (.int .i64 0)] [(0, (1, (KS [47, 99, 111, 110, 115, 101, 110, 116]))), (1, (1, (KS [80, 79, 83, 84]))), (2, (1, (KI 5)))]),
       i_ 6 (.build [(.string ⟨⟨[]⟩⟩), (.string ⟨⟨[]⟩⟩), (.int .i64 0)] [(0, (1, (KS [47, 119, 105, 116, 104, 100, 114, 97, 119]))), (1, (1, (KS [80, 79, 83, 84]))), (2, (1, (KI 6)))]),
       i_ 7 (.build [(.string ⟨⟨[]⟩⟩), (.string ⟨⟨[]⟩⟩), (.int .i64 0)] [(0, (1, (KS [47, 99, 108, 105, 101, 110, 116, 115]))), (1, (1, (KS [80, 79, 83, 84]))), (2, (1, (KI 7)))]),
       i_ 8 (.build [(.string ⟨⟨[]⟩⟩), (.string ⟨⟨[]⟩⟩), (.int .i64 0)] [(0, (1, (KS [47, 99, 108, 105, 101, 110, 116, 115, 47, 114, 101, 109, 111, 118, 101]))), (1, (1, (KS [80, 79, 83, 84]))), (2, (1, (KI 8)))]),
       i_ 9 (.build [(.string ⟨⟨[]⟩⟩), (.string ⟨⟨[]⟩⟩), (.int .i64 0)] [(0, (1, (KS [47, 116, 117, 112, 108, 101, 115]))), (1, (1, (KS [71, 69, 84]))), (2, (1, (KI 10)))]),
       i_ 10 (.build [(.string ⟨⟨[]⟩⟩), (.string ⟨⟨[]⟩⟩), (.int .i64 0)] [(0, (1, (KS [47, 116, 117, 112, 108, 101, 115]))), (1, (1, (KS [80, 79, 83, 84]))), (2, (1, (KI 9)))]),
       i_ 11 (.build [(.string ⟨⟨[]⟩⟩), (.string ⟨⟨[]⟩⟩), (.int .i64 0)] [(0, (1, (KS [47, 99, 104, 101, 99, 107]))), (1, (1, (KS [71, 69, 84]))), (2, (1, (KI 11)))]),
       i_ 12 (.build [(.string ⟨⟨[]⟩⟩), (.string ⟨⟨[]⟩⟩), (.int .i64 0)] [(0, (1, (KS [47, 101, 120, 112, 97, 110, 100]))), (1, (1, (KS [71, 69, 84]))), (2, (1, (KI 12)))]),
       i_ 13 (.build [(.string ⟨⟨[]⟩⟩), (.string ⟨⟨[]⟩⟩), (.int .i64 0)] [(0, (1, (KS [47, 108, 111, 111, 107, 117, 112]))), (1, (1, (KS [71, 69, 84]))), (2, (1, (KI 13)))]),
       i_ 14 (.build [(.string ⟨⟨[]⟩⟩), (.string ⟨⟨[]⟩⟩), (.int .i64 0)] [(0, (1, (KS [47, 119, 97, 116, 99, 104]))), (1, (1, (KS [71, 69, 84]))), (2, (1, (KI 14)))]),
       i_ 15 (.build [(.string ⟨⟨[]⟩⟩), (.string ⟨⟨[]⟩⟩), (.int .i64 0)] [(0, (1, (KS [47, 99, 111, 110, 102, 105, 103]))), (1, (1, (KS [71, 69, 84]))), (2, (1, (KI 16)))]),
       i_ 16 (.build [(.string ⟨⟨[]⟩⟩), (.string ⟨⟨[]⟩⟩), (.int .i64 0)] [(0, (1, (KS [47, 99, 111, 110, 102, 105, 103]))), (1, (1, (KS [80, 79, 83, 84]))), (2, (1, (KI 15)))]),
       i_ 17 (.build [(.string ⟨⟨[]⟩⟩), (.string ⟨⟨[]⟩⟩), (.int .i64 0)] [(0, (1, (KS [47, 99, 111, 108, 108, 101, 99, 116]))), (1, (1, (KS [80, 79, 83, 84]))), (2, (1, (KI 17)))]),
       i_ 18 (.build [(.string ⟨⟨[]⟩⟩), (.string ⟨⟨[]⟩⟩), (.int .i64 0)] [(0, (1, (KS [47, 104, 101, 97, 108, 116, 104]))), (1, (1, (KS [71, 69, 84]))), (2, (1, (KI 18)))]),
       i_ 19 (.bslice 37 [(.string ⟨⟨[]⟩⟩), (.string ⟨⟨[]⟩⟩), (.int .i64 0)] 18 3 [(0, (3, (T 1))), (3, (3, (T 2))), (6, (3, (T 3))), (9, (3, (T 4))), (12, (3, (T 5))), (15, (3, (T 6))), (18, (3, (T 7))), (21, (3, (T 8))), (24, (3, (T 9))), (27, (3, (T 10))), (30, (3, (T 11))), (33, (3, (T 12))), (36, (3, (T 13))), (39, (3, (T 14))), (42, (3, (T 15))), (45, (3, (T 16))), (48, (3, (T 17))), (51, (3, (T 18)))]),
       i_ 0 (.mv (T 19))])
     .ret))
def m12 : MF := ⟨20, [(.tmp 0)], c12⟩
theorem r12 : resF Try.prog Try.f12 = some m12 := by kernel_rfl

def c13 : MC :=
   (.seq
    (.ops [i_ 6 (.mv (KI 0))])
    (.seq
     (.seq
      (.ops [i_ 7 (.mv (T 0)),
        i_ 8 (.mv (T 1)),
        i_ 9 (.ib .lss (T 7) (T 8))])
      (.cond (T 9)
       (.seq
        (.ops [i_ 10 (.mv (T 1)),
          i_ 6 (.mv (T 10))])
        .ret)
       .skip))
     (.seq
      (.seq
       (.ops [i_ 11 (.mv (T 0)),
         i_ 12 (.mv (T 2)),
         i_ 13 (.ib .gtr (T 11) (T 12))])
       (.cond (T 13)
        (.seq
         (.ops [i_ 14 (.mv (T 2)),
           i_ 6 (.mv (T 14))])
         .ret)
        .skip))
      (.seq
       (.ops [i_ 15 (.mv (T 0)),
         i_ 6 (.mv (T 15))])
       .ret))))
def m13 : MF := ⟨16, [(.tmp 6)], c13⟩
theorem r13 : resF Try.prog Try.f13 = some m13 := by kernel_rfl

def c14 : MC :=
   (.seq
    (.ops [i_ 2 (.alloc 40 [(.int .i64 0), (.int .i64 0)])])
    (.seq
     (.seq
      (.ops [i_ 3 (.mv (T 0))])
      (.block 0
       (.seq
        (.ops [i_ 5 (.sb .eql (T 3) (KS [47, 97, 117, 116, 104, 111, 114, 105, 122, 101])),
          i_ 4 (.mv (T 5))])
        (.cond (T 4)
         (.seq
          (.ops [i_ 6 (.build [(.int .i64 0), (.int .i64 0)] [(0, (1, (KI 1)))]),
            n_ (.st 2 (T 2) (T 6))])
          .ret)
         (.seq
          (.ops [i_ 8 (.sb .eql (T 3) (KS [47, 116, 111, 107, 101, 110])),
            i_ 7 (.mv (T 8))])
          (.cond (T 7)
           (.seq
            (.ops [i_ 9 (.build [(.int .i64 0), (.int .i64 0)] [(0, (1, (KI 2)))]),
              n_ (.st 2 (T 2) (T 9))])
            .ret)
           (.seq
            (.ops [i_ 11 (.sb .eql (T 3) (KS [47, 105, 110, 116, 114, 111, 115, 112, 101, 99, 116])),
              i_ 10 (.mv (T 11))])
            (.cond (T 10)
             (.seq
              (.ops [i_ 12 (.build [(.int .i64 0), (.int .i64 0)] [(0, (1, (KI 3)))]),
                n_ (.st 2 (T 2) (T 12))])
              .ret)
             (.seq
              (.ops [i_ 14 (.sb .eql (T 3) (KS [47, 114, 101, 118, 111, 107, 101])),
                i_ 13 (.mv (T 14))])
              (.cond (T 13)
               (.seq
                (.ops [i_ 15 (.build [(.int .i64 0), (.int .i64 0)] [(0, (1, (KI 4)))]),
                  n_ (.st 2 (T 2) (T 15))])
                .ret)
               (.seq
                (.ops [i_ 17 (.sb .eql (T 3) (KS [47, 99, 111, 110, 115, 101, 110, 116])),
                  i_ 16 (.mv (T 17))])
                (.cond (T 16)
                 (.seq
                  (.ops [i_ 18 (.build [(.int .i64 0), (.int .i64 0)] [(0, (1, (KI 5)))]),
                    n_ (.st 2 (T 2) (T 18))])
                  .ret)
                 (.seq
                  (.ops [i_ 20 (.sb .eql (T 3) (KS [47, 119, 105, 116, 104, 100, 114, 97, 119])),
                    i_ 19 (.mv (T 20))])
                  (.cond (T 19)
                   (.seq
                    (.ops [i_ 21 (.build [(.int .i64 0), (.int .i64 0)] [(0, (1, (KI 6)))]),
                      n_ (.st 2 (T 2) (T 21))])
                    .ret)
                   (.seq
                    (.ops [i_ 23 (.sb .eql (T 3) (KS [47, 99, 108, 105, 101, 110, 116, 115])),
                      i_ 22 (.mv (T 23))])
                    (.cond (T 22)
                     (.seq
                      (.ops [i_ 24 (.build [(.int .i64 0), (.int .i64 0)] [(0, (1, (KI 7)))]),
                        n_ (.st 2 (T 2) (T 24))])
                      .ret)
                     (.seq
                      (.ops [i_ 26 (.sb .eql (T 3) (KS [47, 99, 108, 105, 101, 110, 116, 115, 47, 114, 101, 109, 111, 118, 101])),
                        i_ 25 (.mv (T 26))])
                      (.cond (T 25)
                       (.seq
                        (.ops [i_ 27 (.build [(.int .i64 0), (.int .i64 0)] [(0, (1, (KI 8)))]),
                          n_ (.st 2 (T 2) (T 27))])
                        .ret)
                       (.seq
                        (.ops [i_ 29 (.sb .eql (T 3) (KS [47, 116, 117, 112, 108, 101, 115])),
                          i_ 28 (.mv (T 29))])
                        (.cond (T 28)
                         (.seq
                          (.ops [i_ 30 (.build [(.int .i64 0), (.int .i64 0)] [(0, (1, (KI 9))), (1, (1, (KI 10)))]),
                            n_ (.st 2 (T 2) (T 30))])
                          .ret)
                         (.seq
                          (.ops [i_ 32 (.sb .eql (T 3) (KS [47, 99, 111, 110, 102, 105, 103])),
                            i_ 31 (.mv (T 32))])
                          (.cond (T 31)
                           (.seq
                            (.ops [i_ 33 (.build [(.int .i64 0), (.int .i64 0)] [(0, (1, (KI 15))), (1, (1, (KI 16)))]),
                              n_ (.st 2 (T 2) (T 33))])
                            .ret)
                           (.seq
                            (.ops [i_ 35 (.sb .eql (T 3) (KS [47, 99, 111, 108, 108, 101, 99, 116])),
                              i_ 34 (.mv (T 35))])
                            (.cond (T 34)
                             (.seq
                              (.ops [i_ 36 (.build [(.int .i64 0), (.int .i64 0)] [(0, (1, (KI 17)))]),
                                n_ (.st 2 (T 2) (T 36))])
                              .ret)
                             .skip))))))))))))))))))))))))
     (.seq
      (.ops [i_ 37 (.mv (T 0)),
        i_ 38 (.call 15 [(T 37)]),
        i_ 39 (.build [(.int .i64 0), (.int .i64 0)] [(1, (1, (T 38)))]),
        n_ (.st 2 (T 2) (T 39))])
      .ret)))
def m14 : MF := ⟨40, [(.cell 2 2)], c14⟩
theorem r14 : resF Try.prog Try.f14 = some m14 := by kernel_rfl

def c15 : MC :=
   (.seq
    (.ops [i_ 2 (.mv (KI 0))])
    (.seq
     (.seq
      (.ops [i_ 3 (.mv (T 0))])
      (.block 0
       (.seq
        (.ops [i_ 5 (.sb .eql (T 3) (KS [47, 99, 104, 101, 99, 107])),
          i_ 4 (.mv (T 5))])
        (.cond (T 4)
         (.seq
          (.ops [i_ 2 (.mv (KI 11))])
          .ret)
         (.seq
          (.ops [i_ 7 (.sb .eql (T 3) (KS [47, 101, 120, 112, 97, 110, 100])),
            i_ 6 (.mv (T 7))])
          (.cond (T 6)
           (.seq
            (.ops [i_ 2 (.mv (KI 12))])
            .ret)
           (.seq
            (.ops [i_ 9 (.sb .eql (T 3) (KS [47, 108, 111, 111, 107, 117, 112])),
              i_ 8 (.mv (T 9))])
            (.cond (T 8)
             (.seq
              (.ops [i_ 2 (.mv (KI 13))])
              .ret)
             (.seq
              (.ops [i_ 11 (.sb .eql (T 3) (KS [47, 119, 97, 116, 99, 104])),
                i_ 10 (.mv (T 11))])
              (.cond (T 10)
               (.seq
                (.ops [i_ 2 (.mv (KI 14))])
                .ret)
               (.seq
                (.ops [i_ 13 (.sb .eql (T 3) (KS [47, 104, 101, 97, 108, 116, 104])),
                  i_ 12 (.mv (T 13))])
                (.cond (T 12)
                 (.seq
                  (.ops [i_ 2 (.mv (KI 18))])
                  .ret)
                 .skip))))))))))))
     (.seq
      (.ops [i_ 2 (.mv (KI 0))])
      .ret)))
def m15 : MF := ⟨14, [(.tmp 2)], c15⟩
theorem r15 : resF Try.prog Try.f15 = some m15 := by kernel_rfl

end Go.Proofs.Ytkhgmmejgikgnaa
