/- Functions of the program, resolved: made by a program of ours; each is checked by the kernel. -/
import Derived.Test.YtkhgmmejgikgnaaDoorPB
namespace Go.Proofs.YtkhgmmejgikgnaaDoor
def c4 : MC :=
   (.seq
    (.ops [i_ 6 (.mv (KB false))])
    (.seq
     (.ops [i_ 16 (.mv (T 0)),
       i_ 17 (.call 19 [(T 16), (KI 1), (KI 2100)]),
       i_ 18 (.mv (T 1)),
       i_ 19 (.call 19 [(T 18), (KI 1), (KI 40)]),
       i_ 20 (.mv (T 2)),
       i_ 21 (.call 19 [(T 20), (KI 0), (KI 8200)]),
       i_ 0 (.mv (T 17)),
       i_ 1 (.mv (T 19)),
       i_ 2 (.mv (T 21))])
     (.seq
      (.ops [i_ 22 (.mv (T 0)),
        i_ 23 (.mkslice 5 1 1 [(.int .u8 0)] (T 22) (T 22)),
        i_ 7 (.mv (T 23))])
      (.seq
       (.seq
        (.ops [i_ 8 (.mv (KI 0))])
        (.block 0
         (.loop [(24, 29), (29, 32), (8, 9)]
          (.seq
           (.seq
            (.ops [i_ 24 (.mv (T 8)),
              i_ 25 (.mv (T 0)),
              i_ 26 (.ib .lss (T 24) (T 25))])
            (.cond (T 26)
             .skip
             (.exit 0)))
           (.seq
            (.block 1
             (.ops [i_ 29 (.mv (T 7)),
               i_ 30 (.mv (T 8)),
               i_ 31 (.iaddr 1 (T 29) (T 30)),
               n_ (.st 1 (T 31) (KU 47))]))
            (.ops [i_ 27 (.mv (T 8)),
              i_ 28 (.ib .add (T 27) (KI 1)),
              i_ 8 (.mv (T 28))]))))))
       (.seq
        (.ops [i_ 32 (.mv (T 7)),
          i_ 33 (.b2s (T 32)),
          i_ 34 (.sb .add (KS [71, 69, 84, 32]) (T 33)),
          i_ 35 (.sb .add (T 34) (KS [32, 72, 84, 84, 80, 47, 49, 46, 49, 13, 10, 104, 111, 115, 116, 58, 32, 97, 13, 10])),
          i_ 9 (.mv (T 35))])
        (.seq
         (.seq
          (.ops [i_ 10 (.mv (KI 2))])
          (.block 2
           (.loop [(36, 41), (41, 43), (9, 11)]
            (.seq
             (.seq
              (.ops [i_ 36 (.mv (T 10)),
                i_ 37 (.mv (T 1)),
                i_ 38 (.ib .lss (T 36) (T 37))])
              (.cond (T 38)
               .skip
               (.exit 2)))
             (.seq
              (.block 3
               (.ops [i_ 41 (.mv (T 9)),
                 i_ 42 (.sb .add (T 41) (KS [120, 58, 32, 121, 13, 10])),
                 i_ 9 (.mv (T 42))]))
              (.ops [i_ 39 (.mv (T 10)),
                i_ 40 (.ib .add (T 39) (KI 1)),
                i_ 10 (.mv (T 40))]))))))
         (.seq
          (.ops [i_ 11 (.mv (KS []))])
          (.seq
           (.seq
            (.ops [i_ 43 (.mv (T 2)),
              i_ 12 (.mv (T 43))])
            (.block 4
             (.loop [(44, 52), (52, 60), (11, 13)]
              (.seq
               (.seq
                (.ops [i_ 44 (.mv (T 12)),
                  i_ 45 (.ib .gtr (T 44) (KI 0)),
                  i_ 46 (.mv (T 45)),
                  ig 47 46 false (.mv (T 11)),
                  ig 48 46 false (.sb .eql (T 47) (KS [])),
                  i_ 49 (.pick (T 46) (KB true) (T 48))])
                (.cond (T 49)
                 .skip
                 (.exit 4)))
               (.seq
                (.block 5
                 (.ops [i_ 52 (.mv (T 12)),
                   i_ 53 (.ib .rem (T 52) (KI 10)),
                   i_ 54 (.mv (T 12)),
                   i_ 55 (.ib .rem (T 54) (KI 10)),
                   i_ 56 (.ib .add (T 55) (KI 1)),
                   i_ 57 (.slS (KS [48, 49, 50, 51, 52, 53, 54, 55, 56, 57]) (some (T 53)) (some (T 56))),
                   i_ 58 (.mv (T 11)),
                   i_ 59 (.sb .add (T 57) (T 58)),
                   i_ 11 (.mv (T 59))]))
                (.ops [i_ 50 (.mv (T 12)),
                  i_ 51 (.ib .quo (T 50) (KI 10)),
                  i_ 12 (.mv (T 51))]))))))
           (.seq
            (.ops [i_ 60 (.mv (T 9)),
              i_ 61 (.sb .add (T 60) (KS [99, 111, 110, 116, 101, 110, 116, 45, 108, 101, 110, 103, 116, 104, 58, 32])),
              i_ 62 (.mv (T 11)),
              i_ 63 (.sb .add (T 61) (T 62)),
              i_ 64 (.sb .add (T 63) (KS [13, 10, 13, 10])),
              i_ 9 (.mv (T 64))])
            (.seq
             (.ops [i_ 65 (.mv (T 9)),
               i_ 66 (.s2b 5 (T 65)),
               i_ 67 (.mv (T 2)),
               i_ 68 (.raw ⟨(some 68), (.call ⟨(.builtin .append), ⟨[(T 66), (T 67)]⟩, ⟨[33, 3]⟩⟩), 33, "law.go:95", ⟨[⟨1, .data⟩, ⟨2, .data⟩]⟩, none⟩),
               i_ 13 (.mv (T 68))])
             (.seq
              (.ops [i_ 70 (.mv (T 13)),
                i_ 71 (.call 20 [(T 70)]),
                i_ 69 (.mv (T 71)),
                i_ 72 (.ext (T 69) 0),
                i_ 73 (.ext (T 69) 1),
                i_ 14 (.alloc 35 [(.string ⟨⟨[]⟩⟩), (.string ⟨⟨[]⟩⟩), (.slice none 0 0), (.slice none 0 0), (.slice none 0 0)]),
                n_ (.st 5 (T 14) (T 72)),
                i_ 15 (.mv (T 73))])
              (.seq
               (.seq
                (.ops [i_ 74 (.mv (T 1)),
                  i_ 75 (.ib .lss (T 74) (KI 2))])
                (.cond (T 75)
                 (.ops [i_ 1 (.mv (KI 2))])
                 .skip))
               (.seq
                (.seq
                 (.ops [i_ 76 (.mv (T 0)),
                   i_ 77 (.ib .add (T 76) (KI 13)),
                   i_ 78 (.ib .gtr (T 77) (KI 2048)),
                   i_ 79 (.mv (T 78)),
                   ig 80 79 false (.mv (T 1)),
                   ig 81 79 false (.ib .gtr (T 80) (KI 32)),
                   i_ 82 (.pick (T 79) (KB true) (T 81)),
                   i_ 83 (.mv (T 82)),
                   ig 84 83 false (.mv (T 2)),
                   ig 85 83 false (.ib .gtr (T 84) (KI 8192)),
                   i_ 86 (.pick (T 83) (KB true) (T 85))])
                 (.cond (T 86)
                  (.seq
                   (.ops [i_ 87 (.mv (T 15)),
                     i_ 88 (.ib .eql (T 87) (KI 5)),
                     i_ 89 (.mv (T 88)),
                     ig 90 89 true (.call 21 []),
                     i_ 91 (.pick (T 89) (T 90) (KB false)),
                     i_ 6 (.mv (T 91))])
                   .ret)
                  .skip))
                (.seq
                 (.ops [i_ 92 (.mv (T 15)),
                   i_ 93 (.ib .eql (T 92) (KI 0)),
                   i_ 94 (.mv (T 93)),
                   ig 95 94 true (.call 21 []),
                   i_ 96 (.pick (T 94) (T 95) (KB false)),
                   i_ 6 (.mv (T 96))])
                 .ret))))))))))))))
def m4 : MF := ⟨97, [(.tmp 6)], c4⟩
theorem r4 : resF Tryd.prog Tryd.f4 = some m4 := by kernel_rfl
theorem k4 : Callable Tryd.prog 4 := ⟨_, Tryd.func4, by kernel_rfl, by kernel_rfl⟩

def c20 : MC :=
   (.seq
    (.ops [i_ 2 (.alloc 35 [(.string ⟨⟨[]⟩⟩), (.string ⟨⟨[]⟩⟩), (.slice none 0 0), (.slice none 0 0), (.slice none 0 0)]),
      i_ 3 (.mv (KI 0))])
    (.seq
     (.ops [i_ 15 (.mv (T 0)),
       i_ 16 (.bslice 5 [(.int .u8 0)] 4 1 [(0, (1, (KU 13))), (1, (1, (KU 10))), (2, (1, (KU 13))), (3, (1, (KU 10)))]),
       i_ 17 (.raw ⟨(some 17), (.convert 33 33 (T 16)), 33, "http.go:126", ⟨[⟨1, .data⟩]⟩, none⟩),
       i_ 18 (.call 56 [(T 15), (T 17)]),
       i_ 14 (.mv (T 18)),
       i_ 19 (.ext (T 14) 0),
       i_ 20 (.ext (T 14) 1),
       i_ 21 (.ext (T 14) 2),
       i_ 4 (.mv (T 19)),
       i_ 5 (.mv (T 20)),
       i_ 6 (.mv (T 21))])
     (.seq
      (.block 0
       (.seq
        (.ops [i_ 23 (.mv (T 6)),
          i_ 24 (.not (T 23)),
          i_ 25 (.mv (T 24)),
          ig 26 25 true (.mv (T 0)),
          ig 27 25 true (.lenV (T 26)),
          ig 28 25 true (.ib .leq (T 27) (KI 4099)),
          i_ 29 (.pick (T 25) (T 28) (KB false)),
          i_ 22 (.mv (T 29))])
        (.cond (T 22)
         (.seq
          (.ops [i_ 30 (.build [(.string ⟨⟨[]⟩⟩), (.string ⟨⟨[]⟩⟩), (.slice none 0 0), (.slice none 0 0), (.slice none 0 0)] []),
            n_ (.st 5 (T 2) (T 30)),
            i_ 3 (.mv (KI 3))])
          .ret)
         (.seq
          (.ops [i_ 32 (.mv (T 6)),
            i_ 33 (.not (T 32)),
            i_ 34 (.mv (T 33)),
            ig 35 34 false (.mv (T 4)),
            ig 36 34 false (.lenV (T 35)),
            ig 37 34 false (.ib .gtr (T 36) (KI 4096)),
            i_ 38 (.pick (T 34) (KB true) (T 37)),
            i_ 31 (.mv (T 38))])
          (.cond (T 31)
           (.seq
            (.ops [i_ 39 (.build [(.string ⟨⟨[]⟩⟩), (.string ⟨⟨[]⟩⟩), (.slice none 0 0), (.slice none 0 0), (.slice none 0 0)] []),
              n_ (.st 5 (T 2) (T 39)),
              i_ 3 (.mv (KI 5))])
            .ret)
           .skip)))))
      (.seq
       (.ops [i_ 40 (.mv (T 4)),
         i_ 41 (.b2s (T 40)),
         i_ 42 (.call 57 [(T 41), (KS [13, 10])]),
         i_ 7 (.mv (T 42))])
       (.seq
        (.seq
         (.ops [i_ 43 (.mv (T 7)),
           i_ 44 (.call 58 [(T 43)])])
         (.cond (T 44)
          (.seq
           (.ops [i_ 45 (.build [(.string ⟨⟨[]⟩⟩), (.string ⟨⟨[]⟩⟩), (.slice none 0 0), (.slice none 0 0), (.slice none 0 0)] []),
             n_ (.st 5 (T 2) (T 45)),
             i_ 3 (.mv (KI 5))])
           .ret)
          .skip))
        (.seq
         (.ops [i_ 8 (.alloc 35 [(.string ⟨⟨[]⟩⟩), (.string ⟨⟨[]⟩⟩), (.slice none 0 0), (.slice none 0 0), (.slice none 0 0)])])
         (.seq
          (.ops [i_ 46 (.mv (T 7)),
            i_ 47 (.iaddr 1 (T 46) (KI 0)),
            i_ 48 (.ld1 (T 47)),
            i_ 49 (.call 59 [(T 8), (T 48)]),
            i_ 9 (.mv (T 49))])
          (.seq
           (.seq
            (.ops [i_ 50 (.mv (T 7)),
              i_ 51 (.slV 1 (T 50) (some (KI 1)) none),
              i_ 52 (.lenV (T 51)),
              i_ 53 (.mv (KI 0))])
            (.block 1
             (.loop [(54, 63), (11, 12), (9, 10), (53, 54)]
              (.seq
               (.ops [i_ 54 (.ib .lss (T 53) (T 52))])
               (.seq
                (.cond (T 54)
                 .skip
                 (.exit 1))
                (.seq
                 (.block 2
                  (.seq
                   (.ops [i_ 55 (.iaddr 1 (T 51) (T 53)),
                     i_ 56 (.ld1 (T 55)),
                     i_ 11 (.mv (T 56))])
                   (.ops [i_ 57 (.mv (T 9)),
                     i_ 58 (.mv (T 57)),
                     ig 59 58 true (.mv (T 11)),
                     ig 60 58 true (.call 60 [(T 8), (T 59)]),
                     i_ 61 (.pick (T 58) (T 60) (KB false)),
                     i_ 9 (.mv (T 61))])))
                 (.ops [i_ 62 (.ib .add (T 53) (KI 1)),
                   i_ 53 (.mv (T 62))])))))))
           (.seq
            (.ops [i_ 64 (.call 61 [(T 8)]),
              i_ 63 (.mv (T 64)),
              i_ 65 (.ext (T 63) 0),
              i_ 66 (.ext (T 63) 1),
              i_ 12 (.mv (T 65)),
              i_ 13 (.mv (T 66))])
            (.seq
             (.block 3
              (.seq
               (.ops [i_ 68 (.mv (T 9)),
                 i_ 69 (.not (T 68)),
                 i_ 70 (.mv (T 69)),
                 ig 71 70 false (.mv (T 13)),
                 ig 72 70 false (.not (T 71)),
                 i_ 73 (.pick (T 70) (KB true) (T 72)),
                 i_ 67 (.mv (T 73))])
               (.cond (T 67)
                (.seq
                 (.ops [i_ 74 (.build [(.string ⟨⟨[]⟩⟩), (.string ⟨⟨[]⟩⟩), (.slice none 0 0), (.slice none 0 0), (.slice none 0 0)] []),
                   n_ (.st 5 (T 2) (T 74)),
                   i_ 3 (.mv (KI 4))])
                 .ret)
                (.seq
                 (.ops [i_ 76 (.mv (T 12)),
                   i_ 77 (.ib .gtr (T 76) (KI 8192)),
                   i_ 75 (.mv (T 77))])
                 (.cond (T 75)
                  (.seq
                   (.ops [i_ 78 (.build [(.string ⟨⟨[]⟩⟩), (.string ⟨⟨[]⟩⟩), (.slice none 0 0), (.slice none 0 0), (.slice none 0 0)] []),
                     n_ (.st 5 (T 2) (T 78)),
                     i_ 3 (.mv (KI 5))])
                   .ret)
                  (.seq
                   (.ops [i_ 80 (.mv (T 5)),
                     i_ 81 (.lenV (T 80)),
                     i_ 82 (.mv (T 12)),
                     i_ 83 (.ib .lss (T 81) (T 82)),
                     i_ 79 (.mv (T 83))])
                   (.cond (T 79)
                    (.seq
                     (.ops [i_ 84 (.build [(.string ⟨⟨[]⟩⟩), (.string ⟨⟨[]⟩⟩), (.slice none 0 0), (.slice none 0 0), (.slice none 0 0)] []),
                       n_ (.st 5 (T 2) (T 84)),
                       i_ 3 (.mv (KI 3))])
                     .ret)
                    (.seq
                     (.ops [i_ 86 (.mv (T 5)),
                       i_ 87 (.lenV (T 86)),
                       i_ 88 (.mv (T 12)),
                       i_ 89 (.ib .gtr (T 87) (T 88)),
                       i_ 85 (.mv (T 89))])
                     (.cond (T 85)
                      (.seq
                       (.ops [i_ 90 (.build [(.string ⟨⟨[]⟩⟩), (.string ⟨⟨[]⟩⟩), (.slice none 0 0), (.slice none 0 0), (.slice none 0 0)] []),
                         n_ (.st 5 (T 2) (T 90)),
                         i_ 3 (.mv (KI 6))])
                       .ret)
                      .skip)))))))))
             (.seq
              (.ops [i_ 91 (.mv (T 5)),
                i_ 92 (.call 62 [(T 91)]),
                i_ 93 (.faddr 4 (T 8)),
                n_ (.st 1 (T 93) (T 92))])
              (.seq
               (.ops [i_ 94 (.ldN 5 (T 8)),
                 n_ (.st 5 (T 2) (T 94)),
                 i_ 3 (.mv (KI 0))])
               .ret))))))))))))
def m20 : MF := ⟨95, [(.cell 2 5), (.tmp 3)], c20⟩
theorem r20 : resF Tryd.prog Tryd.f20 = some m20 := by kernel_rfl
theorem k20 : Callable Tryd.prog 20 := ⟨_, Tryd.func20, by kernel_rfl, by kernel_rfl⟩

def c21 : MC :=
   (.seq
    (.ops [i_ 0 (.mv (KB false))])
    (.seq
     (.ops [i_ 4 (.bslice 5 [(.int .u8 0)] 36 1 [(0, (1, (KU 71))), (1, (1, (KU 69))), (2, (1, (KU 84))), (3, (1, (KU 32))), (4, (1, (KU 47))), (5, (1, (KU 97))), (6, (1, (KU 37))), (7, (1, (KU 50))), (8, (1, (KU 48))), (9, (1, (KU 98))), (10, (1, (KU 63))), (11, (1, (KU 99))), (12, (1, (KU 61))), (13, (1, (KU 100))), (14, (1, (KU 32))), (15, (1, (KU 72))), (16, (1, (KU 84))), (17, (1, (KU 84))), (18, (1, (KU 80))), (19, (1, (KU 47))), (20, (1, (KU 49))), (21, (1, (KU 46))), (22, (1, (KU 49))), (23, (1, (KU 13))), (24, (1, (KU 10))), (25, (1, (KU 72))), (26, (1, (KU 111))), (27, (1, (KU 115))), (28, (1, (KU 116))), (29, (1, (KU 58))), (30, (1, (KU 32))), (31, (1, (KU 120))), (32, (1, (KU 13))), (33, (1, (KU 10))), (34, (1, (KU 13))), (35, (1, (KU 10)))]),
       i_ 5 (.raw ⟨(some 5), (.convert 33 33 (T 4)), 33, "law.go:19", ⟨[⟨0, .data⟩]⟩, none⟩),
       i_ 6 (.call 20 [(T 5)]),
       i_ 3 (.mv (T 6)),
       i_ 7 (.ext (T 3) 0),
       i_ 8 (.ext (T 3) 1),
       i_ 1 (.alloc 35 [(.string ⟨⟨[]⟩⟩), (.string ⟨⟨[]⟩⟩), (.slice none 0 0), (.slice none 0 0), (.slice none 0 0)]),
       n_ (.st 5 (T 1) (T 7)),
       i_ 2 (.mv (T 8))])
     (.seq
      (.ops [i_ 9 (.mv (T 2)),
        i_ 10 (.ib .eql (T 9) (KI 0)),
        i_ 11 (.mv (T 10)),
        ig 12 11 true (.faddr 1 (T 1)),
        ig 13 11 true (.ld1 (T 12)),
        ig 14 11 true (.sb .eql (T 13) (KS [47, 97, 32, 98])),
        i_ 15 (.pick (T 11) (T 14) (KB false)),
        i_ 16 (.mv (T 15)),
        ig 17 16 true (.faddr 2 (T 1)),
        ig 18 16 true (.ld1 (T 17)),
        ig 19 16 true (.lenV (T 18)),
        ig 20 16 true (.ib .eql (T 19) (KI 1)),
        i_ 21 (.pick (T 16) (T 20) (KB false)),
        i_ 0 (.mv (T 21))])
      .ret)))
def m21 : MF := ⟨22, [(.tmp 0)], c21⟩
theorem r21 : resF Tryd.prog Tryd.f21 = some m21 := by kernel_rfl
theorem k21 : Callable Tryd.prog 21 := ⟨_, Tryd.func21, by kernel_rfl, by kernel_rfl⟩

def c58 : MC :=
   (.seq
    (.ops [i_ 2 (.mv (KB false))])
    (.seq
     (.seq
      (.ops [i_ 5 (.mv (T 0)),
        i_ 6 (.lenV (T 5)),
        i_ 7 (.mv (KI 0))])
      (.block 0
       (.loop [(8, 15), (4, 5), (2, 3), (7, 8)]
        (.seq
         (.ops [i_ 8 (.ib .lss (T 7) (T 6))])
         (.seq
          (.cond (T 8)
           .skip
           (.exit 0))
          (.seq
           (.block 1
            (.seq
             (.ops [i_ 9 (.iaddr 1 (T 5) (T 7)),
               i_ 10 (.ld1 (T 9)),
               i_ 4 (.mv (T 10))])
             (.seq
              (.ops [i_ 11 (.mv (T 4)),
                i_ 12 (.lenS (T 11)),
                i_ 13 (.ib .gtr (T 12) (KI 2048))])
              (.cond (T 13)
               (.seq
                (.ops [i_ 2 (.mv (KB true))])
                .ret)
               .skip))))
           (.ops [i_ 14 (.ib .add (T 7) (KI 1)),
             i_ 7 (.mv (T 14))])))))))
     (.seq
      (.ops [i_ 15 (.mv (T 0)),
        i_ 16 (.lenV (T 15)),
        i_ 17 (.ib .gtr (T 16) (KI 33)),
        i_ 2 (.mv (T 17))])
      .ret)))
def m58 : MF := ⟨18, [(.tmp 2)], c58⟩
theorem r58 : resF Tryd.prog Tryd.f58 = some m58 := by kernel_rfl
theorem k58 : Callable Tryd.prog 58 := ⟨_, Tryd.func58, by kernel_rfl, by kernel_rfl⟩

def c59 : MC :=
   (.seq
    (.ops [i_ 4 (.mv (KB false))])
    (.seq
     (.ops [i_ 12 (.mv (T 1)),
       i_ 13 (.call 57 [(T 12), (KS [32])]),
       i_ 5 (.mv (T 13))])
     (.seq
      (.seq
       (.ops [i_ 14 (.mv (T 5)),
         i_ 15 (.lenV (T 14)),
         i_ 16 (.ib .neq (T 15) (KI 3)),
         i_ 17 (.mv (T 16)),
         ig 18 17 false (.mv (T 5)),
         ig 19 17 false (.iaddr 1 (T 18) (KI 2)),
         ig 20 17 false (.ld1 (T 19)),
         ig 21 17 false (.sb .neq (T 20) (KS [72, 84, 84, 80, 47, 49, 46, 49])),
         i_ 22 (.pick (T 17) (KB true) (T 21)),
         i_ 23 (.mv (T 22)),
         ig 24 23 false (.mv (T 5)),
         ig 25 23 false (.iaddr 1 (T 24) (KI 0)),
         ig 26 23 false (.ld1 (T 25)),
         ig 27 23 false (.call 99 [(T 26), (KI 16), (FN 100)]),
         ig 28 23 false (.not (T 27)),
         i_ 29 (.pick (T 23) (KB true) (T 28)),
         i_ 30 (.mv (T 29)),
         ig 31 30 false (.mv (T 5)),
         ig 32 30 false (.iaddr 1 (T 31) (KI 1)),
         ig 33 30 false (.ld1 (T 32)),
         ig 34 30 false (.call 99 [(T 33), (KI 2048), (FN 101)]),
         ig 35 30 false (.not (T 34)),
         i_ 36 (.pick (T 30) (KB true) (T 35)),
         i_ 37 (.mv (T 36)),
         ig 38 37 false (.mv (T 5)),
         ig 39 37 false (.iaddr 1 (T 38) (KI 1)),
         ig 40 37 false (.ld1 (T 39)),
         ig 41 37 false (.idx (T 40) (KI 0)),
         ig 42 37 false (.ib .neq (T 41) (KU 47)),
         i_ 43 (.pick (T 37) (KB true) (T 42))])
       (.cond (T 43)
        (.seq
         (.ops [i_ 4 (.mv (KB false))])
         .ret)
        .skip))
      (.seq
       (.ops [i_ 45 (.mv (T 5)),
         i_ 46 (.iaddr 1 (T 45) (KI 1)),
         i_ 47 (.ld1 (T 46)),
         i_ 48 (.call 54 [(T 47), (KS [63])]),
         i_ 44 (.mv (T 48)),
         i_ 49 (.ext (T 44) 0),
         i_ 50 (.ext (T 44) 1),
         i_ 51 (.ext (T 44) 2),
         i_ 6 (.mv (T 49)),
         i_ 7 (.mv (T 50)),
         i_ 8 (.mv (T 51))])
       (.seq
        (.ops [i_ 53 (.mv (T 6)),
          i_ 54 (.call 22 [(T 53), (KB false)]),
          i_ 52 (.mv (T 54)),
          i_ 55 (.ext (T 52) 0),
          i_ 56 (.ext (T 52) 1),
          i_ 6 (.mv (T 55)),
          i_ 9 (.mv (T 56))])
        (.seq
         (.ops [i_ 58 (.mv (T 7)),
           i_ 59 (.call 15 [(T 58)]),
           i_ 57 (.mv (T 59)),
           i_ 60 (.ext (T 57) 0),
           i_ 61 (.ext (T 57) 1),
           i_ 10 (.mv (T 60)),
           i_ 11 (.mv (T 61))])
         (.seq
          (.ops [i_ 62 (.mv (T 0)),
            i_ 63 (.mv (T 0)),
            i_ 64 (.mv (T 0)),
            i_ 65 (.mv (T 5)),
            i_ 66 (.iaddr 1 (T 65) (KI 0)),
            i_ 67 (.ld1 (T 66)),
            i_ 68 (.mv (T 6)),
            i_ 69 (.mv (T 10)),
            i_ 70 (.nilck (T 62)),
            i_ 71 (.faddr 0 (T 70)),
            n_ (.st 1 (T 71) (T 67)),
            i_ 72 (.nilck (T 63)),
            i_ 73 (.faddr 1 (T 72)),
            n_ (.st 1 (T 73) (T 68)),
            i_ 74 (.nilck (T 64)),
            i_ 75 (.faddr 2 (T 74)),
            n_ (.st 1 (T 75) (T 69))])
          (.seq
           (.ops [i_ 76 (.mv (T 9)),
             i_ 77 (.ib .eql (T 76) (KI 0)),
             i_ 78 (.mv (T 77)),
             ig 79 78 true (.mv (T 11)),
             ig 80 78 true (.ib .eql (T 79) (KI 0)),
             i_ 81 (.pick (T 78) (T 80) (KB false)),
             i_ 4 (.mv (T 81))])
           .ret))))))))
def m59 : MF := ⟨82, [(.tmp 4)], c59⟩
theorem r59 : resF Tryd.prog Tryd.f59 = some m59 := by kernel_rfl
theorem k59 : Callable Tryd.prog 59 := ⟨_, Tryd.func59, by kernel_rfl, by kernel_rfl⟩

def c60 : MC :=
   (.seq
    (.ops [i_ 4 (.mv (KB false))])
    (.seq
     (.ops [i_ 9 (.mv (T 1)),
       i_ 10 (.call 54 [(T 9), (KS [58])]),
       i_ 8 (.mv (T 10)),
       i_ 11 (.ext (T 8) 0),
       i_ 12 (.ext (T 8) 1),
       i_ 13 (.ext (T 8) 2),
       i_ 5 (.mv (T 11)),
       i_ 6 (.mv (T 12)),
       i_ 7 (.mv (T 13))])
     (.seq
      (.seq
       (.ops [i_ 14 (.mv (T 7)),
         i_ 15 (.not (T 14)),
         i_ 16 (.mv (T 15)),
         ig 17 16 false (.mv (T 5)),
         ig 18 16 false (.call 99 [(T 17), (KI 40), (FN 102)]),
         ig 19 16 false (.not (T 18)),
         i_ 20 (.pick (T 16) (KB true) (T 19)),
         i_ 21 (.mv (T 20)),
         ig 22 21 false (.mv (T 6)),
         ig 23 21 false (.sb .neq (T 22) (KS [])),
         ig 24 21 false (.mv (T 23)),
         ig 25 24 true (.mv (T 6)),
         ig 26 24 true (.call 99 [(T 25), (KI 2048), (FN 103)]),
         ig 27 24 true (.not (T 26)),
         ig 28 21 false (.pick (T 24) (T 27) (KB false)),
         i_ 29 (.pick (T 21) (KB true) (T 28))])
       (.cond (T 29)
        (.seq
         (.ops [i_ 4 (.mv (KB false))])
         .ret)
        .skip))
      (.seq
       (.dops <|
         .op 0 (i_ 30 (.mv (T 0))) <|
         .op 1 (i_ 31 (.mv (T 0))) <|
         .op 2 (i_ 32 (.nilck (T 31))) <|
         .op 3 (i_ 33 (.faddr 3 (T 32))) <|
         .op 4 (i_ 34 (.ld1 (T 33))) <|
         .op 5 (i_ 35 (.mv (T 5))) <|
         .op 7 (i_ 37 (.mv (T 6))) <|
         .op 6 (i_ 36 (.call 104 [(T 35)])) <|
         .op 8 (i_ 38 (.call 105 [(T 37), (KS [32, 9])])) <|
         .op 9 (i_ 39 (.build [(.string ⟨⟨[]⟩⟩), (.string ⟨⟨[]⟩⟩)] [(0, (1, (T 36))), (1, (1, (T 38)))])) <|
         .op 10 (i_ 40 (.bslice 71 [(.string ⟨⟨[]⟩⟩), (.string ⟨⟨[]⟩⟩)] 1 2 [(0, (2, (T 39)))])) <|
         .op 11 (id_ 41 (.append 71 2 32 (T 34) (T 40)) [4]) <|
         .op 12 (i_ 42 (.nilck (T 30))) <|
         .op 13 (i_ 43 (.faddr 3 (T 42))) <|
         .op 14 (nd_ (.st 1 (T 43) (T 41)) [4]) <|
         .nil)
       (.seq
        (.ops [i_ 4 (.mv (KB true))])
        .ret)))))
def m60 : MF := ⟨44, [(.tmp 4)], c60⟩
theorem r60 : resF Tryd.prog Tryd.f60 = some m60 := by kernel_rfl
theorem k60 : Callable Tryd.prog 60 := ⟨_, Tryd.func60, by kernel_rfl, by kernel_rfl⟩

def c61 : MC :=
   (.seq
    (.ops [i_ 2 (.mv (KI 0)),
      i_ 3 (.mv (KB false))])
    (.seq
     (.seq
      (.ops [i_ 8 (.mv (T 0)),
        i_ 9 (.call 106 [(T 8), (KS [104, 111, 115, 116])]),
        i_ 10 (.ib .neq (T 9) (KI 1)),
        i_ 11 (.mv (T 10)),
        ig 12 11 false (.mv (T 0)),
        ig 13 11 false (.call 106 [(T 12), (KS [116, 114, 97, 110, 115, 102, 101, 114, 45, 101, 110, 99, 111, 100, 105, 110, 103])]),
        ig 14 11 false (.ib .gtr (T 13) (KI 0)),
        i_ 15 (.pick (T 11) (KB true) (T 14)),
        i_ 16 (.mv (T 15)),
        ig 17 16 false (.mv (T 0)),
        ig 18 16 false (.call 106 [(T 17), (KS [99, 111, 110, 116, 101, 110, 116, 45, 108, 101, 110, 103, 116, 104])]),
        ig 19 16 false (.ib .gtr (T 18) (KI 1)),
        i_ 20 (.pick (T 16) (KB true) (T 19))])
      (.cond (T 20)
       (.seq
        (.ops [i_ 2 (.mv (KI 0)),
          i_ 3 (.mv (KB false))])
        .ret)
       .skip))
     (.seq
      (.ops [i_ 22 (.mv (T 0)),
        i_ 23 (.nilck (T 22)),
        i_ 24 (.ldN 5 (T 23)),
        i_ 25 (.call 81 [(T 24), (KS [99, 111, 110, 116, 101, 110, 116, 45, 108, 101, 110, 103, 116, 104])]),
        i_ 21 (.mv (T 25)),
        i_ 26 (.ext (T 21) 0),
        i_ 27 (.ext (T 21) 1),
        i_ 4 (.mv (T 26)),
        i_ 5 (.mv (T 27))])
      (.seq
       (.seq
        (.ops [i_ 28 (.mv (T 5)),
          i_ 29 (.not (T 28))])
        (.cond (T 29)
         (.seq
          (.ops [i_ 2 (.mv (KI 0)),
            i_ 3 (.mv (KB true))])
          .ret)
         .skip))
       (.seq
        (.ops [i_ 31 (.mv (T 4)),
          i_ 32 (.call 107 [(T 31)]),
          i_ 30 (.mv (T 32)),
          i_ 33 (.ext (T 30) 0),
          i_ 34 (.ext (T 30) 1),
          i_ 6 (.mv (T 33)),
          i_ 7 (.mv (T 34))])
        (.seq
         (.ops [i_ 35 (.mv (T 6)),
           i_ 36 (.mv (T 7)),
           i_ 37 (.raw ⟨(some 37), (.binOp .eql 101 (T 36) (.const .nilIface) 101), 4, "http.go:111", ⟨[⟨1, .data⟩]⟩, none⟩),
           i_ 38 (.mv (T 37)),
           ig 39 38 true (.mv (T 4)),
           ig 40 38 true (.call 99 [(T 39), (KI 9), (FN 108)]),
           i_ 41 (.pick (T 38) (T 40) (KB false)),
           i_ 2 (.mv (T 35)),
           i_ 3 (.mv (T 41))])
         .ret))))))
def m61 : MF := ⟨42, [(.tmp 2), (.tmp 3)], c61⟩
theorem r61 : resF Tryd.prog Tryd.f61 = some m61 := by kernel_rfl
theorem k61 : Callable Tryd.prog 61 := ⟨_, Tryd.func61, by kernel_rfl, by kernel_rfl⟩

def c99 : MC :=
   (.seq
    (.ops [i_ 6 (.mv (KB false))])
    (.seq
     (.seq
      (.ops [i_ 8 (.mv (T 0)),
        i_ 9 (.lenS (T 8)),
        i_ 10 (.mv (KI 0))])
      (.block 0
       (.loop [(11, 20), (7, 8), (6, 7), (10, 11)]
        (.seq
         (.ops [i_ 11 (.ib .lss (T 10) (T 9))])
         (.seq
          (.cond (T 11)
           .skip
           (.exit 0))
          (.seq
           (.block 1
            (.seq
             (.ops [i_ 12 (.mv (T 10)),
               i_ 7 (.mv (T 12))])
             (.seq
              (.ops [i_ 13 (.mv (T 2)),
                i_ 14 (.mv (T 0)),
                i_ 15 (.mv (T 7)),
                i_ 16 (.idx (T 14) (T 15)),
                i_ 17 (.callv (T 13) [(T 16)]),
                i_ 18 (.not (T 17))])
              (.cond (T 18)
               (.seq
                (.ops [i_ 6 (.mv (KB false))])
                .ret)
               .skip))))
           (.ops [i_ 19 (.ib .add (T 10) (KI 1)),
             i_ 10 (.mv (T 19))])))))))
     (.seq
      (.ops [i_ 20 (.mv (T 0)),
        i_ 21 (.lenS (T 20)),
        i_ 22 (.ib .geq (T 21) (KI 1)),
        i_ 23 (.mv (T 22)),
        ig 24 23 true (.mv (T 0)),
        ig 25 23 true (.lenS (T 24)),
        ig 26 23 true (.mv (T 1)),
        ig 27 23 true (.ib .leq (T 25) (T 26)),
        i_ 28 (.pick (T 23) (T 27) (KB false)),
        i_ 6 (.mv (T 28))])
      .ret)))
def m99 : MF := ⟨29, [(.tmp 6)], c99⟩
theorem r99 : resF Tryd.prog Tryd.f99 = some m99 := by kernel_rfl
theorem k99 : Callable Tryd.prog 99 := ⟨_, Tryd.func99, by kernel_rfl, by kernel_rfl⟩

def c100 : MC :=
   (.seq
    (.ops [i_ 2 (.mv (KB false))])
    (.seq
     (.ops [i_ 3 (.mv (T 0)),
       i_ 4 (.ib .geq (T 3) (KU 65)),
       i_ 5 (.mv (T 4)),
       ig 6 5 true (.mv (T 0)),
       ig 7 5 true (.ib .leq (T 6) (KU 90)),
       i_ 8 (.pick (T 5) (T 7) (KB false)),
       i_ 2 (.mv (T 8))])
     .ret))
def m100 : MF := ⟨9, [(.tmp 2)], c100⟩
theorem r100 : resF Tryd.prog Tryd.f100 = some m100 := by kernel_rfl
theorem k100 : Callable Tryd.prog 100 := ⟨_, Tryd.func100, by kernel_rfl, by kernel_rfl⟩

def c101 : MC :=
   (.seq
    (.ops [i_ 2 (.mv (KB false))])
    (.seq
     (.ops [i_ 3 (.mv (T 0)),
       i_ 4 (.ib .geq (T 3) (KU 33)),
       i_ 5 (.mv (T 4)),
       ig 6 5 true (.mv (T 0)),
       ig 7 5 true (.ib .leq (T 6) (KU 126)),
       i_ 8 (.pick (T 5) (T 7) (KB false)),
       i_ 2 (.mv (T 8))])
     .ret))
def m101 : MF := ⟨9, [(.tmp 2)], c101⟩
theorem r101 : resF Tryd.prog Tryd.f101 = some m101 := by kernel_rfl
theorem k101 : Callable Tryd.prog 101 := ⟨_, Tryd.func101, by kernel_rfl, by kernel_rfl⟩

def c102 : MC :=
   (.seq
    (.ops [i_ 2 (.mv (KB false))])
    (.seq
     (.ops [i_ 3 (.mv (T 0)),
       i_ 4 (.call 100 [(T 3)]),
       i_ 5 (.mv (T 4)),
       ig 6 5 false (.mv (T 0)),
       ig 7 5 false (.ib .geq (T 6) (KU 97)),
       ig 8 5 false (.mv (T 7)),
       ig 9 8 true (.mv (T 0)),
       ig 10 8 true (.ib .leq (T 9) (KU 122)),
       ig 11 5 false (.pick (T 8) (T 10) (KB false)),
       i_ 12 (.pick (T 5) (KB true) (T 11)),
       i_ 13 (.mv (T 12)),
       ig 14 13 false (.mv (T 0)),
       ig 15 13 false (.call 108 [(T 14)]),
       i_ 16 (.pick (T 13) (KB true) (T 15)),
       i_ 17 (.mv (T 16)),
       ig 18 17 false (.mv (T 0)),
       ig 19 17 false (.ib .eql (T 18) (KU 45)),
       i_ 20 (.pick (T 17) (KB true) (T 19)),
       i_ 2 (.mv (T 20))])
     .ret))
def m102 : MF := ⟨21, [(.tmp 2)], c102⟩
theorem r102 : resF Tryd.prog Tryd.f102 = some m102 := by kernel_rfl
theorem k102 : Callable Tryd.prog 102 := ⟨_, Tryd.func102, by kernel_rfl, by kernel_rfl⟩

def c103 : MC :=
   (.seq
    (.ops [i_ 2 (.mv (KB false))])
    (.seq
     (.ops [i_ 3 (.mv (T 0)),
       i_ 4 (.ib .geq (T 3) (KU 32)),
       i_ 5 (.mv (T 4)),
       ig 6 5 true (.mv (T 0)),
       ig 7 5 true (.ib .leq (T 6) (KU 126)),
       i_ 8 (.pick (T 5) (T 7) (KB false)),
       i_ 9 (.mv (T 8)),
       ig 10 9 false (.mv (T 0)),
       ig 11 9 false (.ib .eql (T 10) (KU 9)),
       i_ 12 (.pick (T 9) (KB true) (T 11)),
       i_ 2 (.mv (T 12))])
     .ret))
def m103 : MF := ⟨13, [(.tmp 2)], c103⟩
theorem r103 : resF Tryd.prog Tryd.f103 = some m103 := by kernel_rfl
theorem k103 : Callable Tryd.prog 103 := ⟨_, Tryd.func103, by kernel_rfl, by kernel_rfl⟩

def c104 : MC :=
   (.seq
    (.ops [i_ 2 (.mv (KS []))])
    (.seq
     (.ops [i_ 6 (.mv (T 0)),
       i_ 7 (.s2b 5 (T 6)),
       i_ 3 (.mv (T 7))])
     (.seq
      (.seq
       (.ops [i_ 8 (.mv (T 3)),
         i_ 9 (.lenV (T 8)),
         i_ 10 (.mv (KI 0))])
       (.block 0
        (.loop [(11, 24), (4, 6), (10, 11)]
         (.seq
          (.ops [i_ 11 (.ib .lss (T 10) (T 9))])
          (.seq
           (.cond (T 11)
            .skip
            (.exit 0))
           (.seq
            (.block 1
             (.seq
              (.ops [i_ 12 (.mv (T 10)),
                i_ 13 (.iaddr 1 (T 8) (T 10)),
                i_ 14 (.ld1 (T 13)),
                i_ 4 (.mv (T 12)),
                i_ 5 (.mv (T 14))])
              (.seq
               (.ops [i_ 15 (.mv (T 5)),
                 i_ 16 (.call 100 [(T 15)])])
               (.cond (T 16)
                (.ops [i_ 17 (.mv (T 3)),
                  i_ 18 (.mv (T 4)),
                  i_ 19 (.mv (T 5)),
                  i_ 20 (.ib .add (T 19) (KU 97)),
                  i_ 21 (.ib .sub (T 20) (KU 65)),
                  i_ 22 (.iaddr 1 (T 17) (T 18)),
                  n_ (.st 1 (T 22) (T 21))])
                .skip))))
            (.ops [i_ 23 (.ib .add (T 10) (KI 1)),
              i_ 10 (.mv (T 23))])))))))
      (.seq
       (.ops [i_ 24 (.mv (T 3)),
         i_ 25 (.b2s (T 24)),
         i_ 2 (.mv (T 25))])
       .ret))))
def m104 : MF := ⟨26, [(.tmp 2)], c104⟩
theorem r104 : resF Tryd.prog Tryd.f104 = some m104 := by kernel_rfl
theorem k104 : Callable Tryd.prog 104 := ⟨_, Tryd.func104, by kernel_rfl, by kernel_rfl⟩

def c108 : MC :=
   (.seq
    (.ops [i_ 2 (.mv (KB false))])
    (.seq
     (.ops [i_ 3 (.mv (T 0)),
       i_ 4 (.ib .geq (T 3) (KU 48)),
       i_ 5 (.mv (T 4)),
       ig 6 5 true (.mv (T 0)),
       ig 7 5 true (.ib .leq (T 6) (KU 57)),
       i_ 8 (.pick (T 5) (T 7) (KB false)),
       i_ 2 (.mv (T 8))])
     .ret))
def m108 : MF := ⟨9, [(.tmp 2)], c108⟩
theorem r108 : resF Tryd.prog Tryd.f108 = some m108 := by kernel_rfl
theorem k108 : Callable Tryd.prog 108 := ⟨_, Tryd.func108, by kernel_rfl, by kernel_rfl⟩

end Go.Proofs.YtkhgmmejgikgnaaDoor
