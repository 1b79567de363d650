/- Functions of the program, resolved: made by a program of ours; each is checked by the kernel. -/
import Derived.Test.YtkhgmmejgikgnaaGreatDoorPB
namespace Go.Proofs.YtkhgmmejgikgnaaGreatDoor
def c3 : MC :=
   (.seq
    (.ops [i_ 6 (.mv (KB false))])
    (.seq
     (.ops [i_ 13 (.mv (T 0)),
       i_ 14 (.call 4 [(T 13), (KI 1500)]),
       i_ 0 (.mv (T 14))])
     (.seq
      (.ops [i_ 16 (.mv (T 0)),
        i_ 17 (.call 5 [(T 16)]),
        i_ 15 (.mv (T 17)),
        i_ 18 (.ext (T 15) 0),
        i_ 19 (.ext (T 15) 1),
        i_ 7 (.alloc 26 [(.string ⟨⟨[]⟩⟩), (.string ⟨⟨[]⟩⟩), (.slice none 0 0), (.slice none 0 0), (.slice none 0 0)]),
        n_ (.st 5 (T 7) (T 18)),
        i_ 8 (.mv (T 19))])
      (.seq
       (.seq
        (.ops [i_ 20 (.mv (T 8)),
          i_ 21 (.ib .neq (T 20) (KI 0))])
        (.cond (T 21)
         (.seq
          (.ops [i_ 22 (.ldN 5 (T 7)),
            i_ 23 (.call 7 [(T 22)]),
            i_ 24 (.build [(.string ⟨⟨[]⟩⟩), (.string ⟨⟨[]⟩⟩), (.slice none 0 0), (.slice none 0 0), (.slice none 0 0)] []),
            i_ 25 (.call 6 [(T 23), (T 24)]),
            i_ 26 (.mv (T 25)),
            ig 27 26 true (.call 8 []),
            i_ 28 (.pick (T 26) (T 27) (KB false)),
            i_ 6 (.mv (T 28))])
          .ret)
         .skip))
       (.seq
        (.ops [i_ 29 (.mv (T 1)),
          i_ 30 (.mv (T 0)),
          i_ 31 (.lenV (T 30)),
          i_ 32 (.ib .sub (T 31) (KI 1)),
          i_ 33 (.call 9 [(T 29), (KI 0), (T 32)]),
          i_ 1 (.mv (T 33))])
        (.seq
         (.ops [i_ 35 (.mv (T 0)),
           i_ 36 (.mv (T 1)),
           i_ 37 (.slV 1 (T 35) none (some (T 36))),
           i_ 38 (.call 5 [(T 37)]),
           i_ 34 (.mv (T 38)),
           i_ 39 (.ext (T 34) 0),
           i_ 40 (.ext (T 34) 1),
           i_ 9 (.alloc 26 [(.string ⟨⟨[]⟩⟩), (.string ⟨⟨[]⟩⟩), (.slice none 0 0), (.slice none 0 0), (.slice none 0 0)]),
           n_ (.st 5 (T 9) (T 39)),
           i_ 10 (.mv (T 40))])
         (.seq
          (.seq
           (.ops [i_ 41 (.mv (T 10)),
             i_ 42 (.ib .neq (T 41) (KI 3))])
           (.cond (T 42)
            (.seq
             (.ops [i_ 6 (.mv (KB false))])
             .ret)
            .skip))
          (.seq
           (.ops [i_ 43 (.mv (T 2)),
             i_ 44 (.call 4 [(T 43), (KI 50)]),
             i_ 2 (.mv (T 44))])
           (.seq
            (.seq
             (.ops [i_ 45 (.mv (T 2)),
               i_ 46 (.lenV (T 45)),
               i_ 47 (.ib .eql (T 46) (KI 0))])
             (.cond (T 47)
              (.seq
               (.ops [i_ 48 (.call 8 []),
                 i_ 6 (.mv (T 48))])
               .ret)
              .skip))
            (.seq
             (.ops [i_ 50 (.mv (T 0)),
               i_ 51 (.call 10 [(T 50)]),
               i_ 52 (.mv (T 2)),
               i_ 53 (.append 5 1 1 (T 51) (T 52)),
               i_ 54 (.call 5 [(T 53)]),
               i_ 49 (.mv (T 54)),
               i_ 55 (.ext (T 49) 0),
               i_ 56 (.ext (T 49) 1),
               i_ 11 (.alloc 26 [(.string ⟨⟨[]⟩⟩), (.string ⟨⟨[]⟩⟩), (.slice none 0 0), (.slice none 0 0), (.slice none 0 0)]),
               n_ (.st 5 (T 11) (T 55)),
               i_ 12 (.mv (T 56))])
             (.seq
              (.ops [i_ 57 (.mv (T 12)),
                i_ 58 (.ib .eql (T 57) (KI 6)),
                i_ 59 (.mv (T 58)),
                ig 60 59 true (.call 8 []),
                i_ 61 (.pick (T 59) (T 60) (KB false)),
                i_ 6 (.mv (T 61))])
              .ret)))))))))))
def m3 : MF := ⟨62, [(.tmp 6)], c3⟩
theorem r3 : resF Tryz.prog Tryz.f3 = some m3 := by kernel_rfl
theorem k3 : Callable Tryz.prog 3 := ⟨_, Tryz.func3, by kernel_rfl, by kernel_rfl⟩

def c4 : MC :=
   (.seq
    (.ops [i_ 4 (.mv (.const (.slice none 0 0)))])
    (.seq
     (.seq
      (.ops [i_ 5 (.mv (T 0)),
        i_ 6 (.lenV (T 5)),
        i_ 7 (.mv (T 1)),
        i_ 8 (.ib .gtr (T 6) (T 7))])
      (.cond (T 8)
       (.seq
        (.ops [i_ 9 (.mv (T 0)),
          i_ 10 (.mv (T 1)),
          i_ 11 (.slV 1 (T 9) none (some (T 10))),
          i_ 4 (.mv (T 11))])
        .ret)
       .skip))
     (.seq
      (.ops [i_ 12 (.mv (T 0)),
        i_ 4 (.mv (T 12))])
      .ret)))
def m4 : MF := ⟨13, [(.tmp 4)], c4⟩
theorem r4 : resF Tryz.prog Tryz.f4 = some m4 := by kernel_rfl
theorem k4 : Callable Tryz.prog 4 := ⟨_, Tryz.func4, by kernel_rfl, by kernel_rfl⟩

def c5 : MC :=
   (.seq
    (.ops [i_ 2 (.alloc 26 [(.string ⟨⟨[]⟩⟩), (.string ⟨⟨[]⟩⟩), (.slice none 0 0), (.slice none 0 0), (.slice none 0 0)]),
      i_ 3 (.mv (KI 0))])
    (.seq
     (.ops [i_ 15 (.mv (T 0)),
       i_ 16 (.bslice 5 [(.int .u8 0)] 4 1 [(0, (1, (KU 13))), (1, (1, (KU 10))), (2, (1, (KU 13))), (3, (1, (KU 10)))]),
       i_ 17 (.raw ⟨(some 17), (.convert 22 22 (T 16)), 22, "http.go:126", ⟨[⟨1, .data⟩]⟩, none⟩),
       i_ 18 (.call 11 [(T 15), (T 17)]),
       i_ 14 (.mv (T 18)),
       i_ 19 (.ext (T 14) 0),
       i_ 20 (.ext (T 14) 1),
       i_ 21 (.ext (T 14) 2),
       i_ 4 (.mv (T 19)),
       i_ 5 (.mv (T 20)),
       i_ 6 (.mv (T 21))])
     (.seq
      (.block 0
       (.seq
        (.ops [i_ 23 (.mv (T 6)),
          i_ 24 (.not (T 23)),
          i_ 25 (.mv (T 24)),
          ig 26 25 true (.mv (T 0)),
          ig 27 25 true (.lenV (T 26)),
          ig 28 25 true (.ib .leq (T 27) (KI 4099)),
          i_ 29 (.pick (T 25) (T 28) (KB false)),
          i_ 22 (.mv (T 29))])
        (.cond (T 22)
         (.seq
          (.ops [i_ 30 (.build [(.string ⟨⟨[]⟩⟩), (.string ⟨⟨[]⟩⟩), (.slice none 0 0), (.slice none 0 0), (.slice none 0 0)] []),
            n_ (.st 5 (T 2) (T 30)),
            i_ 3 (.mv (KI 3))])
          .ret)
         (.seq
          (.ops [i_ 32 (.mv (T 6)),
            i_ 33 (.not (T 32)),
            i_ 34 (.mv (T 33)),
            ig 35 34 false (.mv (T 4)),
            ig 36 34 false (.lenV (T 35)),
            ig 37 34 false (.ib .gtr (T 36) (KI 4096)),
            i_ 38 (.pick (T 34) (KB true) (T 37)),
            i_ 31 (.mv (T 38))])
          (.cond (T 31)
           (.seq
            (.ops [i_ 39 (.build [(.string ⟨⟨[]⟩⟩), (.string ⟨⟨[]⟩⟩), (.slice none 0 0), (.slice none 0 0), (.slice none 0 0)] []),
              n_ (.st 5 (T 2) (T 39)),
              i_ 3 (.mv (KI 5))])
            .ret)
           .skip)))))
      (.seq
       (.ops [i_ 40 (.mv (T 4)),
         i_ 41 (.b2s (T 40)),
         i_ 42 (.call 12 [(T 41), (KS [13, 10])]),
         i_ 7 (.mv (T 42))])
       (.seq
        (.seq
         (.ops [i_ 43 (.mv (T 7)),
           i_ 44 (.call 13 [(T 43)])])
         (.cond (T 44)
          (.seq
           (.ops [i_ 45 (.build [(.string ⟨⟨[]⟩⟩), (.string ⟨⟨[]⟩⟩), (.slice none 0 0), (.slice none 0 0), (.slice none 0 0)] []),
             n_ (.st 5 (T 2) (T 45)),
             i_ 3 (.mv (KI 5))])
           .ret)
          .skip))
        (.seq
         (.ops [i_ 8 (.alloc 26 [(.string ⟨⟨[]⟩⟩), (.string ⟨⟨[]⟩⟩), (.slice none 0 0), (.slice none 0 0), (.slice none 0 0)])])
         (.seq
          (.ops [i_ 46 (.mv (T 7)),
            i_ 47 (.iaddr 1 (T 46) (KI 0)),
            i_ 48 (.ld1 (T 47)),
            i_ 49 (.call 14 [(T 8), (T 48)]),
            i_ 9 (.mv (T 49))])
          (.seq
           (.seq
            (.ops [i_ 50 (.mv (T 7)),
              i_ 51 (.slV 1 (T 50) (some (KI 1)) none),
              i_ 52 (.lenV (T 51)),
              i_ 53 (.mv (KI 0))])
            (.block 1
             (.loop [(54, 63), (11, 12), (9, 10), (53, 54)]
              (.seq
               (.ops [i_ 54 (.ib .lss (T 53) (T 52))])
               (.seq
                (.cond (T 54)
                 .skip
                 (.exit 1))
                (.seq
                 (.block 2
                  (.seq
                   (.ops [i_ 55 (.iaddr 1 (T 51) (T 53)),
                     i_ 56 (.ld1 (T 55)),
                     i_ 11 (.mv (T 56))])
                   (.ops [i_ 57 (.mv (T 9)),
                     i_ 58 (.mv (T 57)),
                     ig 59 58 true (.mv (T 11)),
                     ig 60 58 true (.call 15 [(T 8), (T 59)]),
                     i_ 61 (.pick (T 58) (T 60) (KB false)),
                     i_ 9 (.mv (T 61))])))
                 (.ops [i_ 62 (.ib .add (T 53) (KI 1)),
                   i_ 53 (.mv (T 62))])))))))
           (.seq
            (.ops [i_ 64 (.call 16 [(T 8)]),
              i_ 63 (.mv (T 64)),
              i_ 65 (.ext (T 63) 0),
              i_ 66 (.ext (T 63) 1),
              i_ 12 (.mv (T 65)),
              i_ 13 (.mv (T 66))])
            (.seq
             (.block 3
              (.seq
               (.ops [i_ 68 (.mv (T 9)),
                 i_ 69 (.not (T 68)),
                 i_ 70 (.mv (T 69)),
                 ig 71 70 false (.mv (T 13)),
                 ig 72 70 false (.not (T 71)),
                 i_ 73 (.pick (T 70) (KB true) (T 72)),
                 i_ 67 (.mv (T 73))])
               (.cond (T 67)
                (.seq
                 (.ops [i_ 74 (.build [(.string ⟨⟨[]⟩⟩), (.string ⟨⟨[]⟩⟩), (.slice none 0 0), (.slice none 0 0), (.slice none 0 0)] []),
                   n_ (.st 5 (T 2) (T 74)),
                   i_ 3 (.mv (KI 4))])
                 .ret)
                (.seq
                 (.ops [i_ 76 (.mv (T 12)),
                   i_ 77 (.ib .gtr (T 76) (KI 8192)),
                   i_ 75 (.mv (T 77))])
                 (.cond (T 75)
                  (.seq
                   (.ops [i_ 78 (.build [(.string ⟨⟨[]⟩⟩), (.string ⟨⟨[]⟩⟩), (.slice none 0 0), (.slice none 0 0), (.slice none 0 0)] []),
                     n_ (.st 5 (T 2) (T 78)),
                     i_ 3 (.mv (KI 5))])
                   .ret)
                  (.seq
                   (.ops [i_ 80 (.mv (T 5)),
                     i_ 81 (.lenV (T 80)),
                     i_ 82 (.mv (T 12)),
                     i_ 83 (.ib .lss (T 81) (T 82)),
                     i_ 79 (.mv (T 83))])
                   (.cond (T 79)
                    (.seq
                     (.ops [i_ 84 (.build [(.string ⟨⟨[]⟩⟩), (.string ⟨⟨[]⟩⟩), (.slice none 0 0), (.slice none 0 0), (.slice none 0 0)] []),
                       n_ (.st 5 (T 2) (T 84)),
                       i_ 3 (.mv (KI 3))])
                     .ret)
                    (.seq
                     (.ops [i_ 86 (.mv (T 5)),
                       i_ 87 (.lenV (T 86)),
                       i_ 88 (.mv (T 12)),
                       i_ 89 (.ib .gtr (T 87) (T 88)),
                       i_ 85 (.mv (T 89))])
                     (.cond (T 85)
                      (.seq
                       (.ops [i_ 90 (.build [(.string ⟨⟨[]⟩⟩), (.string ⟨⟨[]⟩⟩), (.slice none 0 0), (.slice none 0 0), (.slice none 0 0)] []),
                         n_ (.st 5 (T 2) (T 90)),
                         i_ 3 (.mv (KI 6))])
                       .ret)
                      .skip)))))))))
             (.seq
              (.ops [i_ 91 (.mv (T 5)),
                i_ 92 (.call 17 [(T 91)]),
                i_ 93 (.faddr 4 (T 8)),
                n_ (.st 1 (T 93) (T 92))])
              (.seq
               (.ops [i_ 94 (.ldN 5 (T 8)),
                 n_ (.st 5 (T 2) (T 94)),
                 i_ 3 (.mv (KI 0))])
               .ret))))))))))))
def m5 : MF := ⟨95, [(.cell 2 5), (.tmp 3)], c5⟩
theorem r5 : resF Tryz.prog Tryz.f5 = some m5 := by kernel_rfl
theorem k5 : Callable Tryz.prog 5 := ⟨_, Tryz.func5, by kernel_rfl, by kernel_rfl⟩

def c6 : MC :=
   (.seq
    (.ops [i_ 2 (.box 31 (T 0)),
      i_ 3 (.box 31 (T 1)),
      i_ 4 (.mv (KB false))])
    (.seq
     (.ops [i_ 5 (.faddr 0 (T 2)),
       i_ 6 (.ld1 (T 5)),
       i_ 7 (.faddr 0 (T 3)),
       i_ 8 (.ld1 (T 7)),
       i_ 9 (.sb .eql (T 6) (T 8)),
       i_ 10 (.mv (T 9)),
       ig 11 10 true (.faddr 1 (T 2)),
       ig 12 10 true (.ld1 (T 11)),
       ig 13 10 true (.faddr 1 (T 3)),
       ig 14 10 true (.ld1 (T 13)),
       ig 15 10 true (.sb .eql (T 12) (T 14)),
       i_ 16 (.pick (T 10) (T 15) (KB false)),
       i_ 17 (.mv (T 16)),
       ig 18 17 true (.faddr 2 (T 2)),
       ig 19 17 true (.ld1 (T 18)),
       ig 20 17 true (.faddr 2 (T 3)),
       ig 21 17 true (.ld1 (T 20)),
       ig 22 17 true (.call 18 [(T 19), (T 21)]),
       i_ 23 (.pick (T 17) (T 22) (KB false)),
       i_ 24 (.mv (T 23)),
       ig 25 24 true (.faddr 3 (T 2)),
       ig 26 24 true (.ld1 (T 25)),
       ig 27 24 true (.faddr 3 (T 3)),
       ig 28 24 true (.ld1 (T 27)),
       ig 29 24 true (.call 18 [(T 26), (T 28)]),
       i_ 30 (.pick (T 24) (T 29) (KB false)),
       i_ 31 (.mv (T 30)),
       ig 32 31 true (.faddr 4 (T 2)),
       ig 33 31 true (.ld1 (T 32)),
       ig 34 31 true (.faddr 4 (T 3)),
       ig 35 31 true (.ld1 (T 34)),
       ig 36 31 true (.call 19 [(T 33), (T 35)]),
       i_ 37 (.pick (T 31) (T 36) (KB false)),
       i_ 4 (.mv (T 37))])
     .ret))
def m6 : MF := ⟨38, [(.tmp 4)], c6⟩
theorem r6 : resF Tryz.prog Tryz.f6 = some m6 := by kernel_rfl
theorem k6 : Callable Tryz.prog 6 := ⟨_, Tryz.func6, by kernel_rfl, by kernel_rfl⟩

def c7 : MC :=
   (.seq
    (.ops [i_ 1 (.box 26 (T 0)),
      i_ 2 (.alloc 31 [(.string ⟨⟨[]⟩⟩), (.string ⟨⟨[]⟩⟩), (.slice none 0 0), (.slice none 0 0), (.slice none 0 0)])])
    (.seq
     (.ops [i_ 3 (.faddr 0 (T 1)),
       i_ 4 (.ld1 (T 3)),
       i_ 5 (.faddr 1 (T 1)),
       i_ 6 (.ld1 (T 5)),
       i_ 7 (.faddr 2 (T 1)),
       i_ 8 (.ld1 (T 7)),
       i_ 9 (.faddr 3 (T 1)),
       i_ 10 (.ld1 (T 9)),
       i_ 11 (.faddr 4 (T 1)),
       i_ 12 (.ld1 (T 11)),
       i_ 13 (.build [(.string ⟨⟨[]⟩⟩), (.string ⟨⟨[]⟩⟩), (.slice none 0 0), (.slice none 0 0), (.slice none 0 0)] [(0, (1, (T 4))), (1, (1, (T 6))), (2, (1, (T 8))), (3, (1, (T 10))), (4, (1, (T 12)))]),
       n_ (.st 5 (T 2) (T 13))])
     .ret))
def m7 : MF := ⟨14, [(.cell 2 5)], c7⟩
theorem r7 : resF Tryz.prog Tryz.f7 = some m7 := by kernel_rfl
theorem k7 : Callable Tryz.prog 7 := ⟨_, Tryz.func7, by kernel_rfl, by kernel_rfl⟩

def c8 : MC :=
   (.seq
    (.ops [i_ 0 (.mv (KB false))])
    (.seq
     (.ops [i_ 4 (.bslice 5 [(.int .u8 0)] 36 1 [(0, (1, (KU 71))), (1, (1, (KU 69))), (2, (1, (KU 84))), (3, (1, (KU 32))), (4, (1, (KU 47))), (5, (1, (KU 97))), (6, (1, (KU 37))), (7, (1, (KU 50))), (8, (1, (KU 48))), (9, (1, (KU 98))), (10, (1, (KU 63))), (11, (1, (KU 99))), (12, (1, (KU 61))), (13, (1, (KU 100))), (14, (1, (KU 32))), (15, (1, (KU 72))), (16, (1, (KU 84))), (17, (1, (KU 84))), (18, (1, (KU 80))), (19, (1, (KU 47))), (20, (1, (KU 49))), (21, (1, (KU 46))), (22, (1, (KU 49))), (23, (1, (KU 13))), (24, (1, (KU 10))), (25, (1, (KU 72))), (26, (1, (KU 111))), (27, (1, (KU 115))), (28, (1, (KU 116))), (29, (1, (KU 58))), (30, (1, (KU 32))), (31, (1, (KU 120))), (32, (1, (KU 13))), (33, (1, (KU 10))), (34, (1, (KU 13))), (35, (1, (KU 10)))]),
       i_ 5 (.raw ⟨(some 5), (.convert 22 22 (T 4)), 22, "law.go:19", ⟨[⟨0, .data⟩]⟩, none⟩),
       i_ 6 (.call 5 [(T 5)]),
       i_ 3 (.mv (T 6)),
       i_ 7 (.ext (T 3) 0),
       i_ 8 (.ext (T 3) 1),
       i_ 1 (.alloc 26 [(.string ⟨⟨[]⟩⟩), (.string ⟨⟨[]⟩⟩), (.slice none 0 0), (.slice none 0 0), (.slice none 0 0)]),
       n_ (.st 5 (T 1) (T 7)),
       i_ 2 (.mv (T 8))])
     (.seq
      (.ops [i_ 9 (.mv (T 2)),
        i_ 10 (.ib .eql (T 9) (KI 0)),
        i_ 11 (.mv (T 10)),
        ig 12 11 true (.faddr 1 (T 1)),
        ig 13 11 true (.ld1 (T 12)),
        ig 14 11 true (.sb .eql (T 13) (KS [47, 97, 32, 98])),
        i_ 15 (.pick (T 11) (T 14) (KB false)),
        i_ 16 (.mv (T 15)),
        ig 17 16 true (.faddr 2 (T 1)),
        ig 18 16 true (.ld1 (T 17)),
        ig 19 16 true (.lenV (T 18)),
        ig 20 16 true (.ib .eql (T 19) (KI 1)),
        i_ 21 (.pick (T 16) (T 20) (KB false)),
        i_ 0 (.mv (T 21))])
      .ret)))
def m8 : MF := ⟨22, [(.tmp 0)], c8⟩
theorem r8 : resF Tryz.prog Tryz.f8 = some m8 := by kernel_rfl
theorem k8 : Callable Tryz.prog 8 := ⟨_, Tryz.func8, by kernel_rfl, by kernel_rfl⟩

def c9 : MC :=
   (.seq
    (.ops [i_ 6 (.mv (KI 0))])
    (.seq
     (.seq
      (.ops [i_ 7 (.mv (T 0)),
        i_ 8 (.mv (T 1)),
        i_ 9 (.ib .lss (T 7) (T 8))])
      (.cond (T 9)
       (.seq
        (.ops [i_ 10 (.mv (T 1)),
          i_ 6 (.mv (T 10))])
        .ret)
       .skip))
     (.seq
      (.seq
       (.ops [i_ 11 (.mv (T 0)),
         i_ 12 (.mv (T 2)),
         i_ 13 (.ib .gtr (T 11) (T 12))])
       (.cond (T 13)
        (.seq
         (.ops [i_ 14 (.mv (T 2)),
           i_ 6 (.mv (T 14))])
         .ret)
        .skip))
      (.seq
       (.ops [i_ 15 (.mv (T 0)),
         i_ 6 (.mv (T 15))])
       .ret))))
def m9 : MF := ⟨16, [(.tmp 6)], c9⟩
theorem r9 : resF Tryz.prog Tryz.f9 = some m9 := by kernel_rfl
theorem k9 : Callable Tryz.prog 9 := ⟨_, Tryz.func9, by kernel_rfl, by kernel_rfl⟩

def c10 : MC :=
   (.seq
    (.ops [i_ 2 (.mv (.const (.slice none 0 0)))])
    (.seq
     (.ops [i_ 3 (.mv (.const (.slice none 0 0)))])
     (.seq
      (.ops [i_ 4 (.mv (T 3)),
        i_ 5 (.mv (T 0)),
        i_ 6 (.append 5 1 1 (T 4) (T 5)),
        i_ 2 (.mv (T 6))])
      .ret)))
def m10 : MF := ⟨7, [(.tmp 2)], c10⟩
theorem r10 : resF Tryz.prog Tryz.f10 = some m10 := by kernel_rfl
theorem k10 : Callable Tryz.prog 10 := ⟨_, Tryz.func10, by kernel_rfl, by kernel_rfl⟩

def c13 : MC :=
   (.seq
    (.ops [i_ 2 (.mv (KB false))])
    (.seq
     (.seq
      (.ops [i_ 5 (.mv (T 0)),
        i_ 6 (.lenV (T 5)),
        i_ 7 (.mv (KI 0))])
      (.block 0
       (.loop [(8, 15), (4, 5), (2, 3), (7, 8)]
        (.seq
         (.ops [i_ 8 (.ib .lss (T 7) (T 6))])
         (.seq
          (.cond (T 8)
           .skip
           (.exit 0))
          (.seq
           (.block 1
            (.seq
             (.ops [i_ 9 (.iaddr 1 (T 5) (T 7)),
               i_ 10 (.ld1 (T 9)),
               i_ 4 (.mv (T 10))])
             (.seq
              (.ops [i_ 11 (.mv (T 4)),
                i_ 12 (.lenS (T 11)),
                i_ 13 (.ib .gtr (T 12) (KI 2048))])
              (.cond (T 13)
               (.seq
                (.ops [i_ 2 (.mv (KB true))])
                .ret)
               .skip))))
           (.ops [i_ 14 (.ib .add (T 7) (KI 1)),
             i_ 7 (.mv (T 14))])))))))
     (.seq
      (.ops [i_ 15 (.mv (T 0)),
        i_ 16 (.lenV (T 15)),
        i_ 17 (.ib .gtr (T 16) (KI 33)),
        i_ 2 (.mv (T 17))])
      .ret)))
def m13 : MF := ⟨18, [(.tmp 2)], c13⟩
theorem r13 : resF Tryz.prog Tryz.f13 = some m13 := by kernel_rfl
theorem k13 : Callable Tryz.prog 13 := ⟨_, Tryz.func13, by kernel_rfl, by kernel_rfl⟩

def c14 : MC :=
   (.seq
    (.ops [i_ 4 (.mv (KB false))])
    (.seq
     (.ops [i_ 12 (.mv (T 1)),
       i_ 13 (.call 12 [(T 12), (KS [32])]),
       i_ 5 (.mv (T 13))])
     (.seq
      (.seq
       (.ops [i_ 14 (.mv (T 5)),
         i_ 15 (.lenV (T 14)),
         i_ 16 (.ib .neq (T 15) (KI 3)),
         i_ 17 (.mv (T 16)),
         ig 18 17 false (.mv (T 5)),
         ig 19 17 false (.iaddr 1 (T 18) (KI 2)),
         ig 20 17 false (.ld1 (T 19)),
         ig 21 17 false (.sb .neq (T 20) (KS [72, 84, 84, 80, 47, 49, 46, 49])),
         i_ 22 (.pick (T 17) (KB true) (T 21)),
         i_ 23 (.mv (T 22)),
         ig 24 23 false (.mv (T 5)),
         ig 25 23 false (.iaddr 1 (T 24) (KI 0)),
         ig 26 23 false (.ld1 (T 25)),
         ig 27 23 false (.call 22 [(T 26), (KI 16), (FN 23)]),
         ig 28 23 false (.not (T 27)),
         i_ 29 (.pick (T 23) (KB true) (T 28)),
         i_ 30 (.mv (T 29)),
         ig 31 30 false (.mv (T 5)),
         ig 32 30 false (.iaddr 1 (T 31) (KI 1)),
         ig 33 30 false (.ld1 (T 32)),
         ig 34 30 false (.call 22 [(T 33), (KI 2048), (FN 24)]),
         ig 35 30 false (.not (T 34)),
         i_ 36 (.pick (T 30) (KB true) (T 35)),
         i_ 37 (.mv (T 36)),
         ig 38 37 false (.mv (T 5)),
         ig 39 37 false (.iaddr 1 (T 38) (KI 1)),
         ig 40 37 false (.ld1 (T 39)),
         ig 41 37 false (.idx (T 40) (KI 0)),
         ig 42 37 false (.ib .neq (T 41) (KU 47)),
         i_ 43 (.pick (T 37) (KB true) (T 42))])
       (.cond (T 43)
        (.seq
         (.ops [i_ 4 (.mv (KB false))])
         .ret)
        .skip))
      (.seq
       (.ops [i_ 45 (.mv (T 5)),
         i_ 46 (.iaddr 1 (T 45) (KI 1)),
         i_ 47 (.ld1 (T 46)),
         i_ 48 (.call 25 [(T 47), (KS [63])]),
         i_ 44 (.mv (T 48)),
         i_ 49 (.ext (T 44) 0),
         i_ 50 (.ext (T 44) 1),
         i_ 51 (.ext (T 44) 2),
         i_ 6 (.mv (T 49)),
         i_ 7 (.mv (T 50)),
         i_ 8 (.mv (T 51))])
       (.seq
        (.ops [i_ 53 (.mv (T 6)),
          i_ 54 (.call 26 [(T 53), (KB false)]),
          i_ 52 (.mv (T 54)),
          i_ 55 (.ext (T 52) 0),
          i_ 56 (.ext (T 52) 1),
          i_ 6 (.mv (T 55)),
          i_ 9 (.mv (T 56))])
        (.seq
         (.ops [i_ 58 (.mv (T 7)),
           i_ 59 (.call 27 [(T 58)]),
           i_ 57 (.mv (T 59)),
           i_ 60 (.ext (T 57) 0),
           i_ 61 (.ext (T 57) 1),
           i_ 10 (.mv (T 60)),
           i_ 11 (.mv (T 61))])
         (.seq
          (.ops [i_ 62 (.mv (T 0)),
            i_ 63 (.mv (T 0)),
            i_ 64 (.mv (T 0)),
            i_ 65 (.mv (T 5)),
            i_ 66 (.iaddr 1 (T 65) (KI 0)),
            i_ 67 (.ld1 (T 66)),
            i_ 68 (.mv (T 6)),
            i_ 69 (.mv (T 10)),
            i_ 70 (.nilck (T 62)),
            i_ 71 (.faddr 0 (T 70)),
            n_ (.st 1 (T 71) (T 67)),
            i_ 72 (.nilck (T 63)),
            i_ 73 (.faddr 1 (T 72)),
            n_ (.st 1 (T 73) (T 68)),
            i_ 74 (.nilck (T 64)),
            i_ 75 (.faddr 2 (T 74)),
            n_ (.st 1 (T 75) (T 69))])
          (.seq
           (.ops [i_ 76 (.mv (T 9)),
             i_ 77 (.ib .eql (T 76) (KI 0)),
             i_ 78 (.mv (T 77)),
             ig 79 78 true (.mv (T 11)),
             ig 80 78 true (.ib .eql (T 79) (KI 0)),
             i_ 81 (.pick (T 78) (T 80) (KB false)),
             i_ 4 (.mv (T 81))])
           .ret))))))))
def m14 : MF := ⟨82, [(.tmp 4)], c14⟩
theorem r14 : resF Tryz.prog Tryz.f14 = some m14 := by kernel_rfl
theorem k14 : Callable Tryz.prog 14 := ⟨_, Tryz.func14, by kernel_rfl, by kernel_rfl⟩

def c15 : MC :=
   (.seq
    (.ops [i_ 4 (.mv (KB false))])
    (.seq
     (.ops [i_ 9 (.mv (T 1)),
       i_ 10 (.call 25 [(T 9), (KS [58])]),
       i_ 8 (.mv (T 10)),
       i_ 11 (.ext (T 8) 0),
       i_ 12 (.ext (T 8) 1),
       i_ 13 (.ext (T 8) 2),
       i_ 5 (.mv (T 11)),
       i_ 6 (.mv (T 12)),
       i_ 7 (.mv (T 13))])
     (.seq
      (.seq
       (.ops [i_ 14 (.mv (T 7)),
         i_ 15 (.not (T 14)),
         i_ 16 (.mv (T 15)),
         ig 17 16 false (.mv (T 5)),
         ig 18 16 false (.call 22 [(T 17), (KI 40), (FN 28)]),
         ig 19 16 false (.not (T 18)),
         i_ 20 (.pick (T 16) (KB true) (T 19)),
         i_ 21 (.mv (T 20)),
         ig 22 21 false (.mv (T 6)),
         ig 23 21 false (.sb .neq (T 22) (KS [])),
         ig 24 21 false (.mv (T 23)),
         ig 25 24 true (.mv (T 6)),
         ig 26 24 true (.call 22 [(T 25), (KI 2048), (FN 29)]),
         ig 27 24 true (.not (T 26)),
         ig 28 21 false (.pick (T 24) (T 27) (KB false)),
         i_ 29 (.pick (T 21) (KB true) (T 28))])
       (.cond (T 29)
        (.seq
         (.ops [i_ 4 (.mv (KB false))])
         .ret)
        .skip))
      (.seq
       (.dops <|
         .op 0 (i_ 30 (.mv (T 0))) <|
         .op 1 (i_ 31 (.mv (T 0))) <|
         .op 2 (i_ 32 (.nilck (T 31))) <|
         .op 3 (i_ 33 (.faddr 3 (T 32))) <|
         .op 4 (i_ 34 (.ld1 (T 33))) <|
         .op 5 (i_ 35 (.mv (T 5))) <|
         .op 7 (i_ 37 (.mv (T 6))) <|
         .op 6 (i_ 36 (.call 30 [(T 35)])) <|
         .op 8 (i_ 38 (.call 31 [(T 37), (KS [32, 9])])) <|
         .op 9 (i_ 39 (.build [(.string ⟨⟨[]⟩⟩), (.string ⟨⟨[]⟩⟩)] [(0, (1, (T 36))), (1, (1, (T 38)))])) <|
         .op 10 (i_ 40 (.bslice 61 [(.string ⟨⟨[]⟩⟩), (.string ⟨⟨[]⟩⟩)] 1 2 [(0, (2, (T 39)))])) <|
         .op 11 (id_ 41 (.append 61 2 32 (T 34) (T 40)) [4]) <|
         .op 12 (i_ 42 (.nilck (T 30))) <|
         .op 13 (i_ 43 (.faddr 3 (T 42))) <|
         .op 14 (nd_ (.st 1 (T 43) (T 41)) [4]) <|
         .nil)
       (.seq
        (.ops [i_ 4 (.mv (KB true))])
        .ret)))))
def m15 : MF := ⟨44, [(.tmp 4)], c15⟩
theorem r15 : resF Tryz.prog Tryz.f15 = some m15 := by kernel_rfl
theorem k15 : Callable Tryz.prog 15 := ⟨_, Tryz.func15, by kernel_rfl, by kernel_rfl⟩

def c16 : MC :=
   (.seq
    (.ops [i_ 2 (.mv (KI 0)),
      i_ 3 (.mv (KB false))])
    (.seq
     (.seq
      (.ops [i_ 8 (.mv (T 0)),
        i_ 9 (.call 32 [(T 8), (KS [104, 111, 115, 116])]),
        i_ 10 (.ib .neq (T 9) (KI 1)),
        i_ 11 (.mv (T 10)),
        ig 12 11 false (.mv (T 0)),
        ig 13 11 false (.call 32 [(T 12), (KS [116, 114, 97, 110, 115, 102, 101, 114, 45, 101, 110, 99, 111, 100, 105, 110, 103])]),
        ig 14 11 false (.ib .gtr (T 13) (KI 0)),
        i_ 15 (.pick (T 11) (KB true) (T 14)),
        i_ 16 (.mv (T 15)),
        ig 17 16 false (.mv (T 0)),
        ig 18 16 false (.call 32 [(T 17), (KS [99, 111, 110, 116, 101, 110, 116, 45, 108, 101, 110, 103, 116, 104])]),
        ig 19 16 false (.ib .gtr (T 18) (KI 1)),
        i_ 20 (.pick (T 16) (KB true) (T 19))])
      (.cond (T 20)
       (.seq
        (.ops [i_ 2 (.mv (KI 0)),
          i_ 3 (.mv (KB false))])
        .ret)
       .skip))
     (.seq
      (.ops [i_ 22 (.mv (T 0)),
        i_ 23 (.nilck (T 22)),
        i_ 24 (.ldN 5 (T 23)),
        i_ 25 (.call 33 [(T 24), (KS [99, 111, 110, 116, 101, 110, 116, 45, 108, 101, 110, 103, 116, 104])]),
        i_ 21 (.mv (T 25)),
        i_ 26 (.ext (T 21) 0),
        i_ 27 (.ext (T 21) 1),
        i_ 4 (.mv (T 26)),
        i_ 5 (.mv (T 27))])
      (.seq
       (.seq
        (.ops [i_ 28 (.mv (T 5)),
          i_ 29 (.not (T 28))])
        (.cond (T 29)
         (.seq
          (.ops [i_ 2 (.mv (KI 0)),
            i_ 3 (.mv (KB true))])
          .ret)
         .skip))
       (.seq
        (.ops [i_ 31 (.mv (T 4)),
          i_ 32 (.call 34 [(T 31)]),
          i_ 30 (.mv (T 32)),
          i_ 33 (.ext (T 30) 0),
          i_ 34 (.ext (T 30) 1),
          i_ 6 (.mv (T 33)),
          i_ 7 (.mv (T 34))])
        (.seq
         (.ops [i_ 35 (.mv (T 6)),
           i_ 36 (.mv (T 7)),
           i_ 37 (.raw ⟨(some 37), (.binOp .eql 66 (T 36) (.const .nilIface) 66), 4, "http.go:111", ⟨[⟨1, .data⟩]⟩, none⟩),
           i_ 38 (.mv (T 37)),
           ig 39 38 true (.mv (T 4)),
           ig 40 38 true (.call 22 [(T 39), (KI 9), (FN 35)]),
           i_ 41 (.pick (T 38) (T 40) (KB false)),
           i_ 2 (.mv (T 35)),
           i_ 3 (.mv (T 41))])
         .ret))))))
def m16 : MF := ⟨42, [(.tmp 2), (.tmp 3)], c16⟩
theorem r16 : resF Tryz.prog Tryz.f16 = some m16 := by kernel_rfl
theorem k16 : Callable Tryz.prog 16 := ⟨_, Tryz.func16, by kernel_rfl, by kernel_rfl⟩

def c18 : MC :=
   (.seq
    (.ops [i_ 4 (.mv (KB false))])
    (.seq
     (.seq
      (.ops [i_ 6 (.mv (T 0)),
        i_ 7 (.lenV (T 6)),
        i_ 8 (.mv (T 1)),
        i_ 9 (.lenV (T 8)),
        i_ 10 (.ib .neq (T 7) (T 9))])
      (.cond (T 10)
       (.seq
        (.ops [i_ 4 (.mv (KB false))])
        .ret)
       .skip))
     (.seq
      (.seq
       (.ops [i_ 5 (.mv (KI 0))])
       (.block 0
        (.loop [(11, 17), (17, 26), (4, 6)]
         (.seq
          (.seq
           (.ops [i_ 11 (.mv (T 5)),
             i_ 12 (.mv (T 0)),
             i_ 13 (.lenV (T 12)),
             i_ 14 (.ib .lss (T 11) (T 13))])
           (.cond (T 14)
            .skip
            (.exit 0)))
          (.seq
           (.block 1
            (.seq
             (.dops <|
               .op 0 (i_ 17 (.mv (T 0))) <|
               .op 1 (i_ 18 (.mv (T 5))) <|
               .op 2 (i_ 19 (.iaddr 2 (T 17) (T 18))) <|
               .op 3 (i_ 20 (.ldN 2 (T 19))) <|
               .op 4 (i_ 21 (.mv (T 1))) <|
               .op 5 (i_ 22 (.mv (T 5))) <|
               .op 6 (i_ 23 (.iaddr 2 (T 21) (T 22))) <|
               .op 7 (i_ 24 (.ldN 2 (T 23))) <|
               .op 8 (i_ 25 (.eqA true 61 [61] [2, 2] (T 20) (T 24))) <|
               .nil)
             (.cond (T 25)
              (.seq
               (.ops [i_ 4 (.mv (KB false))])
               .ret)
              .skip)))
           (.ops [i_ 15 (.mv (T 5)),
             i_ 16 (.ib .add (T 15) (KI 1)),
             i_ 5 (.mv (T 16))]))))))
      (.seq
       (.ops [i_ 4 (.mv (KB true))])
       .ret))))
def m18 : MF := ⟨26, [(.tmp 4)], c18⟩
theorem r18 : resF Tryz.prog Tryz.f18 = some m18 := by kernel_rfl
theorem k18 : Callable Tryz.prog 18 := ⟨_, Tryz.func18, by kernel_rfl, by kernel_rfl⟩

def c19 : MC :=
   (.seq
    (.ops [i_ 4 (.mv (KB false))])
    (.seq
     (.seq
      (.ops [i_ 6 (.mv (T 0)),
        i_ 7 (.lenV (T 6)),
        i_ 8 (.mv (T 1)),
        i_ 9 (.lenV (T 8)),
        i_ 10 (.ib .neq (T 7) (T 9))])
      (.cond (T 10)
       (.seq
        (.ops [i_ 4 (.mv (KB false))])
        .ret)
       .skip))
     (.seq
      (.seq
       (.ops [i_ 5 (.mv (KI 0))])
       (.block 0
        (.loop [(11, 17), (17, 26), (4, 6)]
         (.seq
          (.seq
           (.ops [i_ 11 (.mv (T 5)),
             i_ 12 (.mv (T 0)),
             i_ 13 (.lenV (T 12)),
             i_ 14 (.ib .lss (T 11) (T 13))])
           (.cond (T 14)
            .skip
            (.exit 0)))
          (.seq
           (.block 1
            (.seq
             (.dops <|
               .op 0 (i_ 17 (.mv (T 0))) <|
               .op 1 (i_ 18 (.mv (T 5))) <|
               .op 2 (i_ 19 (.iaddr 1 (T 17) (T 18))) <|
               .op 3 (i_ 20 (.ld1 (T 19))) <|
               .op 4 (i_ 21 (.mv (T 1))) <|
               .op 5 (i_ 22 (.mv (T 5))) <|
               .op 6 (i_ 23 (.iaddr 1 (T 21) (T 22))) <|
               .op 7 (i_ 24 (.ld1 (T 23))) <|
               .op 8 (i_ 25 (.ib .neq (T 20) (T 24))) <|
               .nil)
             (.cond (T 25)
              (.seq
               (.ops [i_ 4 (.mv (KB false))])
               .ret)
              .skip)))
           (.ops [i_ 15 (.mv (T 5)),
             i_ 16 (.ib .add (T 15) (KI 1)),
             i_ 5 (.mv (T 16))]))))))
      (.seq
       (.ops [i_ 4 (.mv (KB true))])
       .ret))))
def m19 : MF := ⟨26, [(.tmp 4)], c19⟩
theorem r19 : resF Tryz.prog Tryz.f19 = some m19 := by kernel_rfl
theorem k19 : Callable Tryz.prog 19 := ⟨_, Tryz.func19, by kernel_rfl, by kernel_rfl⟩

def c22 : MC :=
   (.seq
    (.ops [i_ 6 (.mv (KB false))])
    (.seq
     (.seq
      (.ops [i_ 8 (.mv (T 0)),
        i_ 9 (.lenS (T 8)),
        i_ 10 (.mv (KI 0))])
      (.block 0
       (.loop [(11, 20), (7, 8), (6, 7), (10, 11)]
        (.seq
         (.ops [i_ 11 (.ib .lss (T 10) (T 9))])
         (.seq
          (.cond (T 11)
           .skip
           (.exit 0))
          (.seq
           (.block 1
            (.seq
             (.ops [i_ 12 (.mv (T 10)),
               i_ 7 (.mv (T 12))])
             (.seq
              (.ops [i_ 13 (.mv (T 2)),
                i_ 14 (.mv (T 0)),
                i_ 15 (.mv (T 7)),
                i_ 16 (.idx (T 14) (T 15)),
                i_ 17 (.callv (T 13) [(T 16)]),
                i_ 18 (.not (T 17))])
              (.cond (T 18)
               (.seq
                (.ops [i_ 6 (.mv (KB false))])
                .ret)
               .skip))))
           (.ops [i_ 19 (.ib .add (T 10) (KI 1)),
             i_ 10 (.mv (T 19))])))))))
     (.seq
      (.ops [i_ 20 (.mv (T 0)),
        i_ 21 (.lenS (T 20)),
        i_ 22 (.ib .geq (T 21) (KI 1)),
        i_ 23 (.mv (T 22)),
        ig 24 23 true (.mv (T 0)),
        ig 25 23 true (.lenS (T 24)),
        ig 26 23 true (.mv (T 1)),
        ig 27 23 true (.ib .leq (T 25) (T 26)),
        i_ 28 (.pick (T 23) (T 27) (KB false)),
        i_ 6 (.mv (T 28))])
      .ret)))
def m22 : MF := ⟨29, [(.tmp 6)], c22⟩
theorem r22 : resF Tryz.prog Tryz.f22 = some m22 := by kernel_rfl
theorem k22 : Callable Tryz.prog 22 := ⟨_, Tryz.func22, by kernel_rfl, by kernel_rfl⟩

def c23 : MC :=
   (.seq
    (.ops [i_ 2 (.mv (KB false))])
    (.seq
     (.ops [i_ 3 (.mv (T 0)),
       i_ 4 (.ib .geq (T 3) (KU 65)),
       i_ 5 (.mv (T 4)),
       ig 6 5 true (.mv (T 0)),
       ig 7 5 true (.ib .leq (T 6) (KU 90)),
       i_ 8 (.pick (T 5) (T 7) (KB false)),
       i_ 2 (.mv (T 8))])
     .ret))
def m23 : MF := ⟨9, [(.tmp 2)], c23⟩
theorem r23 : resF Tryz.prog Tryz.f23 = some m23 := by kernel_rfl
theorem k23 : Callable Tryz.prog 23 := ⟨_, Tryz.func23, by kernel_rfl, by kernel_rfl⟩

def c24 : MC :=
   (.seq
    (.ops [i_ 2 (.mv (KB false))])
    (.seq
     (.ops [i_ 3 (.mv (T 0)),
       i_ 4 (.ib .geq (T 3) (KU 33)),
       i_ 5 (.mv (T 4)),
       ig 6 5 true (.mv (T 0)),
       ig 7 5 true (.ib .leq (T 6) (KU 126)),
       i_ 8 (.pick (T 5) (T 7) (KB false)),
       i_ 2 (.mv (T 8))])
     .ret))
def m24 : MF := ⟨9, [(.tmp 2)], c24⟩
theorem r24 : resF Tryz.prog Tryz.f24 = some m24 := by kernel_rfl
theorem k24 : Callable Tryz.prog 24 := ⟨_, Tryz.func24, by kernel_rfl, by kernel_rfl⟩

def c26 : MC :=
   (.seq
    (.ops [i_ 4 (.mv (KS [])),
      i_ 5 (.mv (KI 0))])
    (.seq
     (.ops [i_ 6 (.raw ⟨(some 6), (.alloc 76), 0, "query.go:46", ⟨[]⟩, none⟩)])
     (.seq
      (.seq
       (.ops [i_ 7 (.mv (KI 0))])
       (.block 0
        (.loop [(10, 16), (46, 55), (45, 46), (55, 63), (16, 26), (4, 6), (26, 45), (8, 10), (7, 8)]
         (.seq
          (.seq
           (.ops [i_ 10 (.mv (T 7)),
             i_ 11 (.mv (T 0)),
             i_ 12 (.lenS (T 11)),
             i_ 13 (.ib .lss (T 10) (T 12))])
           (.cond (T 13)
            .skip
            (.exit 0)))
          (.seq
           (.block 1
            (.block 2
             (.seq
              (.ops [i_ 46 (.mv (T 0)),
                i_ 47 (.mv (T 7)),
                i_ 48 (.idx (T 46) (T 47)),
                i_ 49 (.ib .eql (T 48) (KU 43)),
                i_ 50 (.mv (T 49)),
                ig 51 50 true (.mv (T 1)),
                i_ 52 (.pick (T 50) (T 51) (KB false)),
                i_ 45 (.mv (T 52))])
              (.cond (T 45)
               (.ops [i_ 53 (.call 45 [(T 6), (KU 32)])])
               (.seq
                (.ops [i_ 55 (.mv (T 0)),
                  i_ 56 (.mv (T 7)),
                  i_ 57 (.idx (T 55) (T 56)),
                  i_ 58 (.ib .neq (T 57) (KU 37)),
                  i_ 54 (.mv (T 58))])
                (.cond (T 54)
                 (.ops [i_ 59 (.mv (T 0)),
                   i_ 60 (.mv (T 7)),
                   i_ 61 (.idx (T 59) (T 60)),
                   i_ 62 (.call 45 [(T 6), (T 61)])])
                 (.seq
                  (.seq
                   (.ops [i_ 16 (.mv (T 0)),
                     i_ 17 (.lenS (T 16)),
                     i_ 18 (.mv (T 7)),
                     i_ 19 (.ib .sub (T 17) (T 18)),
                     i_ 20 (.ib .lss (T 19) (KI 3))])
                   (.cond (T 20)
                    (.seq
                     (.ops [i_ 4 (.mv (KS [])),
                       i_ 5 (.mv (KI 4))])
                     .ret)
                    .skip))
                  (.seq
                   (.dops <|
                     .op 0 (i_ 21 (.mv (T 0))) <|
                     .op 1 (i_ 22 (.mv (T 7))) <|
                     .op 2 (i_ 23 (.ib .add (T 22) (KI 1))) <|
                     .op 3 (i_ 24 (.idx (T 21) (T 23))) <|
                     .op 5 (i_ 26 (.mv (T 0))) <|
                     .op 6 (i_ 27 (.mv (T 7))) <|
                     .op 7 (i_ 28 (.ib .add (T 27) (KI 2))) <|
                     .op 8 (i_ 29 (.idx (T 26) (T 28))) <|
                     .op 4 (i_ 25 (.call 46 [(T 24)])) <|
                     .op 9 (i_ 30 (.call 46 [(T 29)])) <|
                     .op 10 (i_ 8 (.mv (T 25))) <|
                     .op 11 (i_ 9 (.mv (T 30))) <|
                     .nil)
                   (.seq
                    (.seq
                     (.ops [i_ 31 (.mv (T 8)),
                       i_ 32 (.ib .lss (T 31) (KI 0)),
                       i_ 33 (.mv (T 32)),
                       ig 34 33 false (.mv (T 9)),
                       ig 35 33 false (.ib .lss (T 34) (KI 0)),
                       i_ 36 (.pick (T 33) (KB true) (T 35))])
                     (.cond (T 36)
                      (.seq
                       (.ops [i_ 4 (.mv (KS [])),
                         i_ 5 (.mv (KI 4))])
                       .ret)
                      .skip))
                    (.seq
                     (.ops [i_ 37 (.mv (T 8)),
                       i_ 38 (.ib .shl (T 37) (.const (.int .u64 4))),
                       i_ 39 (.mv (T 9)),
                       i_ 40 (.ib .or (T 38) (T 39)),
                       i_ 41 (.conv .u8 (T 40)),
                       i_ 42 (.call 45 [(T 6), (T 41)])])
                     (.ops [i_ 43 (.mv (T 7)),
                       i_ 44 (.ib .add (T 43) (KI 2)),
                       i_ 7 (.mv (T 44))])))))))))))
           (.ops [i_ 14 (.mv (T 7)),
             i_ 15 (.ib .add (T 14) (KI 1)),
             i_ 7 (.mv (T 15))]))))))
      (.seq
       (.ops [i_ 63 (.call 47 [(T 6)]),
         i_ 4 (.mv (T 63)),
         i_ 5 (.mv (KI 0))])
       .ret))))
def m26 : MF := ⟨64, [(.tmp 4), (.tmp 5)], c26⟩
theorem r26 : resF Tryz.prog Tryz.f26 = some m26 := by kernel_rfl
theorem k26 : Callable Tryz.prog 26 := ⟨_, Tryz.func26, by kernel_rfl, by kernel_rfl⟩

def c27 : MC :=
   (.seq
    (.ops [i_ 2 (.mv (.const (.slice none 0 0))),
      i_ 3 (.mv (KI 0))])
    (.seq
     (.ops [i_ 15 (.mv (T 0)),
       i_ 16 (.call 48 [(T 15)]),
       i_ 4 (.mv (T 16))])
     (.seq
      (.seq
       (.ops [i_ 17 (.mv (T 4)),
         i_ 18 (.lenV (T 17)),
         i_ 19 (.ib .gtr (T 18) (KI 64))])
       (.cond (T 19)
        (.seq
         (.ops [i_ 2 (.mv (.const (.slice none 0 0))),
           i_ 3 (.mv (KI 25))])
         .ret)
        .skip))
      (.seq
       (.ops [i_ 5 (.mv (.const (.slice none 0 0)))])
       (.seq
        (.seq
         (.ops [i_ 20 (.mv (T 4)),
           i_ 21 (.lenV (T 20)),
           i_ 22 (.mv (KI 0))])
         (.block 0
          (.loop [(23, 27), (7, 15), (27, 33), (33, 38), (38, 55), (2, 4), (5, 6), (22, 23)]
           (.seq
            (.ops [i_ 23 (.ib .lss (T 22) (T 21))])
            (.seq
             (.cond (T 23)
              .skip
              (.exit 0))
             (.seq
              (.block 1
               (.seq
                (.ops [i_ 24 (.iaddr 1 (T 20) (T 22)),
                  i_ 25 (.ld1 (T 24)),
                  i_ 7 (.mv (T 25))])
                (.seq
                 (.ops [i_ 27 (.mv (T 7)),
                   i_ 28 (.call 25 [(T 27), (KS [61])]),
                   i_ 26 (.mv (T 28)),
                   i_ 29 (.ext (T 26) 0),
                   i_ 30 (.ext (T 26) 1),
                   i_ 31 (.ext (T 26) 2),
                   i_ 8 (.mv (T 29)),
                   i_ 9 (.mv (T 30)),
                   i_ 10 (.mv (T 31))])
                 (.seq
                  (.ops [i_ 33 (.mv (T 8)),
                    i_ 34 (.call 26 [(T 33), (KB true)]),
                    i_ 32 (.mv (T 34)),
                    i_ 35 (.ext (T 32) 0),
                    i_ 36 (.ext (T 32) 1),
                    i_ 11 (.mv (T 35)),
                    i_ 12 (.mv (T 36))])
                  (.seq
                   (.ops [i_ 38 (.mv (T 9)),
                     i_ 39 (.call 26 [(T 38), (KB true)]),
                     i_ 37 (.mv (T 39)),
                     i_ 40 (.ext (T 37) 0),
                     i_ 41 (.ext (T 37) 1),
                     i_ 13 (.mv (T 40)),
                     i_ 14 (.mv (T 41))])
                   (.seq
                    (.seq
                     (.ops [i_ 42 (.mv (T 12)),
                       i_ 43 (.ib .neq (T 42) (KI 0)),
                       i_ 44 (.mv (T 43)),
                       ig 45 44 false (.mv (T 14)),
                       ig 46 44 false (.ib .neq (T 45) (KI 0)),
                       i_ 47 (.pick (T 44) (KB true) (T 46))])
                     (.cond (T 47)
                      (.seq
                       (.ops [i_ 2 (.mv (.const (.slice none 0 0))),
                         i_ 3 (.mv (KI 4))])
                       .ret)
                      .skip))
                    (.ops [i_ 48 (.mv (T 5)),
                      i_ 49 (.mv (T 11)),
                      i_ 50 (.mv (T 13)),
                      i_ 51 (.build [(.string ⟨⟨[]⟩⟩), (.string ⟨⟨[]⟩⟩)] [(0, (1, (T 49))), (1, (1, (T 50)))]),
                      i_ 52 (.bslice 61 [(.string ⟨⟨[]⟩⟩), (.string ⟨⟨[]⟩⟩)] 1 2 [(0, (2, (T 51)))]),
                      i_ 53 (.append 61 2 32 (T 48) (T 52)),
                      i_ 5 (.mv (T 53))])))))))
              (.ops [i_ 54 (.ib .add (T 22) (KI 1)),
                i_ 22 (.mv (T 54))])))))))
        (.seq
         (.ops [i_ 55 (.mv (T 5)),
           i_ 2 (.mv (T 55)),
           i_ 3 (.mv (KI 0))])
         .ret))))))
def m27 : MF := ⟨56, [(.tmp 2), (.tmp 3)], c27⟩
theorem r27 : resF Tryz.prog Tryz.f27 = some m27 := by kernel_rfl
theorem k27 : Callable Tryz.prog 27 := ⟨_, Tryz.func27, by kernel_rfl, by kernel_rfl⟩

def c28 : MC :=
   (.seq
    (.ops [i_ 2 (.mv (KB false))])
    (.seq
     (.ops [i_ 3 (.mv (T 0)),
       i_ 4 (.call 23 [(T 3)]),
       i_ 5 (.mv (T 4)),
       ig 6 5 false (.mv (T 0)),
       ig 7 5 false (.ib .geq (T 6) (KU 97)),
       ig 8 5 false (.mv (T 7)),
       ig 9 8 true (.mv (T 0)),
       ig 10 8 true (.ib .leq (T 9) (KU 122)),
       ig 11 5 false (.pick (T 8) (T 10) (KB false)),
       i_ 12 (.pick (T 5) (KB true) (T 11)),
       i_ 13 (.mv (T 12)),
       ig 14 13 false (.mv (T 0)),
       ig 15 13 false (.call 35 [(T 14)]),
       i_ 16 (.pick (T 13) (KB true) (T 15)),
       i_ 17 (.mv (T 16)),
       ig 18 17 false (.mv (T 0)),
       ig 19 17 false (.ib .eql (T 18) (KU 45)),
       i_ 20 (.pick (T 17) (KB true) (T 19)),
       i_ 2 (.mv (T 20))])
     .ret))
def m28 : MF := ⟨21, [(.tmp 2)], c28⟩
theorem r28 : resF Tryz.prog Tryz.f28 = some m28 := by kernel_rfl
theorem k28 : Callable Tryz.prog 28 := ⟨_, Tryz.func28, by kernel_rfl, by kernel_rfl⟩

def c29 : MC :=
   (.seq
    (.ops [i_ 2 (.mv (KB false))])
    (.seq
     (.ops [i_ 3 (.mv (T 0)),
       i_ 4 (.ib .geq (T 3) (KU 32)),
       i_ 5 (.mv (T 4)),
       ig 6 5 true (.mv (T 0)),
       ig 7 5 true (.ib .leq (T 6) (KU 126)),
       i_ 8 (.pick (T 5) (T 7) (KB false)),
       i_ 9 (.mv (T 8)),
       ig 10 9 false (.mv (T 0)),
       ig 11 9 false (.ib .eql (T 10) (KU 9)),
       i_ 12 (.pick (T 9) (KB true) (T 11)),
       i_ 2 (.mv (T 12))])
     .ret))
def m29 : MF := ⟨13, [(.tmp 2)], c29⟩
theorem r29 : resF Tryz.prog Tryz.f29 = some m29 := by kernel_rfl
theorem k29 : Callable Tryz.prog 29 := ⟨_, Tryz.func29, by kernel_rfl, by kernel_rfl⟩

def c30 : MC :=
   (.seq
    (.ops [i_ 2 (.mv (KS []))])
    (.seq
     (.ops [i_ 6 (.mv (T 0)),
       i_ 7 (.s2b 5 (T 6)),
       i_ 3 (.mv (T 7))])
     (.seq
      (.seq
       (.ops [i_ 8 (.mv (T 3)),
         i_ 9 (.lenV (T 8)),
         i_ 10 (.mv (KI 0))])
       (.block 0
        (.loop [(11, 24), (4, 6), (10, 11)]
         (.seq
          (.ops [i_ 11 (.ib .lss (T 10) (T 9))])
          (.seq
           (.cond (T 11)
            .skip
            (.exit 0))
           (.seq
            (.block 1
             (.seq
              (.ops [i_ 12 (.mv (T 10)),
                i_ 13 (.iaddr 1 (T 8) (T 10)),
                i_ 14 (.ld1 (T 13)),
                i_ 4 (.mv (T 12)),
                i_ 5 (.mv (T 14))])
              (.seq
               (.ops [i_ 15 (.mv (T 5)),
                 i_ 16 (.call 23 [(T 15)])])
               (.cond (T 16)
                (.ops [i_ 17 (.mv (T 3)),
                  i_ 18 (.mv (T 4)),
                  i_ 19 (.mv (T 5)),
                  i_ 20 (.ib .add (T 19) (KU 97)),
                  i_ 21 (.ib .sub (T 20) (KU 65)),
                  i_ 22 (.iaddr 1 (T 17) (T 18)),
                  n_ (.st 1 (T 22) (T 21))])
                .skip))))
            (.ops [i_ 23 (.ib .add (T 10) (KI 1)),
              i_ 10 (.mv (T 23))])))))))
      (.seq
       (.ops [i_ 24 (.mv (T 3)),
         i_ 25 (.b2s (T 24)),
         i_ 2 (.mv (T 25))])
       .ret))))
def m30 : MF := ⟨26, [(.tmp 2)], c30⟩
theorem r30 : resF Tryz.prog Tryz.f30 = some m30 := by kernel_rfl
theorem k30 : Callable Tryz.prog 30 := ⟨_, Tryz.func30, by kernel_rfl, by kernel_rfl⟩

def c32 : MC :=
   (.seq
    (.ops [i_ 4 (.mv (KI 0))])
    (.seq
     (.ops [i_ 5 (.mv (KI 0))])
     (.seq
      (.seq
       (.ops [i_ 8 (.mv (T 0)),
         i_ 9 (.nilck (T 8)),
         i_ 10 (.faddr 3 (T 9)),
         i_ 11 (.ld1 (T 10)),
         i_ 12 (.lenV (T 11)),
         i_ 13 (.mv (KI 0))])
       (.block 0
        (.loop [(14, 24), (7, 8), (5, 6), (13, 14)]
         (.seq
          (.ops [i_ 14 (.ib .lss (T 13) (T 12))])
          (.seq
           (.cond (T 14)
            .skip
            (.exit 0))
           (.seq
            (.block 1
             (.seq
              (.ops [i_ 15 (.iaddr 2 (T 11) (T 13)),
                i_ 16 (.ldN 2 (T 15)),
                i_ 7 (.alloc 61 [(.string ⟨⟨[]⟩⟩), (.string ⟨⟨[]⟩⟩)]),
                n_ (.st 2 (T 7) (T 16))])
              (.seq
               (.ops [i_ 17 (.faddr 0 (T 7)),
                 i_ 18 (.ld1 (T 17)),
                 i_ 19 (.mv (T 1)),
                 i_ 20 (.sb .eql (T 18) (T 19))])
               (.cond (T 20)
                (.ops [i_ 21 (.mv (T 5)),
                  i_ 22 (.ib .add (T 21) (KI 1)),
                  i_ 5 (.mv (T 22))])
                .skip))))
            (.ops [i_ 23 (.ib .add (T 13) (KI 1)),
              i_ 13 (.mv (T 23))])))))))
      (.seq
       (.ops [i_ 24 (.mv (T 5)),
         i_ 4 (.mv (T 24))])
       .ret))))
def m32 : MF := ⟨25, [(.tmp 4)], c32⟩
theorem r32 : resF Tryz.prog Tryz.f32 = some m32 := by kernel_rfl
theorem k32 : Callable Tryz.prog 32 := ⟨_, Tryz.func32, by kernel_rfl, by kernel_rfl⟩

def c33 : MC :=
   (.seq
    (.ops [i_ 2 (.box 26 (T 0)),
      i_ 4 (.mv (KS [])),
      i_ 5 (.mv (KB false))])
    (.seq
     (.ops [i_ 6 (.mv (KS []))])
     (.seq
      (.seq
       (.ops [i_ 9 (.faddr 3 (T 2)),
         i_ 10 (.ld1 (T 9)),
         i_ 11 (.lenV (T 10)),
         i_ 12 (.mv (KI 0))])
       (.block 0
        (.loop [(13, 23), (8, 9), (6, 7), (12, 13)]
         (.seq
          (.ops [i_ 13 (.ib .lss (T 12) (T 11))])
          (.seq
           (.cond (T 13)
            .skip
            (.exit 0))
           (.seq
            (.block 1
             (.seq
              (.ops [i_ 14 (.iaddr 2 (T 10) (T 12)),
                i_ 15 (.ldN 2 (T 14)),
                i_ 8 (.alloc 61 [(.string ⟨⟨[]⟩⟩), (.string ⟨⟨[]⟩⟩)]),
                n_ (.st 2 (T 8) (T 15))])
              (.seq
               (.ops [i_ 16 (.faddr 0 (T 8)),
                 i_ 17 (.ld1 (T 16)),
                 i_ 18 (.mv (T 1)),
                 i_ 19 (.sb .eql (T 17) (T 18))])
               (.cond (T 19)
                (.ops [i_ 20 (.faddr 1 (T 8)),
                  i_ 21 (.ld1 (T 20)),
                  i_ 6 (.mv (T 21))])
                .skip))))
            (.ops [i_ 22 (.ib .add (T 12) (KI 1)),
              i_ 12 (.mv (T 22))])))))))
      (.seq
       (.seq
        (.ops [i_ 23 (.mv (T 1)),
          i_ 24 (.call 32 [(T 2), (T 23)]),
          i_ 25 (.ib .neq (T 24) (KI 1))])
        (.cond (T 25)
         (.seq
          (.ops [i_ 4 (.mv (KS [])),
            i_ 5 (.mv (KB false))])
          .ret)
         .skip))
       (.seq
        (.ops [i_ 26 (.mv (T 6)),
          i_ 4 (.mv (T 26)),
          i_ 5 (.mv (KB true))])
        .ret)))))
def m33 : MF := ⟨27, [(.tmp 4), (.tmp 5)], c33⟩
theorem r33 : resF Tryz.prog Tryz.f33 = some m33 := by kernel_rfl
theorem k33 : Callable Tryz.prog 33 := ⟨_, Tryz.func33, by kernel_rfl, by kernel_rfl⟩

def c35 : MC :=
   (.seq
    (.ops [i_ 2 (.mv (KB false))])
    (.seq
     (.ops [i_ 3 (.mv (T 0)),
       i_ 4 (.ib .geq (T 3) (KU 48)),
       i_ 5 (.mv (T 4)),
       ig 6 5 true (.mv (T 0)),
       ig 7 5 true (.ib .leq (T 6) (KU 57)),
       i_ 8 (.pick (T 5) (T 7) (KB false)),
       i_ 2 (.mv (T 8))])
     .ret))
def m35 : MF := ⟨9, [(.tmp 2)], c35⟩
theorem r35 : resF Tryz.prog Tryz.f35 = some m35 := by kernel_rfl
theorem k35 : Callable Tryz.prog 35 := ⟨_, Tryz.func35, by kernel_rfl, by kernel_rfl⟩

def c46 : MC :=
   (.seq
    (.ops [i_ 2 (.mv (KI 0))])
    (.seq
     (.seq
      (.ops [i_ 3 (.mv (T 0)),
        i_ 4 (.ib .geq (T 3) (KU 97)),
        i_ 5 (.mv (T 4)),
        ig 6 5 true (.mv (T 0)),
        ig 7 5 true (.ib .leq (T 6) (KU 102)),
        i_ 8 (.pick (T 5) (T 7) (KB false))])
      (.cond (T 8)
       (.ops [i_ 9 (.mv (T 0)),
         i_ 10 (.ib .sub (T 9) (KU 32)),
         i_ 0 (.mv (T 10))])
       .skip))
     (.seq
      (.ops [i_ 11 (.mv (T 0)),
        i_ 12 (.call 65 [(KS [48, 49, 50, 51, 52, 53, 54, 55, 56, 57, 65, 66, 67, 68, 69, 70]), (T 11)]),
        i_ 2 (.mv (T 12))])
      .ret)))
def m46 : MF := ⟨13, [(.tmp 2)], c46⟩
theorem r46 : resF Tryz.prog Tryz.f46 = some m46 := by kernel_rfl
theorem k46 : Callable Tryz.prog 46 := ⟨_, Tryz.func46, by kernel_rfl, by kernel_rfl⟩

def c48 : MC :=
   (.seq
    (.ops [i_ 2 (.mv (.const (.slice none 0 0)))])
    (.seq
     (.ops [i_ 3 (.mv (.const (.slice none 0 0)))])
     (.seq
      (.seq
       (.ops [i_ 6 (.mv (T 0)),
         i_ 7 (.call 12 [(T 6), (KS [38])]),
         i_ 8 (.lenV (T 7)),
         i_ 9 (.mv (KI 0))])
       (.block 0
        (.loop [(10, 20), (5, 6), (3, 4), (9, 10)]
         (.seq
          (.ops [i_ 10 (.ib .lss (T 9) (T 8))])
          (.seq
           (.cond (T 10)
            .skip
            (.exit 0))
           (.seq
            (.block 1
             (.seq
              (.ops [i_ 11 (.iaddr 1 (T 7) (T 9)),
                i_ 12 (.ld1 (T 11)),
                i_ 5 (.mv (T 12))])
              (.seq
               (.ops [i_ 13 (.mv (T 5)),
                 i_ 14 (.sb .neq (T 13) (KS []))])
               (.cond (T 14)
                (.ops [i_ 15 (.mv (T 3)),
                  i_ 16 (.mv (T 5)),
                  i_ 17 (.bslice 9 [(.string ⟨⟨[]⟩⟩)] 1 1 [(0, (1, (T 16)))]),
                  i_ 18 (.append 9 1 16 (T 15) (T 17)),
                  i_ 3 (.mv (T 18))])
                .skip))))
            (.ops [i_ 19 (.ib .add (T 9) (KI 1)),
              i_ 9 (.mv (T 19))])))))))
      (.seq
       (.ops [i_ 20 (.mv (T 3)),
         i_ 2 (.mv (T 20))])
       .ret))))
def m48 : MF := ⟨21, [(.tmp 2)], c48⟩
theorem r48 : resF Tryz.prog Tryz.f48 = some m48 := by kernel_rfl
theorem k48 : Callable Tryz.prog 48 := ⟨_, Tryz.func48, by kernel_rfl, by kernel_rfl⟩

end Go.Proofs.YtkhgmmejgikgnaaGreatDoor
