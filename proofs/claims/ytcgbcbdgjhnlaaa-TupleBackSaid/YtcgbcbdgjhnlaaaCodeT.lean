/- Functions of the program, resolved: made by a program of ours; each is checked by the kernel. -/
import Derived.Test.YtcgbcbdgjhnlaaaTools
namespace Go.Proofs.Ytcgbcbdgjhnlaaa
def c7 : MC :=
   (.seq
    (.ops [i_ 2 (.mv (KB false))])
    (.seq
     (.ops [i_ 15 (.mv (T 0)),
       i_ 16 (.call 21 [(T 15), (KI 200)]),
       i_ 0 (.mv (T 16))])
     (.seq
      (.ops [i_ 18 (.mv (T 0)),
        i_ 19 (.call 29 [(T 18)]),
        i_ 17 (.mv (T 19)),
        i_ 20 (.ext (T 17) 0),
        i_ 21 (.ext (T 17) 1),
        i_ 3 (.alloc 42 [(.string ⟨⟨[]⟩⟩), (.string ⟨⟨[]⟩⟩)]),
        n_ (.st 2 (T 3) (T 20)),
        i_ 4 (.mv (T 21))])
      (.seq
       (.ops [i_ 23 (.mv (T 0)),
         i_ 24 (.call 30 [(T 23)]),
         i_ 22 (.mv (T 24)),
         i_ 25 (.ext (T 22) 0),
         i_ 26 (.ext (T 22) 1),
         i_ 5 (.alloc 42 [(.string ⟨⟨[]⟩⟩), (.string ⟨⟨[]⟩⟩)]),
         n_ (.st 2 (T 5) (T 25)),
         i_ 6 (.mv (T 26))])
       (.seq
        (.seq
         (.ops [i_ 27 (.mv (T 4)),
           i_ 28 (.ib .eql (T 27) (KI 0)),
           i_ 29 (.mv (T 6)),
           i_ 30 (.bb .neq (T 28) (T 29)),
           i_ 31 (.mv (T 30)),
           ig 32 31 false (.mv (T 6)),
           ig 33 31 false (.mv (T 32)),
           ig 34 33 true (.ldN 2 (T 3)),
           ig 35 33 true (.ldN 2 (T 5)),
           ig 36 33 true (.eqA true 42 [42] [2, 2] (T 34) (T 35)),
           ig 37 31 false (.pick (T 33) (T 36) (KB false)),
           i_ 38 (.pick (T 31) (KB true) (T 37)),
           i_ 39 (.mv (T 38)),
           ig 40 39 false (.mv (T 6)),
           ig 41 39 false (.not (T 40)),
           ig 42 39 false (.mv (T 41)),
           ig 43 42 true (.mv (T 4)),
           ig 44 42 true (.ib .neq (T 43) (KI 4)),
           ig 45 42 true (.mv (T 44)),
           ig 46 45 false (.ldN 2 (T 3)),
           ig 47 45 false (.build [(.string ⟨⟨[]⟩⟩), (.string ⟨⟨[]⟩⟩)] []),
           ig 48 45 false (.eqA true 42 [42] [2, 2] (T 46) (T 47)),
           ig 49 42 true (.pick (T 45) (KB true) (T 48)),
           ig 50 39 false (.pick (T 42) (T 49) (KB false)),
           i_ 51 (.pick (T 39) (KB true) (T 50))])
         (.cond (T 51)
          (.seq
           (.ops [i_ 2 (.mv (KB false))])
           .ret)
          .skip))
        (.seq
         (.ops [i_ 53 (.mv (T 0)),
           i_ 54 (.call 31 [(T 53)]),
           i_ 52 (.mv (T 54)),
           i_ 55 (.ext (T 52) 0),
           i_ 56 (.ext (T 52) 1),
           i_ 7 (.alloc 48 [(.string ⟨⟨[]⟩⟩), (.string ⟨⟨[]⟩⟩), (.string ⟨⟨[]⟩⟩), (.string ⟨⟨[]⟩⟩)]),
           n_ (.st 4 (T 7) (T 55)),
           i_ 8 (.mv (T 56))])
         (.seq
          (.ops [i_ 58 (.mv (T 0)),
            i_ 59 (.call 32 [(T 58)]),
            i_ 57 (.mv (T 59)),
            i_ 60 (.ext (T 57) 0),
            i_ 61 (.ext (T 57) 1),
            i_ 9 (.alloc 48 [(.string ⟨⟨[]⟩⟩), (.string ⟨⟨[]⟩⟩), (.string ⟨⟨[]⟩⟩), (.string ⟨⟨[]⟩⟩)]),
            n_ (.st 4 (T 9) (T 60)),
            i_ 10 (.mv (T 61))])
          (.seq
           (.seq
            (.ops [i_ 62 (.mv (T 8)),
              i_ 63 (.ib .eql (T 62) (KI 0)),
              i_ 64 (.mv (T 10)),
              i_ 65 (.bb .neq (T 63) (T 64)),
              i_ 66 (.mv (T 65)),
              ig 67 66 false (.mv (T 10)),
              ig 68 66 false (.mv (T 67)),
              ig 69 68 true (.ldN 4 (T 7)),
              ig 70 68 true (.ldN 4 (T 9)),
              ig 71 68 true (.eqA true 48 [48, 42] [2, 2, 2, 2] (T 69) (T 70)),
              ig 72 66 false (.pick (T 68) (T 71) (KB false)),
              i_ 73 (.pick (T 66) (KB true) (T 72)),
              i_ 74 (.mv (T 73)),
              ig 75 74 false (.mv (T 10)),
              ig 76 74 false (.not (T 75)),
              ig 77 74 false (.mv (T 76)),
              ig 78 77 true (.mv (T 8)),
              ig 79 77 true (.ib .neq (T 78) (KI 4)),
              ig 80 77 true (.mv (T 79)),
              ig 81 80 false (.ldN 4 (T 7)),
              ig 82 80 false (.build [(.string ⟨⟨[]⟩⟩), (.string ⟨⟨[]⟩⟩), (.string ⟨⟨[]⟩⟩), (.string ⟨⟨[]⟩⟩)] []),
              ig 83 80 false (.eqA true 48 [48, 42] [2, 2, 2, 2] (T 81) (T 82)),
              ig 84 77 true (.pick (T 80) (KB true) (T 83)),
              ig 85 74 false (.pick (T 77) (T 84) (KB false)),
              i_ 86 (.pick (T 74) (KB true) (T 85))])
            (.cond (T 86)
             (.seq
              (.ops [i_ 2 (.mv (KB false))])
              .ret)
             .skip))
           (.seq
            (.ops [i_ 88 (.mv (T 0)),
              i_ 89 (.call 33 [(T 88)]),
              i_ 87 (.mv (T 89)),
              i_ 90 (.ext (T 87) 0),
              i_ 91 (.ext (T 87) 1),
              i_ 11 (.alloc 54 [(.string ⟨⟨[]⟩⟩), (.string ⟨⟨[]⟩⟩), (.string ⟨⟨[]⟩⟩), (.string ⟨⟨[]⟩⟩), (.string ⟨⟨[]⟩⟩), (.string ⟨⟨[]⟩⟩), (.string ⟨⟨[]⟩⟩)]),
              n_ (.st 7 (T 11) (T 90)),
              i_ 12 (.mv (T 91))])
            (.seq
             (.ops [i_ 93 (.mv (T 0)),
               i_ 94 (.call 34 [(T 93)]),
               i_ 92 (.mv (T 94)),
               i_ 95 (.ext (T 92) 0),
               i_ 96 (.ext (T 92) 1),
               i_ 13 (.alloc 54 [(.string ⟨⟨[]⟩⟩), (.string ⟨⟨[]⟩⟩), (.string ⟨⟨[]⟩⟩), (.string ⟨⟨[]⟩⟩), (.string ⟨⟨[]⟩⟩), (.string ⟨⟨[]⟩⟩), (.string ⟨⟨[]⟩⟩)]),
               n_ (.st 7 (T 13) (T 95)),
               i_ 14 (.mv (T 96))])
             (.seq
              (.ops [i_ 97 (.ldN 7 (T 11)),
                i_ 98 (.ldN 7 (T 13)),
                i_ 99 (.eqA false 54 [54, 42, 48, 42] [2, 2, 2, 2, 2, 2, 2] (T 97) (T 98)),
                i_ 100 (.mv (T 99)),
                ig 101 100 true (.mv (T 12)),
                ig 102 100 true (.mv (T 14)),
                ig 103 100 true (.ib .eql (T 101) (T 102)),
                i_ 104 (.pick (T 100) (T 103) (KB false)),
                i_ 105 (.mv (T 104)),
                ig 106 105 true (.call 35 []),
                i_ 107 (.pick (T 105) (T 106) (KB false)),
                i_ 2 (.mv (T 107))])
              .ret)))))))))))
def m7 : MF := ⟨108, [(.tmp 2)], c7⟩
theorem r7 : resF Try.prog Try.f7 = some m7 := by kernel_rfl
theorem k7 : Callable Try.prog 7 := ⟨_, Try.func7, by kernel_rfl, by kernel_rfl⟩

def c8 : MC :=
   (.seq
    (.ops [i_ 3 (.box 54 (T 1)),
      i_ 4 (.mv (KB false))])
    (.seq
     (.dops <|
       .op 0 (i_ 5 (.mv (T 0))) <|
       .op 2 (i_ 7 (.ldN 7 (T 3))) <|
       .op 1 (i_ 6 (.call 21 [(T 5), (KI 40)])) <|
       .op 3 (id_ 8 (.call 36 [(T 7)]) [2]) <|
       .op 4 (i_ 0 (.mv (T 6))) <|
       .op 5 (nd_ (.st 7 (T 3) (T 8)) [2]) <|
       .nil)
     (.seq
      (.dops <|
        .op 0 (i_ 9 (.mv (T 0))) <|
        .op 2 (i_ 11 (.mv (T 0))) <|
        .op 1 (i_ 10 (.call 37 [(T 9)])) <|
        .op 3 (i_ 12 (.call 38 [(T 11)])) <|
        .op 4 (i_ 13 (.bb .eql (T 10) (T 12))) <|
        .op 5 (i_ 14 (.mv (T 13))) <|
        .op 6 (ig 15 14 true (.mv (T 0))) <|
        .op 8 (ig 17 14 true (.mv (T 0))) <|
        .op 7 (ig 16 14 true (.call 39 [(T 15)])) <|
        .op 9 (ig 18 14 true (.call 40 [(T 17)])) <|
        .op 10 (ig 19 14 true (.bb .eql (T 16) (T 18))) <|
        .op 11 (i_ 20 (.pick (T 14) (T 19) (KB false))) <|
        .op 12 (i_ 21 (.mv (T 20))) <|
        .op 13 (ig 22 21 true (.ldN 7 (T 3))) <|
        .op 16 (ig 25 21 true (.ldN 7 (T 3))) <|
        .op 14 (igd 23 21 true (.call 41 [(T 22)]) [13]) <|
        .op 15 (ig 24 21 true (.ib .eql (T 23) (KI 0))) <|
        .op 17 (igd 26 21 true (.call 42 [(T 25)]) [13, 16]) <|
        .op 18 (ig 27 21 true (.bb .eql (T 24) (T 26))) <|
        .op 19 (i_ 28 (.pick (T 21) (T 27) (KB false))) <|
        .op 20 (i_ 29 (.mv (T 28))) <|
        .op 21 (ig 30 29 true (.faddr 0 (T 3))) <|
        .op 22 (ig 31 29 true (.ldN 2 (T 30))) <|
        .op 25 (ig 34 29 true (.faddr 0 (T 3))) <|
        .op 26 (ig 35 29 true (.ldN 2 (T 34))) <|
        .op 23 (igd 32 29 true (.call 43 [(T 31)]) [13, 16, 22]) <|
        .op 24 (ig 33 29 true (.ib .eql (T 32) (KI 0))) <|
        .op 27 (igd 36 29 true (.call 44 [(T 35)]) [22, 13, 16, 26]) <|
        .op 28 (ig 37 29 true (.bb .eql (T 33) (T 36))) <|
        .op 29 (i_ 38 (.pick (T 29) (T 37) (KB false))) <|
        .op 30 (i_ 39 (.mv (T 38))) <|
        .op 31 (ig 40 39 true (.faddr 3 (T 3))) <|
        .op 32 (ig 41 39 true (.ldN 4 (T 40))) <|
        .op 35 (ig 44 39 true (.faddr 3 (T 3))) <|
        .op 36 (ig 45 39 true (.ldN 4 (T 44))) <|
        .op 33 (igd 42 39 true (.call 45 [(T 41)]) [22, 26, 13, 16, 32]) <|
        .op 34 (ig 43 39 true (.ib .eql (T 42) (KI 0))) <|
        .op 37 (igd 46 39 true (.call 46 [(T 45)]) [32, 22, 26, 13, 16, 36]) <|
        .op 38 (ig 47 39 true (.bb .eql (T 43) (T 46))) <|
        .op 39 (i_ 48 (.pick (T 39) (T 47) (KB false))) <|
        .op 40 (i_ 49 (.mv (T 48))) <|
        .op 41 (ig 50 49 true (.ldN 7 (T 3))) <|
        .op 44 (ig 53 49 true (.ldN 7 (T 3))) <|
        .op 42 (igd 51 49 true (.call 41 [(T 50)]) [16, 13, 26, 22, 36, 32, 41]) <|
        .op 43 (ig 52 49 true (.ib .eql (T 51) (KI 9))) <|
        .op 45 (igd 54 49 true (.call 42 [(T 53)]) [41, 16, 13, 26, 22, 36, 32, 44]) <|
        .op 46 (ig 55 49 true (.not (T 54))) <|
        .op 47 (ig 56 49 true (.bb .eql (T 52) (T 55))) <|
        .op 48 (i_ 57 (.pick (T 49) (T 56) (KB false))) <|
        .op 49 (i_ 58 (.mv (T 57))) <|
        .op 50 (igd 59 58 true (.call 35 []) [41, 44, 32, 36, 22, 26, 13, 16]) <|
        .op 51 (i_ 60 (.pick (T 58) (T 59) (KB false))) <|
        .op 52 (i_ 4 (.mv (T 60))) <|
        .nil)
      .ret)))
def m8 : MF := ⟨61, [(.tmp 4)], c8⟩
theorem r8 : resF Try.prog Try.f8 = some m8 := by kernel_rfl
theorem k8 : Callable Try.prog 8 := ⟨_, Try.func8, by kernel_rfl, by kernel_rfl⟩

def c9 : MC :=
   (.seq
    (.ops [i_ 3 (.box 54 (T 0)),
      i_ 4 (.box 54 (T 1)),
      i_ 6 (.mv (KB false))])
    (.seq
     (.dops <|
       .op 0 (i_ 11 (.ldN 7 (T 3))) <|
       .op 2 (i_ 13 (.ldN 7 (T 4))) <|
       .op 4 (i_ 15 (.mv (T 2))) <|
       .op 1 (id_ 12 (.call 36 [(T 11)]) [0]) <|
       .op 3 (id_ 14 (.call 36 [(T 13)]) [0, 2]) <|
       .op 5 (id_ 16 (.call 21 [(T 15), (KI 200)]) [2, 0]) <|
       .op 6 (nd_ (.st 7 (T 3) (T 12)) [2, 0]) <|
       .op 7 (nd_ (.st 7 (T 4) (T 14)) [2, 0]) <|
       .op 8 (i_ 2 (.mv (T 16))) <|
       .nil)
     (.seq
      (.ops [i_ 18 (.ldN 7 (T 3)),
        i_ 19 (.call 47 [(T 18)]),
        i_ 20 (.call 33 [(T 19)]),
        i_ 17 (.mv (T 20)),
        i_ 21 (.ext (T 17) 0),
        i_ 22 (.ext (T 17) 1),
        i_ 7 (.alloc 54 [(.string ⟨⟨[]⟩⟩), (.string ⟨⟨[]⟩⟩), (.string ⟨⟨[]⟩⟩), (.string ⟨⟨[]⟩⟩), (.string ⟨⟨[]⟩⟩), (.string ⟨⟨[]⟩⟩), (.string ⟨⟨[]⟩⟩)]),
        n_ (.st 7 (T 7) (T 21)),
        i_ 8 (.mv (T 22))])
      (.seq
       (.seq
        (.ops [i_ 23 (.ldN 7 (T 3)),
          i_ 24 (.call 41 [(T 23)]),
          i_ 25 (.ib .eql (T 24) (KI 0)),
          i_ 26 (.mv (T 25)),
          ig 27 26 true (.mv (T 8)),
          ig 28 26 true (.ib .neq (T 27) (KI 0)),
          ig 29 26 true (.mv (T 28)),
          ig 30 29 false (.ldN 7 (T 7)),
          ig 31 29 false (.ldN 7 (T 3)),
          ig 32 29 false (.eqA true 54 [54, 42, 48, 42] [2, 2, 2, 2, 2, 2, 2] (T 30) (T 31)),
          ig 33 26 true (.pick (T 29) (KB true) (T 32)),
          i_ 34 (.pick (T 26) (T 33) (KB false))])
        (.cond (T 34)
         (.seq
          (.ops [i_ 6 (.mv (KB false))])
          .ret)
         .skip))
       (.seq
        (.ops [i_ 36 (.mv (T 2)),
          i_ 37 (.call 33 [(T 36)]),
          i_ 35 (.mv (T 37)),
          i_ 38 (.ext (T 35) 0),
          i_ 39 (.ext (T 35) 1),
          i_ 9 (.alloc 54 [(.string ⟨⟨[]⟩⟩), (.string ⟨⟨[]⟩⟩), (.string ⟨⟨[]⟩⟩), (.string ⟨⟨[]⟩⟩), (.string ⟨⟨[]⟩⟩), (.string ⟨⟨[]⟩⟩), (.string ⟨⟨[]⟩⟩)]),
          n_ (.st 7 (T 9) (T 38)),
          i_ 10 (.mv (T 39))])
        (.seq
         (.seq
          (.ops [i_ 40 (.mv (T 10)),
            i_ 41 (.ib .eql (T 40) (KI 0)),
            i_ 42 (.mv (T 41)),
            ig 43 42 true (.ldN 7 (T 9)),
            ig 44 42 true (.call 47 [(T 43)]),
            ig 45 42 true (.mv (T 2)),
            ig 46 42 true (.sb .neq (T 44) (T 45)),
            i_ 47 (.pick (T 42) (T 46) (KB false))])
          (.cond (T 47)
           (.seq
            (.ops [i_ 6 (.mv (KB false))])
            .ret)
           .skip))
         (.seq
          (.dops <|
            .op 0 (i_ 48 (.ldN 7 (T 3))) <|
            .op 1 (id_ 49 (.call 41 [(T 48)]) [0]) <|
            .op 2 (i_ 50 (.ib .neq (T 49) (KI 0))) <|
            .op 3 (i_ 51 (.mv (T 50))) <|
            .op 4 (ig 52 51 false (.ldN 7 (T 4))) <|
            .op 5 (igd 53 51 false (.call 41 [(T 52)]) [0, 4]) <|
            .op 6 (ig 54 51 false (.ib .neq (T 53) (KI 0))) <|
            .op 7 (i_ 55 (.pick (T 51) (KB true) (T 54))) <|
            .op 8 (i_ 56 (.mv (T 55))) <|
            .op 9 (ig 57 56 false (.ldN 7 (T 3))) <|
            .op 11 (ig 59 56 false (.ldN 7 (T 4))) <|
            .op 14 (ig 62 56 false (.ldN 7 (T 3))) <|
            .op 15 (ig 63 56 false (.ldN 7 (T 4))) <|
            .op 16 (ig 64 56 false (.eqA false 54 [54, 42, 48, 42] [2, 2, 2, 2, 2, 2, 2] (T 62) (T 63))) <|
            .op 10 (igd 58 56 false (.call 47 [(T 57)]) [0, 4, 9]) <|
            .op 12 (igd 60 56 false (.call 47 [(T 59)]) [9, 0, 4, 11]) <|
            .op 13 (ig 61 56 false (.sb .eql (T 58) (T 60))) <|
            .op 17 (ig 65 56 false (.bb .eql (T 61) (T 64))) <|
            .op 18 (i_ 66 (.pick (T 56) (KB true) (T 65))) <|
            .op 19 (i_ 67 (.mv (T 66))) <|
            .op 20 (igd 68 67 true (.call 35 []) [11, 9, 15, 14, 4, 0]) <|
            .op 21 (i_ 69 (.pick (T 67) (T 68) (KB false))) <|
            .op 22 (i_ 6 (.mv (T 69))) <|
            .nil)
          .ret)))))))
def m9 : MF := ⟨70, [(.tmp 6)], c9⟩
theorem r9 : resF Try.prog Try.f9 = some m9 := by kernel_rfl
theorem k9 : Callable Try.prog 9 := ⟨_, Try.func9, by kernel_rfl, by kernel_rfl⟩

def c10 : MC :=
   (.seq
    (.ops [i_ 1 (.box 54 (T 0)),
      i_ 2 (.mv (KB false))])
    (.seq
     (.ops [i_ 6 (.ldN 7 (T 1)),
       i_ 7 (.call 36 [(T 6)]),
       n_ (.st 7 (T 1) (T 7))])
     (.seq
      (.ops [i_ 3 (.mv (KS [])),
        i_ 4 (.mv (KS [])),
        i_ 5 (.mv (KS []))])
      (.seq
       (.seq
        (.ops [i_ 8 (.faddr 0 (T 1)),
          i_ 9 (.ldN 2 (T 8)),
          i_ 10 (.call 44 [(T 9)])])
        (.cond (T 10)
         (.ops [i_ 11 (.faddr 0 (T 1)),
           i_ 12 (.faddr 0 (T 11)),
           i_ 13 (.ld1 (T 12)),
           i_ 14 (.sb .add (T 13) (KS [58])),
           i_ 15 (.faddr 0 (T 1)),
           i_ 16 (.faddr 1 (T 15)),
           i_ 17 (.ld1 (T 16)),
           i_ 18 (.sb .add (T 14) (T 17)),
           i_ 3 (.mv (T 18))])
         .skip))
       (.seq
        (.seq
         (.ops [i_ 19 (.faddr 3 (T 1)),
           i_ 20 (.ldN 4 (T 19)),
           i_ 21 (.call 46 [(T 20)])])
         (.cond (T 21)
          (.ops [i_ 22 (.faddr 3 (T 1)),
            i_ 23 (.ldN 4 (T 22)),
            i_ 24 (.call 48 [(T 23)]),
            i_ 4 (.mv (T 24))])
          .skip))
        (.seq
         (.seq
          (.ops [i_ 25 (.ldN 7 (T 1)),
            i_ 26 (.call 42 [(T 25)])])
          (.cond (T 26)
           (.ops [i_ 27 (.ldN 7 (T 1)),
             i_ 28 (.call 49 [(T 27)]),
             i_ 5 (.mv (T 28))])
           .skip))
         (.seq
          (.ops [i_ 29 (.faddr 0 (T 1)),
            i_ 30 (.ldN 2 (T 29)),
            i_ 31 (.call 50 [(T 30)]),
            i_ 32 (.mv (T 3)),
            i_ 33 (.sb .eql (T 31) (T 32)),
            i_ 34 (.mv (T 33)),
            ig 35 34 true (.faddr 3 (T 1)),
            ig 36 34 true (.ldN 4 (T 35)),
            ig 37 34 true (.call 51 [(T 36)]),
            ig 38 34 true (.mv (T 4)),
            ig 39 34 true (.sb .eql (T 37) (T 38)),
            i_ 40 (.pick (T 34) (T 39) (KB false)),
            i_ 41 (.mv (T 40)),
            ig 42 41 true (.ldN 7 (T 1)),
            ig 43 41 true (.call 47 [(T 42)]),
            ig 44 41 true (.mv (T 5)),
            ig 45 41 true (.sb .eql (T 43) (T 44)),
            i_ 46 (.pick (T 41) (T 45) (KB false)),
            i_ 47 (.mv (T 46)),
            ig 48 47 true (.call 35 []),
            i_ 49 (.pick (T 47) (T 48) (KB false)),
            i_ 2 (.mv (T 49))])
          .ret)))))))
def m10 : MF := ⟨50, [(.tmp 2)], c10⟩
theorem r10 : resF Try.prog Try.f10 = some m10 := by kernel_rfl
theorem k10 : Callable Try.prog 10 := ⟨_, Try.func10, by kernel_rfl, by kernel_rfl⟩

def c29 : MC :=
   (.seq
    (.ops [i_ 2 (.alloc 42 [(.string ⟨⟨[]⟩⟩), (.string ⟨⟨[]⟩⟩)]),
      i_ 3 (.mv (KI 0))])
    (.seq
     (.ops [i_ 9 (.mv (T 0)),
       i_ 10 (.call 85 [(T 9), (KS [58])]),
       i_ 8 (.mv (T 10)),
       i_ 11 (.ext (T 8) 0),
       i_ 12 (.ext (T 8) 1),
       i_ 13 (.ext (T 8) 2),
       i_ 4 (.mv (T 11)),
       i_ 5 (.mv (T 12)),
       i_ 6 (.mv (T 13))])
     (.seq
      (.ops [i_ 14 (.mv (T 4)),
        i_ 15 (.mv (T 5)),
        i_ 16 (.build [(.string ⟨⟨[]⟩⟩), (.string ⟨⟨[]⟩⟩)] [(0, (1, (T 14))), (1, (1, (T 15)))]),
        i_ 7 (.alloc 42 [(.string ⟨⟨[]⟩⟩), (.string ⟨⟨[]⟩⟩)]),
        n_ (.st 2 (T 7) (T 16))])
      (.seq
       (.seq
        (.ops [i_ 17 (.mv (T 6)),
          i_ 18 (.not (T 17)),
          i_ 19 (.mv (T 18)),
          ig 20 19 false (.ldN 2 (T 7)),
          ig 21 19 false (.call 43 [(T 20)]),
          ig 22 19 false (.ib .neq (T 21) (KI 0)),
          i_ 23 (.pick (T 19) (KB true) (T 22))])
        (.cond (T 23)
         (.seq
          (.ops [i_ 24 (.build [(.string ⟨⟨[]⟩⟩), (.string ⟨⟨[]⟩⟩)] []),
            n_ (.st 2 (T 2) (T 24)),
            i_ 3 (.mv (KI 4))])
          .ret)
         .skip))
       (.seq
        (.ops [i_ 25 (.ldN 2 (T 7)),
          n_ (.st 2 (T 2) (T 25)),
          i_ 3 (.mv (KI 0))])
        .ret)))))
def m29 : MF := ⟨26, [(.cell 2 2), (.tmp 3)], c29⟩
theorem r29 : resF Try.prog Try.f29 = some m29 := by kernel_rfl
theorem k29 : Callable Try.prog 29 := ⟨_, Try.func29, by kernel_rfl, by kernel_rfl⟩

def c30 : MC :=
   (.seq
    (.ops [i_ 2 (.alloc 42 [(.string ⟨⟨[]⟩⟩), (.string ⟨⟨[]⟩⟩)]),
      i_ 3 (.mv (KB false))])
    (.seq
     (.ops [i_ 9 (.mv (T 0)),
       i_ 10 (.call 86 [(T 9), (KU 58)]),
       i_ 8 (.mv (T 10)),
       i_ 11 (.ext (T 8) 0),
       i_ 12 (.ext (T 8) 1),
       i_ 13 (.ext (T 8) 2),
       i_ 4 (.mv (T 11)),
       i_ 5 (.mv (T 12)),
       i_ 6 (.mv (T 13))])
     (.seq
      (.ops [i_ 14 (.mv (T 4)),
        i_ 15 (.mv (T 5)),
        i_ 16 (.build [(.string ⟨⟨[]⟩⟩), (.string ⟨⟨[]⟩⟩)] [(0, (1, (T 14))), (1, (1, (T 15)))]),
        i_ 7 (.alloc 42 [(.string ⟨⟨[]⟩⟩), (.string ⟨⟨[]⟩⟩)]),
        n_ (.st 2 (T 7) (T 16))])
      (.seq
       (.dops <|
         .op 0 (i_ 17 (.ldN 2 (T 7))) <|
         .op 1 (i_ 18 (.ldN 2 (T 7))) <|
         .op 2 (id_ 19 (.call 44 [(T 18)]) [1]) <|
         .op 3 (nd_ (.st 2 (T 2) (T 17)) [1, 0]) <|
         .op 4 (i_ 3 (.mv (T 19))) <|
         .nil)
       .ret))))
def m30 : MF := ⟨20, [(.cell 2 2), (.tmp 3)], c30⟩
theorem r30 : resF Try.prog Try.f30 = some m30 := by kernel_rfl
theorem k30 : Callable Try.prog 30 := ⟨_, Try.func30, by kernel_rfl, by kernel_rfl⟩

def c31 : MC :=
   (.seq
    (.ops [i_ 2 (.alloc 48 [(.string ⟨⟨[]⟩⟩), (.string ⟨⟨[]⟩⟩), (.string ⟨⟨[]⟩⟩), (.string ⟨⟨[]⟩⟩)]),
      i_ 3 (.mv (KI 0))])
    (.seq
     (.seq
      (.ops [i_ 7 (.mv (T 0)),
        i_ 8 (.call 39 [(T 7)])])
      (.cond (T 8)
       (.seq
        (.ops [i_ 9 (.mv (T 0)),
          i_ 10 (.build [(.string ⟨⟨[]⟩⟩), (.string ⟨⟨[]⟩⟩), (.string ⟨⟨[]⟩⟩), (.string ⟨⟨[]⟩⟩)] [(0, (1, (T 9)))]),
          n_ (.st 4 (T 2) (T 10)),
          i_ 3 (.mv (KI 0))])
        .ret)
       .skip))
     (.seq
      (.ops [i_ 12 (.mv (T 0)),
        i_ 13 (.call 87 [(T 12)]),
        i_ 11 (.mv (T 13)),
        i_ 14 (.ext (T 11) 0),
        i_ 15 (.ext (T 11) 1),
        i_ 16 (.ext (T 11) 2),
        i_ 4 (.alloc 42 [(.string ⟨⟨[]⟩⟩), (.string ⟨⟨[]⟩⟩)]),
        n_ (.st 2 (T 4) (T 14)),
        i_ 5 (.mv (T 15)),
        i_ 6 (.mv (T 16))])
      (.seq
       (.seq
        (.ops [i_ 17 (.mv (T 6)),
          i_ 18 (.not (T 17))])
        (.cond (T 18)
         (.seq
          (.ops [i_ 19 (.build [(.string ⟨⟨[]⟩⟩), (.string ⟨⟨[]⟩⟩), (.string ⟨⟨[]⟩⟩), (.string ⟨⟨[]⟩⟩)] []),
            n_ (.st 4 (T 2) (T 19)),
            i_ 3 (.mv (KI 4))])
          .ret)
         .skip))
       (.seq
        (.ops [i_ 20 (.ldN 2 (T 4)),
          i_ 21 (.mv (T 5)),
          i_ 22 (.build [(.string ⟨⟨[]⟩⟩), (.string ⟨⟨[]⟩⟩), (.string ⟨⟨[]⟩⟩), (.string ⟨⟨[]⟩⟩)] [(1, (2, (T 20))), (3, (1, (T 21)))]),
          n_ (.st 4 (T 2) (T 22)),
          i_ 3 (.mv (KI 0))])
        .ret)))))
def m31 : MF := ⟨23, [(.cell 2 4), (.tmp 3)], c31⟩
theorem r31 : resF Try.prog Try.f31 = some m31 := by kernel_rfl
theorem k31 : Callable Try.prog 31 := ⟨_, Try.func31, by kernel_rfl, by kernel_rfl⟩

def c32 : MC :=
   (.seq
    (.ops [i_ 2 (.alloc 48 [(.string ⟨⟨[]⟩⟩), (.string ⟨⟨[]⟩⟩), (.string ⟨⟨[]⟩⟩), (.string ⟨⟨[]⟩⟩)]),
      i_ 3 (.mv (KB false))])
    (.seq
     (.seq
      (.ops [i_ 9 (.mv (T 0)),
        i_ 10 (.call 40 [(T 9)])])
      (.cond (T 10)
       (.seq
        (.ops [i_ 11 (.mv (T 0)),
          i_ 12 (.build [(.string ⟨⟨[]⟩⟩), (.string ⟨⟨[]⟩⟩), (.string ⟨⟨[]⟩⟩), (.string ⟨⟨[]⟩⟩)] [(0, (1, (T 11)))]),
          n_ (.st 4 (T 2) (T 12)),
          i_ 3 (.mv (KB true))])
        .ret)
       .skip))
     (.seq
      (.ops [i_ 14 (.mv (T 0)),
        i_ 15 (.call 86 [(T 14), (KU 35)]),
        i_ 13 (.mv (T 15)),
        i_ 16 (.ext (T 13) 0),
        i_ 17 (.ext (T 13) 1),
        i_ 18 (.ext (T 13) 2),
        i_ 4 (.mv (T 16)),
        i_ 5 (.mv (T 17)),
        i_ 6 (.mv (T 18))])
      (.seq
       (.ops [i_ 20 (.mv (T 4)),
         i_ 21 (.call 30 [(T 20)]),
         i_ 19 (.mv (T 21)),
         i_ 22 (.ext (T 19) 0),
         i_ 23 (.ext (T 19) 1),
         i_ 7 (.alloc 42 [(.string ⟨⟨[]⟩⟩), (.string ⟨⟨[]⟩⟩)]),
         n_ (.st 2 (T 7) (T 22)),
         i_ 8 (.mv (T 23))])
       (.seq
        (.dops <|
          .op 0 (i_ 24 (.ldN 2 (T 7))) <|
          .op 1 (i_ 25 (.mv (T 5))) <|
          .op 2 (i_ 26 (.build [(.string ⟨⟨[]⟩⟩), (.string ⟨⟨[]⟩⟩), (.string ⟨⟨[]⟩⟩), (.string ⟨⟨[]⟩⟩)] [(1, (2, (T 24))), (3, (1, (T 25)))])) <|
          .op 3 (i_ 27 (.mv (T 8))) <|
          .op 4 (i_ 28 (.mv (T 27))) <|
          .op 5 (ig 29 28 true (.mv (T 5))) <|
          .op 6 (ig 30 28 true (.call 38 [(T 29)])) <|
          .op 7 (i_ 31 (.pick (T 28) (T 30) (KB false))) <|
          .op 8 (nd_ (.st 4 (T 2) (T 26)) [0]) <|
          .op 9 (i_ 3 (.mv (T 31))) <|
          .nil)
        .ret)))))
def m32 : MF := ⟨32, [(.cell 2 4), (.tmp 3)], c32⟩
theorem r32 : resF Try.prog Try.f32 = some m32 := by kernel_rfl
theorem k32 : Callable Try.prog 32 := ⟨_, Try.func32, by kernel_rfl, by kernel_rfl⟩

def c33 : MC :=
   (.seq
    (.ops [i_ 2 (.alloc 54 [(.string ⟨⟨[]⟩⟩), (.string ⟨⟨[]⟩⟩), (.string ⟨⟨[]⟩⟩), (.string ⟨⟨[]⟩⟩), (.string ⟨⟨[]⟩⟩), (.string ⟨⟨[]⟩⟩), (.string ⟨⟨[]⟩⟩)]),
      i_ 3 (.mv (KI 0))])
    (.seq
     (.ops [i_ 13 (.mv (T 0)),
       i_ 14 (.call 85 [(T 13), (KS [64])]),
       i_ 12 (.mv (T 14)),
       i_ 15 (.ext (T 12) 0),
       i_ 16 (.ext (T 12) 1),
       i_ 17 (.ext (T 12) 2),
       i_ 4 (.mv (T 15)),
       i_ 5 (.mv (T 16)),
       i_ 6 (.mv (T 17))])
     (.seq
      (.ops [i_ 19 (.mv (T 4)),
        i_ 20 (.call 87 [(T 19)]),
        i_ 18 (.mv (T 20)),
        i_ 21 (.ext (T 18) 0),
        i_ 22 (.ext (T 18) 1),
        i_ 23 (.ext (T 18) 2),
        i_ 7 (.alloc 42 [(.string ⟨⟨[]⟩⟩), (.string ⟨⟨[]⟩⟩)]),
        n_ (.st 2 (T 7) (T 21)),
        i_ 8 (.mv (T 22)),
        i_ 9 (.mv (T 23))])
      (.seq
       (.ops [i_ 25 (.mv (T 5)),
         i_ 26 (.call 31 [(T 25)]),
         i_ 24 (.mv (T 26)),
         i_ 27 (.ext (T 24) 0),
         i_ 28 (.ext (T 24) 1),
         i_ 10 (.alloc 48 [(.string ⟨⟨[]⟩⟩), (.string ⟨⟨[]⟩⟩), (.string ⟨⟨[]⟩⟩), (.string ⟨⟨[]⟩⟩)]),
         n_ (.st 4 (T 10) (T 27)),
         i_ 11 (.mv (T 28))])
       (.seq
        (.seq
         (.ops [i_ 29 (.mv (T 9)),
           i_ 30 (.not (T 29)),
           i_ 31 (.mv (T 30)),
           ig 32 31 false (.mv (T 11)),
           ig 33 31 false (.ib .neq (T 32) (KI 0)),
           i_ 34 (.pick (T 31) (KB true) (T 33))])
         (.cond (T 34)
          (.seq
           (.ops [i_ 35 (.build [(.string ⟨⟨[]⟩⟩), (.string ⟨⟨[]⟩⟩), (.string ⟨⟨[]⟩⟩), (.string ⟨⟨[]⟩⟩), (.string ⟨⟨[]⟩⟩), (.string ⟨⟨[]⟩⟩), (.string ⟨⟨[]⟩⟩)] []),
             n_ (.st 7 (T 2) (T 35)),
             i_ 3 (.mv (KI 4))])
           .ret)
          .skip))
        (.seq
         (.ops [i_ 36 (.ldN 2 (T 7)),
           i_ 37 (.mv (T 8)),
           i_ 38 (.ldN 4 (T 10)),
           i_ 39 (.build [(.string ⟨⟨[]⟩⟩), (.string ⟨⟨[]⟩⟩), (.string ⟨⟨[]⟩⟩), (.string ⟨⟨[]⟩⟩), (.string ⟨⟨[]⟩⟩), (.string ⟨⟨[]⟩⟩), (.string ⟨⟨[]⟩⟩)] [(0, (2, (T 36))), (2, (1, (T 37))), (3, (4, (T 38)))]),
           n_ (.st 7 (T 2) (T 39)),
           i_ 3 (.mv (KI 0))])
         .ret))))))
def m33 : MF := ⟨40, [(.cell 2 7), (.tmp 3)], c33⟩
theorem r33 : resF Try.prog Try.f33 = some m33 := by kernel_rfl
theorem k33 : Callable Try.prog 33 := ⟨_, Try.func33, by kernel_rfl, by kernel_rfl⟩

def c34 : MC :=
   (.seq
    (.ops [i_ 2 (.alloc 54 [(.string ⟨⟨[]⟩⟩), (.string ⟨⟨[]⟩⟩), (.string ⟨⟨[]⟩⟩), (.string ⟨⟨[]⟩⟩), (.string ⟨⟨[]⟩⟩), (.string ⟨⟨[]⟩⟩), (.string ⟨⟨[]⟩⟩)]),
      i_ 3 (.mv (KI 0))])
    (.seq
     (.ops [i_ 15 (.mv (T 0)),
       i_ 16 (.call 86 [(T 15), (KU 64)]),
       i_ 14 (.mv (T 16)),
       i_ 17 (.ext (T 14) 0),
       i_ 18 (.ext (T 14) 1),
       i_ 19 (.ext (T 14) 2),
       i_ 4 (.mv (T 17)),
       i_ 5 (.mv (T 18)),
       i_ 6 (.mv (T 19))])
     (.seq
      (.ops [i_ 21 (.mv (T 4)),
        i_ 22 (.call 86 [(T 21), (KU 35)]),
        i_ 20 (.mv (T 22)),
        i_ 23 (.ext (T 20) 0),
        i_ 24 (.ext (T 20) 1),
        i_ 25 (.ext (T 20) 2),
        i_ 7 (.mv (T 23)),
        i_ 8 (.mv (T 24)),
        i_ 9 (.mv (T 25))])
      (.seq
       (.ops [i_ 27 (.mv (T 7)),
         i_ 28 (.call 30 [(T 27)]),
         i_ 26 (.mv (T 28)),
         i_ 29 (.ext (T 26) 0),
         i_ 30 (.ext (T 26) 1),
         i_ 10 (.alloc 42 [(.string ⟨⟨[]⟩⟩), (.string ⟨⟨[]⟩⟩)]),
         n_ (.st 2 (T 10) (T 29)),
         i_ 11 (.mv (T 30))])
       (.seq
        (.ops [i_ 32 (.mv (T 5)),
          i_ 33 (.call 32 [(T 32)]),
          i_ 31 (.mv (T 33)),
          i_ 34 (.ext (T 31) 0),
          i_ 35 (.ext (T 31) 1),
          i_ 12 (.alloc 48 [(.string ⟨⟨[]⟩⟩), (.string ⟨⟨[]⟩⟩), (.string ⟨⟨[]⟩⟩), (.string ⟨⟨[]⟩⟩)]),
          n_ (.st 4 (T 12) (T 34)),
          i_ 13 (.mv (T 35))])
        (.seq
         (.seq
          (.ops [i_ 36 (.mv (T 11)),
            i_ 37 (.not (T 36)),
            i_ 38 (.mv (T 37)),
            ig 39 38 false (.mv (T 13)),
            ig 40 38 false (.not (T 39)),
            i_ 41 (.pick (T 38) (KB true) (T 40)),
            i_ 42 (.mv (T 41)),
            ig 43 42 false (.mv (T 8)),
            ig 44 42 false (.call 38 [(T 43)]),
            ig 45 42 false (.not (T 44)),
            i_ 46 (.pick (T 42) (KB true) (T 45))])
          (.cond (T 46)
           (.seq
            (.ops [i_ 47 (.build [(.string ⟨⟨[]⟩⟩), (.string ⟨⟨[]⟩⟩), (.string ⟨⟨[]⟩⟩), (.string ⟨⟨[]⟩⟩), (.string ⟨⟨[]⟩⟩), (.string ⟨⟨[]⟩⟩), (.string ⟨⟨[]⟩⟩)] []),
              n_ (.st 7 (T 2) (T 47)),
              i_ 3 (.mv (KI 4))])
            .ret)
           .skip))
         (.seq
          (.ops [i_ 48 (.ldN 2 (T 10)),
            i_ 49 (.mv (T 8)),
            i_ 50 (.ldN 4 (T 12)),
            i_ 51 (.build [(.string ⟨⟨[]⟩⟩), (.string ⟨⟨[]⟩⟩), (.string ⟨⟨[]⟩⟩), (.string ⟨⟨[]⟩⟩), (.string ⟨⟨[]⟩⟩), (.string ⟨⟨[]⟩⟩), (.string ⟨⟨[]⟩⟩)] [(0, (2, (T 48))), (2, (1, (T 49))), (3, (4, (T 50)))]),
            n_ (.st 7 (T 2) (T 51)),
            i_ 3 (.mv (KI 0))])
          .ret)))))))
def m34 : MF := ⟨52, [(.cell 2 7), (.tmp 3)], c34⟩
theorem r34 : resF Try.prog Try.f34 = some m34 := by kernel_rfl
theorem k34 : Callable Try.prog 34 := ⟨_, Try.func34, by kernel_rfl, by kernel_rfl⟩

def c35 : MC :=
   (.seq
    (.ops [i_ 0 (.mv (KB false))])
    (.seq
     (.ops [i_ 4 (.call 33 [(KS [100, 111, 99, 58, 97, 35, 118, 105, 101, 119, 101, 114, 64, 98, 111, 98])]),
       i_ 3 (.mv (T 4)),
       i_ 5 (.ext (T 3) 0),
       i_ 6 (.ext (T 3) 1),
       i_ 1 (.alloc 54 [(.string ⟨⟨[]⟩⟩), (.string ⟨⟨[]⟩⟩), (.string ⟨⟨[]⟩⟩), (.string ⟨⟨[]⟩⟩), (.string ⟨⟨[]⟩⟩), (.string ⟨⟨[]⟩⟩), (.string ⟨⟨[]⟩⟩)]),
       n_ (.st 7 (T 1) (T 5)),
       i_ 2 (.mv (T 6))])
     (.seq
      (.ops [i_ 7 (.mv (T 2)),
        i_ 8 (.ib .eql (T 7) (KI 0)),
        i_ 9 (.mv (T 8)),
        ig 10 9 true (.faddr 3 (T 1)),
        ig 11 9 true (.faddr 0 (T 10)),
        ig 12 9 true (.ld1 (T 11)),
        ig 13 9 true (.sb .eql (T 12) (KS [98, 111, 98])),
        i_ 14 (.pick (T 9) (T 13) (KB false)),
        i_ 15 (.mv (T 14)),
        ig 16 15 true (.call 37 [(KS [100, 111, 99])]),
        i_ 17 (.pick (T 15) (T 16) (KB false)),
        i_ 18 (.mv (T 17)),
        ig 19 18 true (.call 37 [(KS [117, 115, 101, 114])]),
        ig 20 18 true (.not (T 19)),
        i_ 21 (.pick (T 18) (T 20) (KB false)),
        i_ 0 (.mv (T 21))])
      .ret)))
def m35 : MF := ⟨22, [(.tmp 0)], c35⟩
theorem r35 : resF Try.prog Try.f35 = some m35 := by kernel_rfl
theorem k35 : Callable Try.prog 35 := ⟨_, Try.func35, by kernel_rfl, by kernel_rfl⟩

def c36 : MC :=
   (.seq
    (.ops [i_ 1 (.box 54 (T 0)),
      i_ 2 (.alloc 54 [(.string ⟨⟨[]⟩⟩), (.string ⟨⟨[]⟩⟩), (.string ⟨⟨[]⟩⟩), (.string ⟨⟨[]⟩⟩), (.string ⟨⟨[]⟩⟩), (.string ⟨⟨[]⟩⟩), (.string ⟨⟨[]⟩⟩)])])
    (.seq
     (.ops [i_ 4 (.faddr 3 (T 1)),
       i_ 5 (.ldN 4 (T 4)),
       i_ 3 (.alloc 48 [(.string ⟨⟨[]⟩⟩), (.string ⟨⟨[]⟩⟩), (.string ⟨⟨[]⟩⟩), (.string ⟨⟨[]⟩⟩)]),
       n_ (.st 4 (T 3) (T 5))])
     (.seq
      (.dops <|
        .op 0 (i_ 6 (.faddr 0 (T 1))) <|
        .op 1 (i_ 7 (.faddr 0 (T 6))) <|
        .op 2 (i_ 8 (.ld1 (T 7))) <|
        .op 4 (i_ 10 (.faddr 0 (T 1))) <|
        .op 5 (i_ 11 (.faddr 1 (T 10))) <|
        .op 6 (i_ 12 (.ld1 (T 11))) <|
        .op 9 (i_ 15 (.faddr 2 (T 1))) <|
        .op 10 (i_ 16 (.ld1 (T 15))) <|
        .op 12 (i_ 18 (.faddr 0 (T 3))) <|
        .op 13 (i_ 19 (.ld1 (T 18))) <|
        .op 15 (i_ 21 (.faddr 1 (T 3))) <|
        .op 16 (i_ 22 (.faddr 0 (T 21))) <|
        .op 17 (i_ 23 (.ld1 (T 22))) <|
        .op 19 (i_ 25 (.faddr 1 (T 3))) <|
        .op 20 (i_ 26 (.faddr 1 (T 25))) <|
        .op 21 (i_ 27 (.ld1 (T 26))) <|
        .op 24 (i_ 30 (.faddr 3 (T 3))) <|
        .op 25 (i_ 31 (.ld1 (T 30))) <|
        .op 3 (id_ 9 (.call 21 [(T 8), (KI 40)]) [2]) <|
        .op 7 (id_ 13 (.call 21 [(T 12), (KI 40)]) [2, 6]) <|
        .op 8 (i_ 14 (.build [(.string ⟨⟨[]⟩⟩), (.string ⟨⟨[]⟩⟩)] [(0, (1, (T 9))), (1, (1, (T 13)))])) <|
        .op 11 (id_ 17 (.call 21 [(T 16), (KI 40)]) [6, 2, 10]) <|
        .op 14 (id_ 20 (.call 21 [(T 19), (KI 40)]) [10, 2, 6, 13]) <|
        .op 18 (id_ 24 (.call 21 [(T 23), (KI 40)]) [13, 6, 2, 10, 17]) <|
        .op 22 (id_ 28 (.call 21 [(T 27), (KI 40)]) [17, 10, 2, 6, 13, 21]) <|
        .op 23 (i_ 29 (.build [(.string ⟨⟨[]⟩⟩), (.string ⟨⟨[]⟩⟩)] [(0, (1, (T 24))), (1, (1, (T 28)))])) <|
        .op 26 (id_ 32 (.call 21 [(T 31), (KI 40)]) [21, 13, 6, 2, 10, 17, 25]) <|
        .op 27 (i_ 33 (.build [(.string ⟨⟨[]⟩⟩), (.string ⟨⟨[]⟩⟩), (.string ⟨⟨[]⟩⟩), (.string ⟨⟨[]⟩⟩)] [(0, (1, (T 20))), (1, (2, (T 29))), (3, (1, (T 32)))])) <|
        .op 28 (i_ 34 (.build [(.string ⟨⟨[]⟩⟩), (.string ⟨⟨[]⟩⟩), (.string ⟨⟨[]⟩⟩), (.string ⟨⟨[]⟩⟩), (.string ⟨⟨[]⟩⟩), (.string ⟨⟨[]⟩⟩), (.string ⟨⟨[]⟩⟩)] [(0, (2, (T 14))), (2, (1, (T 17))), (3, (4, (T 33)))])) <|
        .op 29 (nd_ (.st 7 (T 2) (T 34)) [6, 2, 10, 25, 17, 21, 13]) <|
        .nil)
      .ret)))
def m36 : MF := ⟨35, [(.cell 2 7)], c36⟩
theorem r36 : resF Try.prog Try.f36 = some m36 := by kernel_rfl
theorem k36 : Callable Try.prog 36 := ⟨_, Try.func36, by kernel_rfl, by kernel_rfl⟩

def c37 : MC :=
   (.seq
    (.ops [i_ 2 (.mv (KB false))])
    (.seq
     (.seq
      (.ops [i_ 3 (.mv (T 0))])
      (.block 0
       (.seq
        (.seq
         (.ops [i_ 5 (.sb .eql (T 3) (KS [117, 115, 101, 114])),
           i_ 4 (.mv (T 5))])
         (.cond (T 4)
          .skip
          (.seq
           (.ops [i_ 6 (.sb .eql (T 3) (KS [116, 104, 105, 115])),
             i_ 4 (.mv (T 6))])
           (.cond (T 4)
            .skip
            (.seq
             (.ops [i_ 7 (.sb .eql (T 3) (KS [110, 97, 109, 101, 115, 112, 97, 99, 101])),
               i_ 4 (.mv (T 7))])
             (.cond (T 4)
              .skip
              (.seq
               (.ops [i_ 8 (.sb .eql (T 3) (KS [114, 101, 108, 97, 116, 105, 111, 110])),
                 i_ 4 (.mv (T 8))])
               (.cond (T 4)
                .skip
                (.ops [i_ 9 (.sb .eql (T 3) (KS [115, 99, 111, 112, 101])),
                  i_ 4 (.mv (T 9))])))))))))
        (.cond (T 4)
         (.seq
          (.ops [i_ 2 (.mv (KB false))])
          .ret)
         .skip))))
     (.seq
      (.ops [i_ 10 (.mv (T 0)),
        i_ 11 (.call 88 [(T 10), (FN 89)]),
        i_ 12 (.mv (T 11)),
        ig 13 12 true (.mv (T 0)),
        ig 14 12 true (.idx (T 13) (KI 0)),
        ig 15 12 true (.call 90 [(T 14)]),
        i_ 16 (.pick (T 12) (T 15) (KB false)),
        i_ 2 (.mv (T 16))])
      .ret)))
def m37 : MF := ⟨17, [(.tmp 2)], c37⟩
theorem r37 : resF Try.prog Try.f37 = some m37 := by kernel_rfl
theorem k37 : Callable Try.prog 37 := ⟨_, Try.func37, by kernel_rfl, by kernel_rfl⟩

def c38 : MC :=
   (.seq
    (.ops [i_ 2 (.mv (KB false))])
    (.seq
     (.seq
      (.ops [i_ 5 (.mv (T 0)),
        i_ 6 (.lenS (T 5)),
        i_ 7 (.ib .lss (T 6) (KI 1)),
        i_ 8 (.mv (T 7)),
        ig 9 8 false (.mv (T 0)),
        ig 10 8 false (.lenS (T 9)),
        ig 11 8 false (.ib .gtr (T 10) (KI 32)),
        i_ 12 (.pick (T 8) (KB true) (T 11)),
        i_ 13 (.mv (T 12)),
        ig 14 13 false (.mv (T 0)),
        ig 15 13 false (.idx (T 14) (KI 0)),
        ig 16 13 false (.ib .lss (T 15) (KU 97)),
        i_ 17 (.pick (T 13) (KB true) (T 16)),
        i_ 18 (.mv (T 17)),
        ig 19 18 false (.mv (T 0)),
        ig 20 18 false (.idx (T 19) (KI 0)),
        ig 21 18 false (.ib .gtr (T 20) (KU 122)),
        i_ 22 (.pick (T 18) (KB true) (T 21))])
      (.cond (T 22)
       (.seq
        (.ops [i_ 2 (.mv (KB false))])
        .ret)
       .skip))
     (.seq
      (.seq
       (.ops [i_ 3 (.mv (KI 0))])
       (.block 0
        (.loop [(23, 29), (29, 51), (4, 5), (2, 4)]
         (.seq
          (.seq
           (.ops [i_ 23 (.mv (T 3)),
             i_ 24 (.mv (T 0)),
             i_ 25 (.lenS (T 24)),
             i_ 26 (.ib .lss (T 23) (T 25))])
           (.cond (T 26)
            .skip
            (.exit 0)))
          (.seq
           (.block 1
            (.seq
             (.ops [i_ 29 (.mv (T 0)),
               i_ 30 (.mv (T 3)),
               i_ 31 (.idx (T 29) (T 30)),
               i_ 4 (.mv (T 31))])
             (.seq
              (.ops [i_ 32 (.mv (T 4)),
                i_ 33 (.ib .geq (T 32) (KU 97)),
                i_ 34 (.mv (T 33)),
                ig 35 34 true (.mv (T 4)),
                ig 36 34 true (.ib .leq (T 35) (KU 122)),
                i_ 37 (.pick (T 34) (T 36) (KB false)),
                i_ 38 (.mv (T 37)),
                ig 39 38 false (.mv (T 4)),
                ig 40 38 false (.ib .geq (T 39) (KU 48)),
                ig 41 38 false (.mv (T 40)),
                ig 42 41 true (.mv (T 4)),
                ig 43 41 true (.ib .leq (T 42) (KU 57)),
                ig 44 38 false (.pick (T 41) (T 43) (KB false)),
                i_ 45 (.pick (T 38) (KB true) (T 44)),
                i_ 46 (.mv (T 45)),
                ig 47 46 false (.mv (T 4)),
                ig 48 46 false (.ib .eql (T 47) (KU 95)),
                i_ 49 (.pick (T 46) (KB true) (T 48)),
                i_ 50 (.not (T 49))])
              (.cond (T 50)
               (.seq
                (.ops [i_ 2 (.mv (KB false))])
                .ret)
               .skip))))
           (.ops [i_ 27 (.mv (T 3)),
             i_ 28 (.ib .add (T 27) (KI 1)),
             i_ 3 (.mv (T 28))]))))))
      (.seq
       (.ops [i_ 51 (.mv (T 0)),
         i_ 52 (.sb .neq (T 51) (KS [117, 115, 101, 114])),
         i_ 53 (.mv (T 52)),
         ig 54 53 true (.mv (T 0)),
         ig 55 53 true (.sb .neq (T 54) (KS [116, 104, 105, 115])),
         i_ 56 (.pick (T 53) (T 55) (KB false)),
         i_ 57 (.mv (T 56)),
         ig 58 57 true (.mv (T 0)),
         ig 59 57 true (.sb .neq (T 58) (KS [110, 97, 109, 101, 115, 112, 97, 99, 101])),
         i_ 60 (.pick (T 57) (T 59) (KB false)),
         i_ 61 (.mv (T 60)),
         ig 62 61 true (.mv (T 0)),
         ig 63 61 true (.sb .neq (T 62) (KS [114, 101, 108, 97, 116, 105, 111, 110])),
         i_ 64 (.pick (T 61) (T 63) (KB false)),
         i_ 65 (.mv (T 64)),
         ig 66 65 true (.mv (T 0)),
         ig 67 65 true (.sb .neq (T 66) (KS [115, 99, 111, 112, 101])),
         i_ 68 (.pick (T 65) (T 67) (KB false)),
         i_ 2 (.mv (T 68))])
       .ret))))
def m38 : MF := ⟨69, [(.tmp 2)], c38⟩
theorem r38 : resF Try.prog Try.f38 = some m38 := by kernel_rfl
theorem k38 : Callable Try.prog 38 := ⟨_, Try.func38, by kernel_rfl, by kernel_rfl⟩

def c39 : MC :=
   (.seq
    (.ops [i_ 2 (.mv (KB false))])
    (.seq
     (.ops [i_ 3 (.mv (T 0)),
       i_ 4 (.call 88 [(T 3), (FN 92)]),
       i_ 2 (.mv (T 4))])
     .ret))
def m39 : MF := ⟨5, [(.tmp 2)], c39⟩
theorem r39 : resF Try.prog Try.f39 = some m39 := by kernel_rfl
theorem k39 : Callable Try.prog 39 := ⟨_, Try.func39, by kernel_rfl, by kernel_rfl⟩

def c40 : MC :=
   (.seq
    (.ops [i_ 2 (.mv (KB false))])
    (.seq
     (.seq
      (.ops [i_ 3 (.mv (KI 0))])
      (.block 0
       (.loop [(5, 11), (11, 49), (4, 5), (2, 4)]
        (.seq
         (.seq
          (.ops [i_ 5 (.mv (T 3)),
            i_ 6 (.mv (T 0)),
            i_ 7 (.lenS (T 6)),
            i_ 8 (.ib .lss (T 5) (T 7))])
          (.cond (T 8)
           .skip
           (.exit 0)))
         (.seq
          (.block 1
           (.seq
            (.ops [i_ 11 (.mv (T 0)),
              i_ 12 (.mv (T 3)),
              i_ 13 (.idx (T 11) (T 12)),
              i_ 4 (.mv (T 13))])
            (.seq
             (.ops [i_ 14 (.mv (T 4)),
               i_ 15 (.ib .geq (T 14) (KU 97)),
               i_ 16 (.mv (T 15)),
               ig 17 16 true (.mv (T 4)),
               ig 18 16 true (.ib .leq (T 17) (KU 122)),
               i_ 19 (.pick (T 16) (T 18) (KB false)),
               i_ 20 (.mv (T 19)),
               ig 21 20 false (.mv (T 4)),
               ig 22 20 false (.ib .geq (T 21) (KU 65)),
               ig 23 20 false (.mv (T 22)),
               ig 24 23 true (.mv (T 4)),
               ig 25 23 true (.ib .leq (T 24) (KU 90)),
               ig 26 20 false (.pick (T 23) (T 25) (KB false)),
               i_ 27 (.pick (T 20) (KB true) (T 26)),
               i_ 28 (.mv (T 27)),
               ig 29 28 false (.mv (T 4)),
               ig 30 28 false (.ib .geq (T 29) (KU 48)),
               ig 31 28 false (.mv (T 30)),
               ig 32 31 true (.mv (T 4)),
               ig 33 31 true (.ib .leq (T 32) (KU 57)),
               ig 34 28 false (.pick (T 31) (T 33) (KB false)),
               i_ 35 (.pick (T 28) (KB true) (T 34)),
               i_ 36 (.mv (T 35)),
               ig 37 36 false (.mv (T 4)),
               ig 38 36 false (.ib .eql (T 37) (KU 95)),
               i_ 39 (.pick (T 36) (KB true) (T 38)),
               i_ 40 (.mv (T 39)),
               ig 41 40 false (.mv (T 4)),
               ig 42 40 false (.ib .eql (T 41) (KU 46)),
               i_ 43 (.pick (T 40) (KB true) (T 42)),
               i_ 44 (.mv (T 43)),
               ig 45 44 false (.mv (T 4)),
               ig 46 44 false (.ib .eql (T 45) (KU 45)),
               i_ 47 (.pick (T 44) (KB true) (T 46)),
               i_ 48 (.not (T 47))])
             (.cond (T 48)
              (.seq
               (.ops [i_ 2 (.mv (KB false))])
               .ret)
              .skip))))
          (.ops [i_ 9 (.mv (T 3)),
            i_ 10 (.ib .add (T 9) (KI 1)),
            i_ 3 (.mv (T 10))]))))))
     (.seq
      (.ops [i_ 49 (.mv (T 0)),
        i_ 50 (.lenS (T 49)),
        i_ 51 (.ib .geq (T 50) (KI 1)),
        i_ 52 (.mv (T 51)),
        ig 53 52 true (.mv (T 0)),
        ig 54 52 true (.lenS (T 53)),
        ig 55 52 true (.ib .leq (T 54) (KI 32)),
        i_ 56 (.pick (T 52) (T 55) (KB false)),
        i_ 2 (.mv (T 56))])
      .ret)))
def m40 : MF := ⟨57, [(.tmp 2)], c40⟩
theorem r40 : resF Try.prog Try.f40 = some m40 := by kernel_rfl
theorem k40 : Callable Try.prog 40 := ⟨_, Try.func40, by kernel_rfl, by kernel_rfl⟩

def c41 : MC :=
   (.seq
    (.ops [i_ 1 (.box 54 (T 0)),
      i_ 2 (.mv (KI 0))])
    (.seq
     (.ops [i_ 3 (.faddr 0 (T 1)),
       i_ 4 (.ldN 2 (T 3)),
       i_ 5 (.call 43 [(T 4)]),
       i_ 6 (.ib .eql (T 5) (KI 0)),
       i_ 7 (.mv (T 6)),
       ig 8 7 true (.faddr 2 (T 1)),
       ig 9 7 true (.ld1 (T 8)),
       ig 10 7 true (.call 37 [(T 9)]),
       i_ 11 (.pick (T 7) (T 10) (KB false)),
       i_ 12 (.mv (T 11)),
       ig 13 12 true (.faddr 3 (T 1)),
       ig 14 12 true (.ldN 4 (T 13)),
       ig 15 12 true (.call 45 [(T 14)]),
       ig 16 12 true (.ib .eql (T 15) (KI 0)),
       i_ 17 (.pick (T 12) (T 16) (KB false)),
       i_ 18 (.call 93 [(T 17)]),
       i_ 2 (.mv (T 18))])
     .ret))
def m41 : MF := ⟨19, [(.tmp 2)], c41⟩
theorem r41 : resF Try.prog Try.f41 = some m41 := by kernel_rfl
theorem k41 : Callable Try.prog 41 := ⟨_, Try.func41, by kernel_rfl, by kernel_rfl⟩

def c42 : MC :=
   (.seq
    (.ops [i_ 1 (.box 54 (T 0)),
      i_ 2 (.mv (KB false))])
    (.seq
     (.ops [i_ 3 (.faddr 0 (T 1)),
       i_ 4 (.ldN 2 (T 3)),
       i_ 5 (.call 44 [(T 4)]),
       i_ 6 (.mv (T 5)),
       ig 7 6 true (.faddr 2 (T 1)),
       ig 8 6 true (.ld1 (T 7)),
       ig 9 6 true (.call 38 [(T 8)]),
       i_ 10 (.pick (T 6) (T 9) (KB false)),
       i_ 11 (.mv (T 10)),
       ig 12 11 true (.faddr 3 (T 1)),
       ig 13 11 true (.ldN 4 (T 12)),
       ig 14 11 true (.call 46 [(T 13)]),
       i_ 15 (.pick (T 11) (T 14) (KB false)),
       i_ 2 (.mv (T 15))])
     .ret))
def m42 : MF := ⟨16, [(.tmp 2)], c42⟩
theorem r42 : resF Try.prog Try.f42 = some m42 := by kernel_rfl
theorem k42 : Callable Try.prog 42 := ⟨_, Try.func42, by kernel_rfl, by kernel_rfl⟩

def c43 : MC :=
   (.seq
    (.ops [i_ 1 (.box 42 (T 0)),
      i_ 2 (.mv (KI 0))])
    (.seq
     (.ops [i_ 3 (.faddr 0 (T 1)),
       i_ 4 (.ld1 (T 3)),
       i_ 5 (.call 37 [(T 4)]),
       i_ 6 (.mv (T 5)),
       ig 7 6 true (.faddr 1 (T 1)),
       ig 8 6 true (.ld1 (T 7)),
       ig 9 6 true (.call 39 [(T 8)]),
       i_ 10 (.pick (T 6) (T 9) (KB false)),
       i_ 11 (.call 93 [(T 10)]),
       i_ 2 (.mv (T 11))])
     .ret))
def m43 : MF := ⟨12, [(.tmp 2)], c43⟩
theorem r43 : resF Try.prog Try.f43 = some m43 := by kernel_rfl
theorem k43 : Callable Try.prog 43 := ⟨_, Try.func43, by kernel_rfl, by kernel_rfl⟩

def c44 : MC :=
   (.seq
    (.ops [i_ 1 (.box 42 (T 0)),
      i_ 2 (.mv (KB false))])
    (.seq
     (.ops [i_ 3 (.faddr 0 (T 1)),
       i_ 4 (.ld1 (T 3)),
       i_ 5 (.call 38 [(T 4)]),
       i_ 6 (.mv (T 5)),
       ig 7 6 true (.faddr 1 (T 1)),
       ig 8 6 true (.ld1 (T 7)),
       ig 9 6 true (.call 40 [(T 8)]),
       i_ 10 (.pick (T 6) (T 9) (KB false)),
       i_ 2 (.mv (T 10))])
     .ret))
def m44 : MF := ⟨11, [(.tmp 2)], c44⟩
theorem r44 : resF Try.prog Try.f44 = some m44 := by kernel_rfl
theorem k44 : Callable Try.prog 44 := ⟨_, Try.func44, by kernel_rfl, by kernel_rfl⟩

def c45 : MC :=
   (.seq
    (.ops [i_ 1 (.box 48 (T 0)),
      i_ 2 (.mv (KI 0))])
    (.seq
     (.seq
      (.ops [i_ 3 (.faddr 0 (T 1)),
        i_ 4 (.ld1 (T 3)),
        i_ 5 (.sb .neq (T 4) (KS []))])
      (.cond (T 5)
       (.seq
        (.ops [i_ 6 (.faddr 0 (T 1)),
          i_ 7 (.ld1 (T 6)),
          i_ 8 (.call 39 [(T 7)]),
          i_ 9 (.mv (T 8)),
          ig 10 9 true (.ldN 4 (T 1)),
          ig 11 9 true (.faddr 0 (T 1)),
          ig 12 9 true (.ld1 (T 11)),
          ig 13 9 true (.build [(.string ⟨⟨[]⟩⟩), (.string ⟨⟨[]⟩⟩), (.string ⟨⟨[]⟩⟩), (.string ⟨⟨[]⟩⟩)] [(0, (1, (T 12)))]),
          ig 14 9 true (.eqA false 48 [48, 42] [2, 2, 2, 2] (T 10) (T 13)),
          i_ 15 (.pick (T 9) (T 14) (KB false)),
          i_ 16 (.call 93 [(T 15)]),
          i_ 2 (.mv (T 16))])
        .ret)
       .skip))
     (.seq
      (.ops [i_ 17 (.faddr 1 (T 1)),
        i_ 18 (.ldN 2 (T 17)),
        i_ 19 (.call 43 [(T 18)]),
        i_ 20 (.ib .eql (T 19) (KI 0)),
        i_ 21 (.mv (T 20)),
        ig 22 21 true (.faddr 3 (T 1)),
        ig 23 21 true (.ld1 (T 22)),
        ig 24 21 true (.call 37 [(T 23)]),
        i_ 25 (.pick (T 21) (T 24) (KB false)),
        i_ 26 (.call 93 [(T 25)]),
        i_ 2 (.mv (T 26))])
      .ret)))
def m45 : MF := ⟨27, [(.tmp 2)], c45⟩
theorem r45 : resF Try.prog Try.f45 = some m45 := by kernel_rfl
theorem k45 : Callable Try.prog 45 := ⟨_, Try.func45, by kernel_rfl, by kernel_rfl⟩

def c46 : MC :=
   (.seq
    (.ops [i_ 1 (.box 48 (T 0)),
      i_ 2 (.mv (KB false))])
    (.seq
     (.seq
      (.ops [i_ 3 (.faddr 0 (T 1)),
        i_ 4 (.ld1 (T 3)),
        i_ 5 (.sb .eql (T 4) (KS []))])
      (.cond (T 5)
       (.seq
        (.ops [i_ 6 (.faddr 1 (T 1)),
          i_ 7 (.ldN 2 (T 6)),
          i_ 8 (.call 44 [(T 7)]),
          i_ 9 (.mv (T 8)),
          ig 10 9 true (.faddr 3 (T 1)),
          ig 11 9 true (.ld1 (T 10)),
          ig 12 9 true (.call 38 [(T 11)]),
          i_ 13 (.pick (T 9) (T 12) (KB false)),
          i_ 2 (.mv (T 13))])
        .ret)
       .skip))
     (.seq
      (.ops [i_ 14 (.faddr 0 (T 1)),
        i_ 15 (.ld1 (T 14)),
        i_ 16 (.call 40 [(T 15)]),
        i_ 17 (.mv (T 16)),
        ig 18 17 true (.faddr 1 (T 1)),
        ig 19 17 true (.faddr 0 (T 18)),
        ig 20 17 true (.ld1 (T 19)),
        ig 21 17 true (.sb .eql (T 20) (KS [])),
        i_ 22 (.pick (T 17) (T 21) (KB false)),
        i_ 23 (.mv (T 22)),
        ig 24 23 true (.faddr 1 (T 1)),
        ig 25 23 true (.faddr 1 (T 24)),
        ig 26 23 true (.ld1 (T 25)),
        ig 27 23 true (.sb .eql (T 26) (KS [])),
        i_ 28 (.pick (T 23) (T 27) (KB false)),
        i_ 29 (.mv (T 28)),
        ig 30 29 true (.faddr 3 (T 1)),
        ig 31 29 true (.ld1 (T 30)),
        ig 32 29 true (.sb .eql (T 31) (KS [])),
        i_ 33 (.pick (T 29) (T 32) (KB false)),
        i_ 2 (.mv (T 33))])
      .ret)))
def m46 : MF := ⟨34, [(.tmp 2)], c46⟩
theorem r46 : resF Try.prog Try.f46 = some m46 := by kernel_rfl
theorem k46 : Callable Try.prog 46 := ⟨_, Try.func46, by kernel_rfl, by kernel_rfl⟩

def c47 : MC :=
   (.seq
    (.ops [i_ 1 (.box 54 (T 0)),
      i_ 2 (.mv (KS []))])
    (.seq
     (.seq
      (.ops [i_ 3 (.ldN 7 (T 1)),
        i_ 4 (.call 41 [(T 3)]),
        i_ 5 (.ib .neq (T 4) (KI 0))])
      (.cond (T 5)
       (.seq
        (.ops [i_ 2 (.mv (KS []))])
        .ret)
       .skip))
     (.seq
      (.dops <|
        .op 0 (i_ 6 (.faddr 0 (T 1))) <|
        .op 1 (i_ 7 (.ldN 2 (T 6))) <|
        .op 4 (i_ 10 (.faddr 2 (T 1))) <|
        .op 5 (i_ 11 (.ld1 (T 10))) <|
        .op 8 (i_ 14 (.faddr 3 (T 1))) <|
        .op 9 (i_ 15 (.ldN 4 (T 14))) <|
        .op 2 (id_ 8 (.call 94 [(T 7)]) [1]) <|
        .op 3 (i_ 9 (.sb .add (T 8) (KS [35]))) <|
        .op 6 (i_ 12 (.sb .add (T 9) (T 11))) <|
        .op 7 (i_ 13 (.sb .add (T 12) (KS [64]))) <|
        .op 10 (id_ 16 (.call 95 [(T 15)]) [1, 9]) <|
        .op 11 (i_ 17 (.sb .add (T 13) (T 16))) <|
        .op 12 (i_ 2 (.mv (T 17))) <|
        .nil)
      .ret)))
def m47 : MF := ⟨18, [(.tmp 2)], c47⟩
theorem r47 : resF Try.prog Try.f47 = some m47 := by kernel_rfl
theorem k47 : Callable Try.prog 47 := ⟨_, Try.func47, by kernel_rfl, by kernel_rfl⟩

def c48 : MC :=
   (.seq
    (.ops [i_ 1 (.box 48 (T 0)),
      i_ 2 (.mv (KS []))])
    (.seq
     (.seq
      (.ops [i_ 3 (.faddr 0 (T 1)),
        i_ 4 (.ld1 (T 3)),
        i_ 5 (.sb .neq (T 4) (KS []))])
      (.cond (T 5)
       (.seq
        (.ops [i_ 6 (.faddr 0 (T 1)),
          i_ 7 (.ld1 (T 6)),
          i_ 2 (.mv (T 7))])
        .ret)
       .skip))
     (.seq
      (.ops [i_ 8 (.faddr 1 (T 1)),
        i_ 9 (.faddr 0 (T 8)),
        i_ 10 (.ld1 (T 9)),
        i_ 11 (.sb .add (T 10) (KS [58])),
        i_ 12 (.faddr 1 (T 1)),
        i_ 13 (.faddr 1 (T 12)),
        i_ 14 (.ld1 (T 13)),
        i_ 15 (.sb .add (T 11) (T 14)),
        i_ 16 (.sb .add (T 15) (KS [35])),
        i_ 17 (.faddr 3 (T 1)),
        i_ 18 (.ld1 (T 17)),
        i_ 19 (.sb .add (T 16) (T 18)),
        i_ 2 (.mv (T 19))])
      .ret)))
def m48 : MF := ⟨20, [(.tmp 2)], c48⟩
theorem r48 : resF Try.prog Try.f48 = some m48 := by kernel_rfl
theorem k48 : Callable Try.prog 48 := ⟨_, Try.func48, by kernel_rfl, by kernel_rfl⟩

def c49 : MC :=
   (.seq
    (.ops [i_ 1 (.box 54 (T 0)),
      i_ 2 (.mv (KS []))])
    (.seq
     (.dops <|
       .op 0 (i_ 3 (.faddr 0 (T 1))) <|
       .op 1 (i_ 4 (.faddr 0 (T 3))) <|
       .op 2 (i_ 5 (.ld1 (T 4))) <|
       .op 3 (i_ 6 (.sb .add (T 5) (KS [58]))) <|
       .op 4 (i_ 7 (.faddr 0 (T 1))) <|
       .op 5 (i_ 8 (.faddr 1 (T 7))) <|
       .op 6 (i_ 9 (.ld1 (T 8))) <|
       .op 7 (i_ 10 (.sb .add (T 6) (T 9))) <|
       .op 8 (i_ 11 (.sb .add (T 10) (KS [35]))) <|
       .op 9 (i_ 12 (.faddr 2 (T 1))) <|
       .op 10 (i_ 13 (.ld1 (T 12))) <|
       .op 11 (i_ 14 (.sb .add (T 11) (T 13))) <|
       .op 12 (i_ 15 (.sb .add (T 14) (KS [64]))) <|
       .op 13 (i_ 16 (.faddr 3 (T 1))) <|
       .op 14 (i_ 17 (.ldN 4 (T 16))) <|
       .op 15 (id_ 18 (.call 48 [(T 17)]) [14]) <|
       .op 16 (i_ 19 (.sb .add (T 15) (T 18))) <|
       .op 17 (i_ 2 (.mv (T 19))) <|
       .nil)
     .ret))
def m49 : MF := ⟨20, [(.tmp 2)], c49⟩
theorem r49 : resF Try.prog Try.f49 = some m49 := by kernel_rfl
theorem k49 : Callable Try.prog 49 := ⟨_, Try.func49, by kernel_rfl, by kernel_rfl⟩

def c50 : MC :=
   (.seq
    (.ops [i_ 1 (.box 42 (T 0)),
      i_ 2 (.mv (KS []))])
    (.seq
     (.seq
      (.ops [i_ 3 (.ldN 2 (T 1)),
        i_ 4 (.call 43 [(T 3)]),
        i_ 5 (.ib .neq (T 4) (KI 0))])
      (.cond (T 5)
       (.seq
        (.ops [i_ 2 (.mv (KS []))])
        .ret)
       .skip))
     (.seq
      (.ops [i_ 6 (.ldN 2 (T 1)),
        i_ 7 (.call 94 [(T 6)]),
        i_ 2 (.mv (T 7))])
      .ret)))
def m50 : MF := ⟨8, [(.tmp 2)], c50⟩
theorem r50 : resF Try.prog Try.f50 = some m50 := by kernel_rfl
theorem k50 : Callable Try.prog 50 := ⟨_, Try.func50, by kernel_rfl, by kernel_rfl⟩

def c51 : MC :=
   (.seq
    (.ops [i_ 1 (.box 48 (T 0)),
      i_ 2 (.mv (KS []))])
    (.seq
     (.seq
      (.ops [i_ 3 (.ldN 4 (T 1)),
        i_ 4 (.call 45 [(T 3)]),
        i_ 5 (.ib .neq (T 4) (KI 0))])
      (.cond (T 5)
       (.seq
        (.ops [i_ 2 (.mv (KS []))])
        .ret)
       .skip))
     (.seq
      (.ops [i_ 6 (.ldN 4 (T 1)),
        i_ 7 (.call 95 [(T 6)]),
        i_ 2 (.mv (T 7))])
      .ret)))
def m51 : MF := ⟨8, [(.tmp 2)], c51⟩
theorem r51 : resF Try.prog Try.f51 = some m51 := by kernel_rfl
theorem k51 : Callable Try.prog 51 := ⟨_, Try.func51, by kernel_rfl, by kernel_rfl⟩

def c85 : MC :=
   (.seq
    (.ops [i_ 4 (.mv (KS [])),
      i_ 5 (.mv (KS [])),
      i_ 6 (.mv (KB false))])
    (.seq
     (.ops [i_ 7 (.mv (T 0)),
       i_ 8 (.mv (T 1)),
       i_ 9 (.call 135 [(T 7), (T 8)]),
       i_ 10 (.ext (T 9) 0),
       i_ 11 (.ext (T 9) 1),
       i_ 12 (.ext (T 9) 2),
       i_ 4 (.mv (T 10)),
       i_ 5 (.mv (T 11)),
       i_ 6 (.mv (T 12))])
     .ret))
def m85 : MF := ⟨13, [(.tmp 4), (.tmp 5), (.tmp 6)], c85⟩
theorem r85 : resF Try.prog Try.f85 = some m85 := by kernel_rfl
theorem k85 : Callable Try.prog 85 := ⟨_, Try.func85, by kernel_rfl, by kernel_rfl⟩

def c86 : MC :=
   (.seq
    (.ops [i_ 4 (.mv (KS [])),
      i_ 5 (.mv (KS [])),
      i_ 6 (.mv (KB false))])
    (.seq
     (.seq
      (.ops [i_ 7 (.mv (KI 0))])
      (.block 0
       (.loop [(8, 14), (14, 26), (4, 8)]
        (.seq
         (.seq
          (.ops [i_ 8 (.mv (T 7)),
            i_ 9 (.mv (T 0)),
            i_ 10 (.lenS (T 9)),
            i_ 11 (.ib .lss (T 8) (T 10))])
          (.cond (T 11)
           .skip
           (.exit 0)))
         (.seq
          (.block 1
           (.seq
            (.ops [i_ 14 (.mv (T 0)),
              i_ 15 (.mv (T 7)),
              i_ 16 (.idx (T 14) (T 15)),
              i_ 17 (.mv (T 1)),
              i_ 18 (.ib .eql (T 16) (T 17))])
            (.cond (T 18)
             (.seq
              (.dops <|
                .op 0 (i_ 19 (.mv (T 0))) <|
                .op 1 (i_ 20 (.mv (T 7))) <|
                .op 2 (i_ 21 (.slS (T 19) none (some (T 20)))) <|
                .op 3 (i_ 22 (.mv (T 0))) <|
                .op 4 (i_ 23 (.mv (T 7))) <|
                .op 5 (i_ 24 (.ib .add (T 23) (KI 1))) <|
                .op 6 (i_ 25 (.slS (T 22) (some (T 24)) none)) <|
                .op 7 (i_ 4 (.mv (T 21))) <|
                .op 8 (i_ 5 (.mv (T 25))) <|
                .op 9 (i_ 6 (.mv (KB true))) <|
                .nil)
              .ret)
             .skip)))
          (.ops [i_ 12 (.mv (T 7)),
            i_ 13 (.ib .add (T 12) (KI 1)),
            i_ 7 (.mv (T 13))]))))))
     (.seq
      (.ops [i_ 26 (.mv (T 0)),
        i_ 4 (.mv (T 26)),
        i_ 5 (.mv (KS [])),
        i_ 6 (.mv (KB false))])
      .ret)))
def m86 : MF := ⟨27, [(.tmp 4), (.tmp 5), (.tmp 6)], c86⟩
theorem r86 : resF Try.prog Try.f86 = some m86 := by kernel_rfl
theorem k86 : Callable Try.prog 86 := ⟨_, Try.func86, by kernel_rfl, by kernel_rfl⟩

def c87 : MC :=
   (.seq
    (.ops [i_ 2 (.alloc 42 [(.string ⟨⟨[]⟩⟩), (.string ⟨⟨[]⟩⟩)]),
      i_ 3 (.mv (KS [])),
      i_ 4 (.mv (KB false))])
    (.seq
     (.ops [i_ 11 (.mv (T 0)),
       i_ 12 (.call 85 [(T 11), (KS [35])]),
       i_ 10 (.mv (T 12)),
       i_ 13 (.ext (T 10) 0),
       i_ 14 (.ext (T 10) 1),
       i_ 15 (.ext (T 10) 2),
       i_ 5 (.mv (T 13)),
       i_ 6 (.mv (T 14)),
       i_ 7 (.mv (T 15))])
     (.seq
      (.ops [i_ 17 (.mv (T 5)),
        i_ 18 (.call 29 [(T 17)]),
        i_ 16 (.mv (T 18)),
        i_ 19 (.ext (T 16) 0),
        i_ 20 (.ext (T 16) 1),
        i_ 8 (.alloc 42 [(.string ⟨⟨[]⟩⟩), (.string ⟨⟨[]⟩⟩)]),
        n_ (.st 2 (T 8) (T 19)),
        i_ 9 (.mv (T 20))])
      (.seq
       (.dops <|
         .op 0 (i_ 21 (.ldN 2 (T 8))) <|
         .op 1 (i_ 22 (.mv (T 6))) <|
         .op 2 (i_ 23 (.mv (T 7))) <|
         .op 3 (i_ 24 (.mv (T 23))) <|
         .op 4 (ig 25 24 true (.mv (T 9))) <|
         .op 5 (ig 26 24 true (.ib .eql (T 25) (KI 0))) <|
         .op 6 (i_ 27 (.pick (T 24) (T 26) (KB false))) <|
         .op 7 (i_ 28 (.mv (T 27))) <|
         .op 8 (ig 29 28 true (.mv (T 6))) <|
         .op 9 (ig 30 28 true (.call 37 [(T 29)])) <|
         .op 10 (i_ 31 (.pick (T 28) (T 30) (KB false))) <|
         .op 11 (nd_ (.st 2 (T 2) (T 21)) [0]) <|
         .op 12 (i_ 3 (.mv (T 22))) <|
         .op 13 (i_ 4 (.mv (T 31))) <|
         .nil)
       .ret))))
def m87 : MF := ⟨32, [(.cell 2 2), (.tmp 3), (.tmp 4)], c87⟩
theorem r87 : resF Try.prog Try.f87 = some m87 := by kernel_rfl
theorem k87 : Callable Try.prog 87 := ⟨_, Try.func87, by kernel_rfl, by kernel_rfl⟩

def c88 : MC :=
   (.seq
    (.ops [i_ 4 (.mv (KB false))])
    (.seq
     (.seq
      (.ops [i_ 6 (.mv (T 0)),
        i_ 7 (.lenS (T 6)),
        i_ 8 (.mv (KI 0))])
      (.block 0
       (.loop [(9, 18), (5, 6), (4, 5), (8, 9)]
        (.seq
         (.ops [i_ 9 (.ib .lss (T 8) (T 7))])
         (.seq
          (.cond (T 9)
           .skip
           (.exit 0))
          (.seq
           (.block 1
            (.seq
             (.ops [i_ 10 (.mv (T 8)),
               i_ 5 (.mv (T 10))])
             (.seq
              (.ops [i_ 11 (.mv (T 1)),
                i_ 12 (.mv (T 0)),
                i_ 13 (.mv (T 5)),
                i_ 14 (.idx (T 12) (T 13)),
                i_ 15 (.callv (T 11) [(T 14)]),
                i_ 16 (.not (T 15))])
              (.cond (T 16)
               (.seq
                (.ops [i_ 4 (.mv (KB false))])
                .ret)
               .skip))))
           (.ops [i_ 17 (.ib .add (T 8) (KI 1)),
             i_ 8 (.mv (T 17))])))))))
     (.seq
      (.ops [i_ 18 (.mv (T 0)),
        i_ 19 (.lenS (T 18)),
        i_ 20 (.ib .geq (T 19) (KI 1)),
        i_ 21 (.mv (T 20)),
        ig 22 21 true (.mv (T 0)),
        ig 23 21 true (.lenS (T 22)),
        ig 24 21 true (.ib .leq (T 23) (KI 32)),
        i_ 25 (.pick (T 21) (T 24) (KB false)),
        i_ 4 (.mv (T 25))])
      .ret)))
def m88 : MF := ⟨26, [(.tmp 4)], c88⟩
theorem r88 : resF Try.prog Try.f88 = some m88 := by kernel_rfl
theorem k88 : Callable Try.prog 88 := ⟨_, Try.func88, by kernel_rfl, by kernel_rfl⟩

def c89 : MC :=
   (.seq
    (.ops [i_ 2 (.mv (KB false))])
    (.seq
     (.ops [i_ 3 (.mv (T 0)),
       i_ 4 (.call 90 [(T 3)]),
       i_ 5 (.mv (T 4)),
       ig 6 5 false (.mv (T 0)),
       ig 7 5 false (.call 91 [(T 6)]),
       i_ 8 (.pick (T 5) (KB true) (T 7)),
       i_ 2 (.mv (T 8))])
     .ret))
def m89 : MF := ⟨9, [(.tmp 2)], c89⟩
theorem r89 : resF Try.prog Try.f89 = some m89 := by kernel_rfl
theorem k89 : Callable Try.prog 89 := ⟨_, Try.func89, by kernel_rfl, by kernel_rfl⟩

def c90 : MC :=
   (.seq
    (.ops [i_ 2 (.mv (KB false))])
    (.seq
     (.ops [i_ 3 (.mv (T 0)),
       i_ 4 (.ib .geq (T 3) (KU 97)),
       i_ 5 (.mv (T 4)),
       ig 6 5 true (.mv (T 0)),
       ig 7 5 true (.ib .leq (T 6) (KU 122)),
       i_ 8 (.pick (T 5) (T 7) (KB false)),
       i_ 2 (.mv (T 8))])
     .ret))
def m90 : MF := ⟨9, [(.tmp 2)], c90⟩
theorem r90 : resF Try.prog Try.f90 = some m90 := by kernel_rfl
theorem k90 : Callable Try.prog 90 := ⟨_, Try.func90, by kernel_rfl, by kernel_rfl⟩

def c91 : MC :=
   (.seq
    (.ops [i_ 2 (.mv (KB false))])
    (.seq
     (.ops [i_ 3 (.mv (T 0)),
       i_ 4 (.ib .geq (T 3) (KU 48)),
       i_ 5 (.mv (T 4)),
       ig 6 5 true (.mv (T 0)),
       ig 7 5 true (.ib .leq (T 6) (KU 57)),
       i_ 8 (.pick (T 5) (T 7) (KB false)),
       i_ 9 (.mv (T 8)),
       ig 10 9 false (.mv (T 0)),
       ig 11 9 false (.ib .eql (T 10) (KU 95)),
       i_ 12 (.pick (T 9) (KB true) (T 11)),
       i_ 2 (.mv (T 12))])
     .ret))
def m91 : MF := ⟨13, [(.tmp 2)], c91⟩
theorem r91 : resF Try.prog Try.f91 = some m91 := by kernel_rfl
theorem k91 : Callable Try.prog 91 := ⟨_, Try.func91, by kernel_rfl, by kernel_rfl⟩

def c92 : MC :=
   (.seq
    (.ops [i_ 2 (.mv (KB false))])
    (.seq
     (.ops [i_ 3 (.mv (T 0)),
       i_ 4 (.call 90 [(T 3)]),
       i_ 5 (.mv (T 4)),
       ig 6 5 false (.mv (T 0)),
       ig 7 5 false (.call 91 [(T 6)]),
       i_ 8 (.pick (T 5) (KB true) (T 7)),
       i_ 9 (.mv (T 8)),
       ig 10 9 false (.mv (T 0)),
       ig 11 9 false (.ib .geq (T 10) (KU 65)),
       ig 12 9 false (.mv (T 11)),
       ig 13 12 true (.mv (T 0)),
       ig 14 12 true (.ib .leq (T 13) (KU 90)),
       ig 15 9 false (.pick (T 12) (T 14) (KB false)),
       i_ 16 (.pick (T 9) (KB true) (T 15)),
       i_ 17 (.mv (T 16)),
       ig 18 17 false (.mv (T 0)),
       ig 19 17 false (.ib .eql (T 18) (KU 46)),
       i_ 20 (.pick (T 17) (KB true) (T 19)),
       i_ 21 (.mv (T 20)),
       ig 22 21 false (.mv (T 0)),
       ig 23 21 false (.ib .eql (T 22) (KU 45)),
       i_ 24 (.pick (T 21) (KB true) (T 23)),
       i_ 2 (.mv (T 24))])
     .ret))
def m92 : MF := ⟨25, [(.tmp 2)], c92⟩
theorem r92 : resF Try.prog Try.f92 = some m92 := by kernel_rfl
theorem k92 : Callable Try.prog 92 := ⟨_, Try.func92, by kernel_rfl, by kernel_rfl⟩

def c93 : MC :=
   (.seq
    (.ops [i_ 2 (.mv (KI 0))])
    (.seq
     (.seq
      (.ops [i_ 3 (.mv (T 0))])
      (.cond (T 3)
       (.seq
        (.ops [i_ 2 (.mv (KI 0))])
        .ret)
       .skip))
     (.seq
      (.ops [i_ 2 (.mv (KI 9))])
      .ret)))
def m93 : MF := ⟨4, [(.tmp 2)], c93⟩
theorem r93 : resF Try.prog Try.f93 = some m93 := by kernel_rfl
theorem k93 : Callable Try.prog 93 := ⟨_, Try.func93, by kernel_rfl, by kernel_rfl⟩

def c94 : MC :=
   (.seq
    (.ops [i_ 1 (.box 42 (T 0)),
      i_ 2 (.mv (KS []))])
    (.seq
     (.ops [i_ 3 (.faddr 0 (T 1)),
       i_ 4 (.ld1 (T 3)),
       i_ 5 (.sb .add (T 4) (KS [58])),
       i_ 6 (.faddr 1 (T 1)),
       i_ 7 (.ld1 (T 6)),
       i_ 8 (.sb .add (T 5) (T 7)),
       i_ 2 (.mv (T 8))])
     .ret))
def m94 : MF := ⟨9, [(.tmp 2)], c94⟩
theorem r94 : resF Try.prog Try.f94 = some m94 := by kernel_rfl
theorem k94 : Callable Try.prog 94 := ⟨_, Try.func94, by kernel_rfl, by kernel_rfl⟩

def c95 : MC :=
   (.seq
    (.ops [i_ 1 (.box 48 (T 0)),
      i_ 2 (.mv (KS []))])
    (.seq
     (.seq
      (.ops [i_ 3 (.faddr 0 (T 1)),
        i_ 4 (.ld1 (T 3)),
        i_ 5 (.sb .neq (T 4) (KS []))])
      (.cond (T 5)
       (.seq
        (.ops [i_ 6 (.faddr 0 (T 1)),
          i_ 7 (.ld1 (T 6)),
          i_ 2 (.mv (T 7))])
        .ret)
       .skip))
     (.seq
      (.dops <|
        .op 0 (i_ 8 (.faddr 1 (T 1))) <|
        .op 1 (i_ 9 (.ldN 2 (T 8))) <|
        .op 4 (i_ 12 (.faddr 3 (T 1))) <|
        .op 5 (i_ 13 (.ld1 (T 12))) <|
        .op 2 (id_ 10 (.call 94 [(T 9)]) [1]) <|
        .op 3 (i_ 11 (.sb .add (T 10) (KS [35]))) <|
        .op 6 (i_ 14 (.sb .add (T 11) (T 13))) <|
        .op 7 (i_ 2 (.mv (T 14))) <|
        .nil)
      .ret)))
def m95 : MF := ⟨15, [(.tmp 2)], c95⟩
theorem r95 : resF Try.prog Try.f95 = some m95 := by kernel_rfl
theorem k95 : Callable Try.prog 95 := ⟨_, Try.func95, by kernel_rfl, by kernel_rfl⟩

def c135 : MC :=
   (.seq
    (.ops [i_ 4 (.mv (KS [])),
      i_ 5 (.mv (KS [])),
      i_ 6 (.mv (KB false))])
    (.seq
     (.seq
      (.ops [i_ 8 (.mv (T 0)),
        i_ 9 (.mv (T 1)),
        i_ 10 (.call 162 [(T 8), (T 9)]),
        i_ 7 (.mv (T 10))])
      (.seq
       (.ops [i_ 11 (.mv (T 7)),
         i_ 12 (.ib .geq (T 11) (KI 0))])
       (.cond (T 12)
        (.seq
         (.dops <|
           .op 0 (i_ 13 (.mv (T 0))) <|
           .op 1 (i_ 14 (.mv (T 7))) <|
           .op 2 (i_ 15 (.slS (T 13) none (some (T 14)))) <|
           .op 3 (i_ 16 (.mv (T 0))) <|
           .op 4 (i_ 17 (.mv (T 7))) <|
           .op 5 (i_ 18 (.mv (T 1))) <|
           .op 6 (i_ 19 (.lenS (T 18))) <|
           .op 7 (i_ 20 (.ib .add (T 17) (T 19))) <|
           .op 8 (i_ 21 (.slS (T 16) (some (T 20)) none)) <|
           .op 9 (i_ 4 (.mv (T 15))) <|
           .op 10 (i_ 5 (.mv (T 21))) <|
           .op 11 (i_ 6 (.mv (KB true))) <|
           .nil)
         .ret)
        .skip)))
     (.seq
      (.ops [i_ 22 (.mv (T 0)),
        i_ 4 (.mv (T 22)),
        i_ 5 (.mv (KS [])),
        i_ 6 (.mv (KB false))])
      .ret)))
def m135 : MF := ⟨23, [(.tmp 4), (.tmp 5), (.tmp 6)], c135⟩
theorem r135 : resF Try.prog Try.f135 = some m135 := by kernel_rfl
theorem k135 : Callable Try.prog 135 := ⟨_, Try.func135, by kernel_rfl, by kernel_rfl⟩

end Go.Proofs.Ytcgbcbdgjhnlaaa
