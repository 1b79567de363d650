/- Functions of the program, resolved: made by a program of ours; each is checked by the kernel. -/
import Derived.Test.YtcgbcbdgjhnlaaaPB
namespace Go.Proofs.Ytcgbcbdgjhnlaaa
def c61 : MC :=
   (.seq
    (.ops [i_ 1 (.box 74 (T 0)),
      i_ 2 (.mv (KS [])),
      i_ 3 (.mv (KI 0))])
    (.seq
     (.seq
      (.ops [i_ 11 (.ldN 2 (T 1)),
        i_ 12 (.call 55 [(T 11)]),
        i_ 13 (.not (T 12))])
      (.cond (T 13)
       (.seq
        (.ops [i_ 2 (.mv (KS [])),
          i_ 3 (.mv (KI 4))])
        .ret)
       .skip))
     (.seq
      (.ops [i_ 4 (.raw ⟨(some 4), (.alloc 174), 0, "show.go:117", ⟨[]⟩, none⟩)])
      (.seq
       (.seq
        (.ops [i_ 14 (.faddr 0 (T 1)),
          i_ 15 (.ld1 (T 14)),
          i_ 16 (.lenV (T 15)),
          i_ 17 (.mv (KI 0))])
        (.block 0
         (.loop [(18, 39), (6, 7), (8, 9), (17, 18)]
          (.seq
           (.ops [i_ 18 (.ib .lss (T 17) (T 16))])
           (.seq
            (.cond (T 18)
             .skip
             (.exit 0))
            (.seq
             (.block 1
              (.seq
               (.ops [i_ 19 (.iaddr 2 (T 15) (T 17)),
                 i_ 20 (.ldN 2 (T 19)),
                 i_ 6 (.alloc 83 [(.string ⟨⟨[]⟩⟩), (.slice none 0 0)]),
                 n_ (.st 2 (T 6) (T 20))])
               (.seq
                (.ops [i_ 21 (.faddr 0 (T 6)),
                  i_ 22 (.ld1 (T 21)),
                  i_ 23 (.sb .add (KS [110, 97, 109, 101, 115, 112, 97, 99, 101, 32]) (T 22)),
                  i_ 24 (.sb .add (T 23) (KS [32, 123, 10])),
                  i_ 25 (.call 110 [(T 4), (T 24)])])
                (.seq
                 (.seq
                  (.ops [i_ 26 (.faddr 1 (T 6)),
                    i_ 27 (.ld1 (T 26)),
                    i_ 28 (.lenV (T 27)),
                    i_ 29 (.mv (KI 0))])
                  (.block 2
                   (.loop [(30, 37), (8, 9), (29, 30)]
                    (.seq
                     (.ops [i_ 30 (.ib .lss (T 29) (T 28))])
                     (.seq
                      (.cond (T 30)
                       .skip
                       (.exit 2))
                      (.seq
                       (.block 3
                        (.seq
                         (.ops [i_ 31 (.iaddr 3 (T 27) (T 29)),
                           i_ 32 (.ldN 3 (T 31)),
                           i_ 8 (.alloc 88 [(.string ⟨⟨[]⟩⟩), (.slice none 0 0), (.slice none 0 0)]),
                           n_ (.st 3 (T 8) (T 32))])
                         (.ops [i_ 33 (.ldN 3 (T 8)),
                           i_ 34 (.call 111 [(T 33)]),
                           i_ 35 (.call 110 [(T 4), (T 34)])])))
                       (.ops [i_ 36 (.ib .add (T 29) (KI 1)),
                         i_ 29 (.mv (T 36))])))))))
                 (.ops [i_ 37 (.call 110 [(T 4), (KS [125, 10])])])))))
             (.ops [i_ 38 (.ib .add (T 17) (KI 1)),
               i_ 17 (.mv (T 38))])))))))
       (.seq
        (.seq
         (.ops [i_ 39 (.faddr 1 (T 1)),
           i_ 40 (.ld1 (T 39)),
           i_ 41 (.lenV (T 40)),
           i_ 42 (.mv (KI 0))])
         (.block 4
          (.loop [(43, 55), (10, 11), (55, 61), (42, 43)]
           (.seq
            (.ops [i_ 43 (.ib .lss (T 42) (T 41))])
            (.seq
             (.cond (T 43)
              .skip
              (.exit 4))
             (.seq
              (.block 5
               (.seq
                (.ops [i_ 44 (.iaddr 4 (T 40) (T 42)),
                  i_ 45 (.ldN 4 (T 44)),
                  i_ 10 (.alloc 163 [(.string ⟨⟨[]⟩⟩), (.string ⟨⟨[]⟩⟩), (.string ⟨⟨[]⟩⟩), (.string ⟨⟨[]⟩⟩)]),
                  n_ (.st 4 (T 10) (T 45))])
                (.dops <|
                  .op 0 (i_ 46 (.faddr 0 (T 10))) <|
                  .op 1 (i_ 47 (.ld1 (T 46))) <|
                  .op 2 (i_ 48 (.sb .add (KS [115, 99, 111, 112, 101, 32]) (T 47))) <|
                  .op 3 (i_ 49 (.sb .add (T 48) (KS [32, 61, 32, 34]))) <|
                  .op 4 (i_ 50 (.faddr 1 (T 10))) <|
                  .op 5 (i_ 51 (.ldN 2 (T 50))) <|
                  .op 9 (i_ 55 (.faddr 3 (T 10))) <|
                  .op 10 (i_ 56 (.ld1 (T 55))) <|
                  .op 6 (id_ 52 (.call 50 [(T 51)]) [5]) <|
                  .op 7 (i_ 53 (.sb .add (T 49) (T 52))) <|
                  .op 8 (i_ 54 (.sb .add (T 53) (KS [35]))) <|
                  .op 11 (i_ 57 (.sb .add (T 54) (T 56))) <|
                  .op 12 (i_ 58 (.sb .add (T 57) (KS [34, 59, 10]))) <|
                  .op 13 (id_ 59 (.call 110 [(T 4), (T 58)]) [10, 5, 1]) <|
                  .nil)))
              (.ops [i_ 60 (.ib .add (T 42) (KI 1)),
                i_ 42 (.mv (T 60))])))))))
        (.seq
         (.seq
          (.ops [i_ 61 (.call 112 [(T 4)]),
            i_ 62 (.ib .gtr (T 61) (KI 16384)),
            i_ 63 (.mv (T 62)),
            ig 64 63 false (.call 114 [(T 4)]),
            ig 65 63 false (.call 113 [(T 64)]),
            ig 66 63 false (.ib .gtr (T 65) (KI 16)),
            i_ 67 (.pick (T 63) (KB true) (T 66))])
          (.cond (T 67)
           (.seq
            (.ops [i_ 2 (.mv (KS [])),
              i_ 3 (.mv (KI 5))])
            .ret)
           .skip))
         (.seq
          (.ops [i_ 68 (.call 114 [(T 4)]),
            i_ 2 (.mv (T 68)),
            i_ 3 (.mv (KI 0))])
          .ret)))))))
def m61 : MF := ⟨69, [(.tmp 2), (.tmp 3)], c61⟩
theorem r61 : resF Try.prog Try.f61 = some m61 := by kernel_rfl
theorem k61 : Callable Try.prog 61 := ⟨_, Try.func61, by kernel_rfl, by kernel_rfl⟩

def c15 : MC :=
   (.seq
    (.ops [i_ 2 (.box 74 (T 0)),
      i_ 4 (.mv (KB false))])
    (.seq
     (.ops [i_ 15 (.ldN 2 (T 2)),
       i_ 16 (.call 60 [(T 15)]),
       i_ 17 (.mv (T 1)),
       i_ 18 (.call 21 [(T 17), (KI 900)]),
       n_ (.st 2 (T 2) (T 16)),
       i_ 1 (.mv (T 18))])
     (.seq
      (.ops [i_ 20 (.ldN 2 (T 2)),
        i_ 21 (.call 61 [(T 20)]),
        i_ 19 (.mv (T 21)),
        i_ 22 (.ext (T 19) 0),
        i_ 23 (.ext (T 19) 1),
        i_ 5 (.mv (T 22)),
        i_ 6 (.mv (T 23))])
      (.seq
       (.seq
        (.ops [i_ 24 (.mv (T 6)),
          i_ 25 (.ib .eql (T 24) (KI 0))])
        (.cond (T 25)
         (.seq
          (.ops [i_ 27 (.mv (T 5)),
            i_ 28 (.call 52 [(T 27)]),
            i_ 26 (.mv (T 28)),
            i_ 29 (.ext (T 26) 0),
            i_ 30 (.ext (T 26) 1),
            i_ 7 (.alloc 74 [(.slice none 0 0), (.slice none 0 0)]),
            n_ (.st 2 (T 7) (T 29)),
            i_ 8 (.mv (T 30))])
          (.seq
           (.ops [i_ 31 (.mv (T 8)),
             i_ 32 (.ib .neq (T 31) (KI 0)),
             i_ 33 (.mv (T 32)),
             ig 34 33 false (.ldN 2 (T 2)),
             ig 35 33 false (.ldN 2 (T 7)),
             ig 36 33 false (.call 54 [(T 34), (T 35)]),
             ig 37 33 false (.not (T 36)),
             i_ 38 (.pick (T 33) (KB true) (T 37))])
           (.cond (T 38)
            (.seq
             (.ops [i_ 4 (.mv (KB false))])
             .ret)
            .skip)))
         .skip))
       (.seq
        (.ops [i_ 40 (.mv (T 1)),
          i_ 41 (.call 52 [(T 40)]),
          i_ 39 (.mv (T 41)),
          i_ 42 (.ext (T 39) 0),
          i_ 43 (.ext (T 39) 1),
          i_ 9 (.alloc 74 [(.slice none 0 0), (.slice none 0 0)]),
          n_ (.st 2 (T 9) (T 42)),
          i_ 10 (.mv (T 43))])
        (.seq
         (.seq
          (.ops [i_ 44 (.mv (T 10)),
            i_ 45 (.ib .neq (T 44) (KI 0))])
          (.cond (T 45)
           (.seq
            (.ops [i_ 46 (.call 58 []),
              i_ 4 (.mv (T 46))])
            .ret)
           .skip))
         (.seq
          (.ops [i_ 48 (.ldN 2 (T 9)),
            i_ 49 (.call 61 [(T 48)]),
            i_ 47 (.mv (T 49)),
            i_ 50 (.ext (T 47) 0),
            i_ 51 (.ext (T 47) 1),
            i_ 11 (.mv (T 50)),
            i_ 12 (.mv (T 51))])
          (.seq
           (.ops [i_ 53 (.mv (T 11)),
             i_ 54 (.call 52 [(T 53)]),
             i_ 52 (.mv (T 54)),
             i_ 55 (.ext (T 52) 0),
             i_ 56 (.ext (T 52) 1),
             i_ 13 (.alloc 74 [(.slice none 0 0), (.slice none 0 0)]),
             n_ (.st 2 (T 13) (T 55)),
             i_ 14 (.mv (T 56))])
           (.seq
            (.ops [i_ 57 (.mv (T 12)),
              i_ 58 (.ib .eql (T 57) (KI 0)),
              i_ 59 (.mv (T 58)),
              ig 60 59 true (.mv (T 14)),
              ig 61 59 true (.ib .eql (T 60) (KI 0)),
              i_ 62 (.pick (T 59) (T 61) (KB false)),
              i_ 63 (.mv (T 62)),
              ig 64 63 true (.ldN 2 (T 9)),
              ig 65 63 true (.ldN 2 (T 13)),
              ig 66 63 true (.call 54 [(T 64), (T 65)]),
              i_ 67 (.pick (T 63) (T 66) (KB false)),
              i_ 68 (.mv (T 67)),
              ig 69 68 true (.call 58 []),
              i_ 70 (.pick (T 68) (T 69) (KB false)),
              i_ 4 (.mv (T 70))])
            .ret)))))))))
def m15 : MF := ⟨71, [(.tmp 4)], c15⟩
theorem r15 : resF Try.prog Try.f15 = some m15 := by kernel_rfl
theorem k15 : Callable Try.prog 15 := ⟨_, Try.func15, by kernel_rfl, by kernel_rfl⟩

end Go.Proofs.Ytcgbcbdgjhnlaaa
