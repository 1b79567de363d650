/- Functions of the program, resolved: made by a program of ours; each is checked by the kernel. -/
import Derived.Test.YtkhgmmejgikgnaaDoorPB
namespace Go.Proofs.YtkhgmmejgikgnaaDoor
def c53 : MC :=
   (.seq
    (.ops [i_ 2 (.mv (.const (.slice none 0 0)))])
    (.seq
     (.ops [i_ 3 (.mv (.const (.slice none 0 0)))])
     (.seq
      (.seq
       (.ops [i_ 6 (.mv (T 0)),
         i_ 7 (.call 57 [(T 6), (KS [38])]),
         i_ 8 (.lenV (T 7)),
         i_ 9 (.mv (KI 0))])
       (.block 0
        (.loop [(10, 20), (5, 6), (3, 4), (9, 10)]
         (.seq
          (.ops [i_ 10 (.ib .lss (T 9) (T 8))])
          (.seq
           (.cond (T 10)
            .skip
            (.exit 0))
           (.seq
            (.block 1
             (.seq
              (.ops [i_ 11 (.iaddr 1 (T 7) (T 9)),
                i_ 12 (.ld1 (T 11)),
                i_ 5 (.mv (T 12))])
              (.seq
               (.ops [i_ 13 (.mv (T 5)),
                 i_ 14 (.sb .neq (T 13) (KS []))])
               (.cond (T 14)
                (.ops [i_ 15 (.mv (T 3)),
                  i_ 16 (.mv (T 5)),
                  i_ 17 (.bslice 9 [(.string ⟨⟨[]⟩⟩)] 1 1 [(0, (1, (T 16)))]),
                  i_ 18 (.append 9 1 16 (T 15) (T 17)),
                  i_ 3 (.mv (T 18))])
                .skip))))
            (.ops [i_ 19 (.ib .add (T 9) (KI 1)),
              i_ 9 (.mv (T 19))])))))))
      (.seq
       (.ops [i_ 20 (.mv (T 3)),
         i_ 2 (.mv (T 20))])
       .ret))))
def m53 : MF := ⟨21, [(.tmp 2)], c53⟩
theorem r53 : resF Tryd.prog Tryd.f53 = some m53 := by kernel_rfl
theorem k53 : Callable Tryd.prog 53 := ⟨_, Tryd.func53, by kernel_rfl, by kernel_rfl⟩

def c15 : MC :=
   (.seq
    (.ops [i_ 2 (.mv (.const (.slice none 0 0))),
      i_ 3 (.mv (KI 0))])
    (.seq
     (.ops [i_ 15 (.mv (T 0)),
       i_ 16 (.call 53 [(T 15)]),
       i_ 4 (.mv (T 16))])
     (.seq
      (.seq
       (.ops [i_ 17 (.mv (T 4)),
         i_ 18 (.lenV (T 17)),
         i_ 19 (.ib .gtr (T 18) (KI 64))])
       (.cond (T 19)
        (.seq
         (.ops [i_ 2 (.mv (.const (.slice none 0 0))),
           i_ 3 (.mv (KI 25))])
         .ret)
        .skip))
      (.seq
       (.ops [i_ 5 (.mv (.const (.slice none 0 0)))])
       (.seq
        (.seq
         (.ops [i_ 20 (.mv (T 4)),
           i_ 21 (.lenV (T 20)),
           i_ 22 (.mv (KI 0))])
         (.block 0
          (.loop [(23, 27), (7, 15), (27, 33), (33, 38), (38, 55), (2, 4), (5, 6), (22, 23)]
           (.seq
            (.ops [i_ 23 (.ib .lss (T 22) (T 21))])
            (.seq
             (.cond (T 23)
              .skip
              (.exit 0))
             (.seq
              (.block 1
               (.seq
                (.ops [i_ 24 (.iaddr 1 (T 20) (T 22)),
                  i_ 25 (.ld1 (T 24)),
                  i_ 7 (.mv (T 25))])
                (.seq
                 (.ops [i_ 27 (.mv (T 7)),
                   i_ 28 (.call 54 [(T 27), (KS [61])]),
                   i_ 26 (.mv (T 28)),
                   i_ 29 (.ext (T 26) 0),
                   i_ 30 (.ext (T 26) 1),
                   i_ 31 (.ext (T 26) 2),
                   i_ 8 (.mv (T 29)),
                   i_ 9 (.mv (T 30)),
                   i_ 10 (.mv (T 31))])
                 (.seq
                  (.ops [i_ 33 (.mv (T 8)),
                    i_ 34 (.call 22 [(T 33), (KB true)]),
                    i_ 32 (.mv (T 34)),
                    i_ 35 (.ext (T 32) 0),
                    i_ 36 (.ext (T 32) 1),
                    i_ 11 (.mv (T 35)),
                    i_ 12 (.mv (T 36))])
                  (.seq
                   (.ops [i_ 38 (.mv (T 9)),
                     i_ 39 (.call 22 [(T 38), (KB true)]),
                     i_ 37 (.mv (T 39)),
                     i_ 40 (.ext (T 37) 0),
                     i_ 41 (.ext (T 37) 1),
                     i_ 13 (.mv (T 40)),
                     i_ 14 (.mv (T 41))])
                   (.seq
                    (.seq
                     (.ops [i_ 42 (.mv (T 12)),
                       i_ 43 (.ib .neq (T 42) (KI 0)),
                       i_ 44 (.mv (T 43)),
                       ig 45 44 false (.mv (T 14)),
                       ig 46 44 false (.ib .neq (T 45) (KI 0)),
                       i_ 47 (.pick (T 44) (KB true) (T 46))])
                     (.cond (T 47)
                      (.seq
                       (.ops [i_ 2 (.mv (.const (.slice none 0 0))),
                         i_ 3 (.mv (KI 4))])
                       .ret)
                      .skip))
                    (.ops [i_ 48 (.mv (T 5)),
                      i_ 49 (.mv (T 11)),
                      i_ 50 (.mv (T 13)),
                      i_ 51 (.build [(.string ⟨⟨[]⟩⟩), (.string ⟨⟨[]⟩⟩)] [(0, (1, (T 49))), (1, (1, (T 50)))]),
                      i_ 52 (.bslice 71 [(.string ⟨⟨[]⟩⟩), (.string ⟨⟨[]⟩⟩)] 1 2 [(0, (2, (T 51)))]),
                      i_ 53 (.append 71 2 32 (T 48) (T 52)),
                      i_ 5 (.mv (T 53))])))))))
              (.ops [i_ 54 (.ib .add (T 22) (KI 1)),
                i_ 22 (.mv (T 54))])))))))
        (.seq
         (.ops [i_ 55 (.mv (T 5)),
           i_ 2 (.mv (T 55)),
           i_ 3 (.mv (KI 0))])
         .ret))))))
def m15 : MF := ⟨56, [(.tmp 2), (.tmp 3)], c15⟩
theorem r15 : resF Tryd.prog Tryd.f15 = some m15 := by kernel_rfl
theorem k15 : Callable Tryd.prog 15 := ⟨_, Tryd.func15, by kernel_rfl, by kernel_rfl⟩

def c55 : MC :=
   (.seq
    (.ops [i_ 4 (.mv (.const (.slice none 0 0)))])
    (.seq
     (.ops [i_ 5 (.mv (.const (.slice none 0 0)))])
     (.seq
      (.ops [i_ 6 (.mv (KI 0))])
      (.seq
       (.seq
        (.ops [i_ 7 (.mv (KI 0))])
        (.block 0
         (.loop [(8, 14), (14, 34), (5, 8)]
          (.seq
           (.seq
            (.ops [i_ 8 (.mv (T 7)),
              i_ 9 (.mv (T 0)),
              i_ 10 (.lenS (T 9)),
              i_ 11 (.ib .leq (T 8) (T 10))])
            (.cond (T 11)
             .skip
             (.exit 0)))
           (.seq
            (.block 1
             (.seq
              (.ops [i_ 14 (.mv (T 7)),
                i_ 15 (.mv (T 0)),
                i_ 16 (.lenS (T 15)),
                i_ 17 (.ib .eql (T 14) (T 16)),
                i_ 18 (.mv (T 17)),
                ig 19 18 false (.mv (T 0)),
                ig 20 18 false (.mv (T 7)),
                ig 21 18 false (.idx (T 19) (T 20)),
                ig 22 18 false (.mv (T 1)),
                ig 23 18 false (.ib .eql (T 21) (T 22)),
                i_ 24 (.pick (T 18) (KB true) (T 23))])
              (.cond (T 24)
               (.seq
                (.ops [i_ 25 (.mv (T 5)),
                  i_ 26 (.mv (T 0)),
                  i_ 27 (.mv (T 6)),
                  i_ 28 (.mv (T 7)),
                  i_ 29 (.slS (T 26) (some (T 27)) (some (T 28))),
                  i_ 30 (.bslice 9 [(.string ⟨⟨[]⟩⟩)] 1 1 [(0, (1, (T 29)))]),
                  i_ 31 (.append 9 1 16 (T 25) (T 30)),
                  i_ 5 (.mv (T 31))])
                (.ops [i_ 32 (.mv (T 7)),
                  i_ 33 (.ib .add (T 32) (KI 1)),
                  i_ 6 (.mv (T 33))]))
               .skip)))
            (.ops [i_ 12 (.mv (T 7)),
              i_ 13 (.ib .add (T 12) (KI 1)),
              i_ 7 (.mv (T 13))]))))))
       (.seq
        (.ops [i_ 34 (.mv (T 5)),
          i_ 4 (.mv (T 34))])
        .ret)))))
def m55 : MF := ⟨35, [(.tmp 4)], c55⟩
theorem r55 : resF Tryd.prog Tryd.f55 = some m55 := by kernel_rfl
theorem k55 : Callable Tryd.prog 55 := ⟨_, Tryd.func55, by kernel_rfl, by kernel_rfl⟩

def c16 : MC :=
   (.seq
    (.ops [i_ 2 (.mv (.const (.slice none 0 0))),
      i_ 3 (.mv (KI 0))])
    (.seq
     (.ops [i_ 4 (.mv (.const (.slice none 0 0)))])
     (.seq
      (.ops [i_ 15 (.mv (T 0)),
        i_ 16 (.call 55 [(T 15), (KU 38)]),
        i_ 5 (.mv (T 16))])
      (.seq
       (.seq
        (.ops [i_ 6 (.mv (KI 0))])
        (.block 0
         (.loop [(17, 23), (23, 35), (4, 5), (6, 7)]
          (.seq
           (.seq
            (.ops [i_ 17 (.mv (T 6)),
              i_ 18 (.mv (T 5)),
              i_ 19 (.lenV (T 18)),
              i_ 20 (.ib .lss (T 17) (T 19))])
            (.cond (T 20)
             .skip
             (.exit 0)))
           (.seq
            (.block 1
             (.seq
              (.ops [i_ 23 (.mv (T 5)),
                i_ 24 (.mv (T 6)),
                i_ 25 (.iaddr 1 (T 23) (T 24)),
                i_ 26 (.ld1 (T 25)),
                i_ 27 (.sb .neq (T 26) (KS []))])
              (.cond (T 27)
               (.ops [i_ 28 (.mv (T 4)),
                 i_ 29 (.mv (T 5)),
                 i_ 30 (.mv (T 6)),
                 i_ 31 (.iaddr 1 (T 29) (T 30)),
                 i_ 32 (.ld1 (T 31)),
                 i_ 33 (.bslice 9 [(.string ⟨⟨[]⟩⟩)] 1 1 [(0, (1, (T 32)))]),
                 i_ 34 (.append 9 1 16 (T 28) (T 33)),
                 i_ 4 (.mv (T 34))])
               .skip)))
            (.ops [i_ 21 (.mv (T 6)),
              i_ 22 (.ib .add (T 21) (KI 1)),
              i_ 6 (.mv (T 22))]))))))
       (.seq
        (.seq
         (.ops [i_ 35 (.mv (T 4)),
           i_ 36 (.lenV (T 35)),
           i_ 37 (.ib .gtr (T 36) (KI 64))])
         (.cond (T 37)
          (.seq
           (.ops [i_ 2 (.mv (.const (.slice none 0 0))),
             i_ 3 (.mv (KI 25))])
           .ret)
          .skip))
        (.seq
         (.ops [i_ 7 (.mv (.const (.slice none 0 0)))])
         (.seq
          (.seq
           (.ops [i_ 8 (.mv (KI 0))])
           (.block 2
            (.loop [(38, 44), (9, 15), (44, 77), (77, 87), (87, 103), (2, 4), (7, 9)]
             (.seq
              (.seq
               (.ops [i_ 38 (.mv (T 8)),
                 i_ 39 (.mv (T 4)),
                 i_ 40 (.lenV (T 39)),
                 i_ 41 (.ib .lss (T 38) (T 40))])
               (.cond (T 41)
                .skip
                (.exit 2)))
              (.seq
               (.block 3
                (.seq
                 (.ops [i_ 9 (.mv (KI 0))])
                 (.seq
                  (.block 4
                   (.loop [(44, 62), (9, 10)]
                    (.seq
                     (.seq
                      (.ops [i_ 44 (.mv (T 9)),
                        i_ 45 (.mv (T 4)),
                        i_ 46 (.mv (T 8)),
                        i_ 47 (.iaddr 1 (T 45) (T 46)),
                        i_ 48 (.ld1 (T 47)),
                        i_ 49 (.lenS (T 48)),
                        i_ 50 (.ib .lss (T 44) (T 49)),
                        i_ 51 (.mv (T 50)),
                        ig 52 51 true (.mv (T 4)),
                        ig 53 51 true (.mv (T 8)),
                        ig 54 51 true (.iaddr 1 (T 52) (T 53)),
                        ig 55 51 true (.ld1 (T 54)),
                        ig 56 51 true (.mv (T 9)),
                        ig 57 51 true (.idx (T 55) (T 56)),
                        ig 58 51 true (.ib .neq (T 57) (KU 61)),
                        i_ 59 (.pick (T 51) (T 58) (KB false))])
                      (.cond (T 59)
                       .skip
                       (.exit 4)))
                     (.block 5
                      (.ops [i_ 60 (.mv (T 9)),
                        i_ 61 (.ib .add (T 60) (KI 1)),
                        i_ 9 (.mv (T 61))])))))
                  (.seq
                   (.ops [i_ 10 (.mv (KS []))])
                   (.seq
                    (.seq
                     (.ops [i_ 62 (.mv (T 9)),
                       i_ 63 (.mv (T 4)),
                       i_ 64 (.mv (T 8)),
                       i_ 65 (.iaddr 1 (T 63) (T 64)),
                       i_ 66 (.ld1 (T 65)),
                       i_ 67 (.lenS (T 66)),
                       i_ 68 (.ib .lss (T 62) (T 67))])
                     (.cond (T 68)
                      (.ops [i_ 69 (.mv (T 4)),
                        i_ 70 (.mv (T 8)),
                        i_ 71 (.iaddr 1 (T 69) (T 70)),
                        i_ 72 (.ld1 (T 71)),
                        i_ 73 (.mv (T 9)),
                        i_ 74 (.ib .add (T 73) (KI 1)),
                        i_ 75 (.slS (T 72) (some (T 74)) none),
                        i_ 10 (.mv (T 75))])
                      .skip))
                    (.seq
                     (.ops [i_ 77 (.mv (T 4)),
                       i_ 78 (.mv (T 8)),
                       i_ 79 (.iaddr 1 (T 77) (T 78)),
                       i_ 80 (.ld1 (T 79)),
                       i_ 81 (.mv (T 9)),
                       i_ 82 (.slS (T 80) none (some (T 81))),
                       i_ 83 (.call 23 [(T 82), (KB true)]),
                       i_ 76 (.mv (T 83)),
                       i_ 84 (.ext (T 76) 0),
                       i_ 85 (.ext (T 76) 1),
                       i_ 11 (.mv (T 84)),
                       i_ 12 (.mv (T 85))])
                     (.seq
                      (.ops [i_ 87 (.mv (T 10)),
                        i_ 88 (.call 23 [(T 87), (KB true)]),
                        i_ 86 (.mv (T 88)),
                        i_ 89 (.ext (T 86) 0),
                        i_ 90 (.ext (T 86) 1),
                        i_ 13 (.mv (T 89)),
                        i_ 14 (.mv (T 90))])
                      (.seq
                       (.seq
                        (.ops [i_ 91 (.mv (T 12)),
                          i_ 92 (.ib .neq (T 91) (KI 0)),
                          i_ 93 (.mv (T 92)),
                          ig 94 93 false (.mv (T 14)),
                          ig 95 93 false (.ib .neq (T 94) (KI 0)),
                          i_ 96 (.pick (T 93) (KB true) (T 95))])
                        (.cond (T 96)
                         (.seq
                          (.ops [i_ 2 (.mv (.const (.slice none 0 0))),
                            i_ 3 (.mv (KI 4))])
                          .ret)
                         .skip))
                       (.ops [i_ 97 (.mv (T 7)),
                         i_ 98 (.mv (T 11)),
                         i_ 99 (.mv (T 13)),
                         i_ 100 (.build [(.string ⟨⟨[]⟩⟩), (.string ⟨⟨[]⟩⟩)] [(0, (1, (T 98))), (1, (1, (T 99)))]),
                         i_ 101 (.bslice 71 [(.string ⟨⟨[]⟩⟩), (.string ⟨⟨[]⟩⟩)] 1 2 [(0, (2, (T 100)))]),
                         i_ 102 (.append 71 2 32 (T 97) (T 101)),
                         i_ 7 (.mv (T 102))])))))))))
               (.ops [i_ 42 (.mv (T 8)),
                 i_ 43 (.ib .add (T 42) (KI 1)),
                 i_ 8 (.mv (T 43))]))))))
          (.seq
           (.ops [i_ 103 (.mv (T 7)),
             i_ 2 (.mv (T 103)),
             i_ 3 (.mv (KI 0))])
           .ret))))))))
def m16 : MF := ⟨104, [(.tmp 2), (.tmp 3)], c16⟩
theorem r16 : resF Tryd.prog Tryd.f16 = some m16 := by kernel_rfl
theorem k16 : Callable Tryd.prog 16 := ⟨_, Tryd.func16, by kernel_rfl, by kernel_rfl⟩

def c33 : MC :=
   (.seq
    (.ops [i_ 2 (.mv (KS []))])
    (.seq
     (.ops [i_ 3 (.mv (.const (.slice none 0 0)))])
     (.seq
      (.seq
       (.ops [i_ 6 (.mv (T 0)),
         i_ 7 (.lenV (T 6)),
         i_ 8 (.mv (KI 0))])
       (.block 0
        (.loop [(9, 17), (5, 6), (17, 24), (3, 4), (8, 9)]
         (.seq
          (.ops [i_ 9 (.ib .lss (T 8) (T 7))])
          (.seq
           (.cond (T 9)
            .skip
            (.exit 0))
           (.seq
            (.block 1
             (.seq
              (.ops [i_ 10 (.iaddr 2 (T 6) (T 8)),
                i_ 11 (.ldN 2 (T 10)),
                i_ 5 (.alloc 71 [(.string ⟨⟨[]⟩⟩), (.string ⟨⟨[]⟩⟩)]),
                n_ (.st 2 (T 5) (T 11))])
              (.dops <|
                .op 0 (i_ 12 (.mv (T 3))) <|
                .op 1 (i_ 13 (.faddr 0 (T 5))) <|
                .op 2 (i_ 14 (.ld1 (T 13))) <|
                .op 5 (i_ 17 (.faddr 1 (T 5))) <|
                .op 6 (i_ 18 (.ld1 (T 17))) <|
                .op 3 (id_ 15 (.call 24 [(T 14)]) [2]) <|
                .op 4 (i_ 16 (.sb .add (T 15) (KS [61]))) <|
                .op 7 (id_ 19 (.call 24 [(T 18)]) [2, 6]) <|
                .op 8 (i_ 20 (.sb .add (T 16) (T 19))) <|
                .op 9 (id_ 21 (.bslice 9 [(.string ⟨⟨[]⟩⟩)] 1 1 [(0, (1, (T 20)))]) [2, 6]) <|
                .op 10 (id_ 22 (.append 9 1 16 (T 12) (T 21)) [6, 2]) <|
                .op 11 (i_ 3 (.mv (T 22))) <|
                .nil)))
            (.ops [i_ 23 (.ib .add (T 8) (KI 1)),
              i_ 8 (.mv (T 23))])))))))
      (.seq
       (.ops [i_ 24 (.mv (T 3)),
         i_ 25 (.call 72 [(T 24), (KS [38])]),
         i_ 2 (.mv (T 25))])
       .ret))))
def m33 : MF := ⟨26, [(.tmp 2)], c33⟩
theorem r33 : resF Tryd.prog Tryd.f33 = some m33 := by kernel_rfl
theorem k33 : Callable Tryd.prog 33 := ⟨_, Tryd.func33, by kernel_rfl, by kernel_rfl⟩

def c36 : MC :=
   (.seq
    (.ops [i_ 2 (.mv (KS []))])
    (.seq
     (.ops [i_ 3 (.mv (KS []))])
     (.seq
      (.seq
       (.ops [i_ 4 (.mv (KI 0))])
       (.block 0
        (.loop [(5, 11), (11, 24), (3, 5), (24, 31)]
         (.seq
          (.seq
           (.ops [i_ 5 (.mv (T 4)),
             i_ 6 (.mv (T 0)),
             i_ 7 (.lenV (T 6)),
             i_ 8 (.ib .lss (T 5) (T 7))])
           (.cond (T 8)
            .skip
            (.exit 0)))
          (.seq
           (.block 1
            (.seq
             (.seq
              (.ops [i_ 11 (.mv (T 4)),
                i_ 12 (.ib .gtr (T 11) (KI 0))])
              (.cond (T 12)
               (.ops [i_ 13 (.mv (T 3)),
                 i_ 14 (.sb .add (T 13) (KS [38])),
                 i_ 3 (.mv (T 14))])
               .skip))
             (.dops <|
               .op 0 (i_ 15 (.mv (T 3))) <|
               .op 1 (i_ 16 (.mv (T 0))) <|
               .op 2 (i_ 17 (.mv (T 4))) <|
               .op 3 (i_ 18 (.iaddr 2 (T 16) (T 17))) <|
               .op 4 (i_ 19 (.faddr 0 (T 18))) <|
               .op 5 (i_ 20 (.ld1 (T 19))) <|
               .op 9 (i_ 24 (.mv (T 0))) <|
               .op 10 (i_ 25 (.mv (T 4))) <|
               .op 11 (i_ 26 (.iaddr 2 (T 24) (T 25))) <|
               .op 12 (i_ 27 (.faddr 1 (T 26))) <|
               .op 13 (i_ 28 (.ld1 (T 27))) <|
               .op 6 (id_ 21 (.call 25 [(T 20)]) [5]) <|
               .op 7 (i_ 22 (.sb .add (T 15) (T 21))) <|
               .op 8 (i_ 23 (.sb .add (T 22) (KS [61]))) <|
               .op 14 (id_ 29 (.call 25 [(T 28)]) [5, 13]) <|
               .op 15 (i_ 30 (.sb .add (T 23) (T 29))) <|
               .op 16 (i_ 3 (.mv (T 30))) <|
               .nil)))
           (.ops [i_ 9 (.mv (T 4)),
             i_ 10 (.ib .add (T 9) (KI 1)),
             i_ 4 (.mv (T 10))]))))))
      (.seq
       (.ops [i_ 31 (.mv (T 3)),
         i_ 2 (.mv (T 31))])
       .ret))))
def m36 : MF := ⟨32, [(.tmp 2)], c36⟩
theorem r36 : resF Tryd.prog Tryd.f36 = some m36 := by kernel_rfl
theorem k36 : Callable Tryd.prog 36 := ⟨_, Tryd.func36, by kernel_rfl, by kernel_rfl⟩

def c34 : MC :=
   (.seq
    (.ops [i_ 4 (.mv (KS [])),
      i_ 5 (.mv (KI 0))])
    (.seq
     (.ops [i_ 6 (.mv (KS [])),
       i_ 7 (.mv (KI 0))])
     (.seq
      (.seq
       (.ops [i_ 10 (.mv (T 0)),
         i_ 11 (.lenV (T 10)),
         i_ 12 (.mv (KI 0))])
       (.block 0
        (.loop [(13, 25), (9, 10), (6, 8), (12, 13)]
         (.seq
          (.ops [i_ 13 (.ib .lss (T 12) (T 11))])
          (.seq
           (.cond (T 13)
            .skip
            (.exit 0))
           (.seq
            (.block 1
             (.seq
              (.ops [i_ 14 (.iaddr 2 (T 10) (T 12)),
                i_ 15 (.ldN 2 (T 14)),
                i_ 9 (.alloc 71 [(.string ⟨⟨[]⟩⟩), (.string ⟨⟨[]⟩⟩)]),
                n_ (.st 2 (T 9) (T 15))])
              (.seq
               (.ops [i_ 16 (.faddr 0 (T 9)),
                 i_ 17 (.ld1 (T 16)),
                 i_ 18 (.mv (T 1)),
                 i_ 19 (.sb .eql (T 17) (T 18))])
               (.cond (T 19)
                (.seq
                 (.ops [i_ 20 (.faddr 1 (T 9)),
                   i_ 21 (.ld1 (T 20)),
                   i_ 6 (.mv (T 21))])
                 (.ops [i_ 22 (.mv (T 7)),
                   i_ 23 (.ib .add (T 22) (KI 1)),
                   i_ 7 (.mv (T 23))]))
                .skip))))
            (.ops [i_ 24 (.ib .add (T 12) (KI 1)),
              i_ 12 (.mv (T 24))])))))))
      (.seq
       (.block 2
        (.seq
         (.ops [i_ 26 (.mv (T 7)),
           i_ 27 (.ib .eql (T 26) (KI 0)),
           i_ 25 (.mv (T 27))])
         (.cond (T 25)
          (.seq
           (.ops [i_ 4 (.mv (KS [])),
             i_ 5 (.mv (KI 11))])
           .ret)
          (.seq
           (.ops [i_ 29 (.mv (T 7)),
             i_ 30 (.ib .gtr (T 29) (KI 1)),
             i_ 28 (.mv (T 30))])
           (.cond (T 28)
            (.seq
             (.ops [i_ 4 (.mv (KS [])),
               i_ 5 (.mv (KI 10))])
             .ret)
            .skip)))))
       (.seq
        (.ops [i_ 31 (.mv (T 6)),
          i_ 4 (.mv (T 31)),
          i_ 5 (.mv (KI 0))])
        .ret)))))
def m34 : MF := ⟨32, [(.tmp 4), (.tmp 5)], c34⟩
theorem r34 : resF Tryd.prog Tryd.f34 = some m34 := by kernel_rfl
theorem k34 : Callable Tryd.prog 34 := ⟨_, Tryd.func34, by kernel_rfl, by kernel_rfl⟩

def c35 : MC :=
   (.seq
    (.ops [i_ 4 (.mv (KS [])),
      i_ 5 (.mv (KI 0))])
    (.seq
     (.ops [i_ 6 (.mv (KS [])),
       i_ 7 (.mv (KI 0))])
     (.seq
      (.seq
       (.ops [i_ 8 (.mv (KI 0))])
       (.block 0
        (.loop [(9, 15), (15, 29), (6, 9)]
         (.seq
          (.seq
           (.ops [i_ 9 (.mv (T 8)),
             i_ 10 (.mv (T 0)),
             i_ 11 (.lenV (T 10)),
             i_ 12 (.ib .lss (T 9) (T 11))])
           (.cond (T 12)
            .skip
            (.exit 0)))
          (.seq
           (.block 1
            (.seq
             (.ops [i_ 15 (.mv (T 0)),
               i_ 16 (.mv (T 8)),
               i_ 17 (.iaddr 2 (T 15) (T 16)),
               i_ 18 (.faddr 0 (T 17)),
               i_ 19 (.ld1 (T 18)),
               i_ 20 (.mv (T 1)),
               i_ 21 (.sb .eql (T 19) (T 20))])
             (.cond (T 21)
              (.seq
               (.ops [i_ 22 (.mv (T 0)),
                 i_ 23 (.mv (T 8)),
                 i_ 24 (.iaddr 2 (T 22) (T 23)),
                 i_ 25 (.faddr 1 (T 24)),
                 i_ 26 (.ld1 (T 25)),
                 i_ 6 (.mv (T 26))])
               (.ops [i_ 27 (.mv (T 7)),
                 i_ 28 (.ib .add (T 27) (KI 1)),
                 i_ 7 (.mv (T 28))]))
              .skip)))
           (.ops [i_ 13 (.mv (T 8)),
             i_ 14 (.ib .add (T 13) (KI 1)),
             i_ 8 (.mv (T 14))]))))))
      (.seq
       (.seq
        (.ops [i_ 29 (.mv (T 7)),
          i_ 30 (.ib .eql (T 29) (KI 0))])
        (.cond (T 30)
         (.seq
          (.ops [i_ 4 (.mv (KS [])),
            i_ 5 (.mv (KI 11))])
          .ret)
         .skip))
       (.seq
        (.seq
         (.ops [i_ 31 (.mv (T 7)),
           i_ 32 (.ib .gtr (T 31) (KI 1))])
         (.cond (T 32)
          (.seq
           (.ops [i_ 4 (.mv (KS [])),
             i_ 5 (.mv (KI 10))])
           .ret)
          .skip))
        (.seq
         (.ops [i_ 33 (.mv (T 6)),
           i_ 4 (.mv (T 33)),
           i_ 5 (.mv (KI 0))])
         .ret))))))
def m35 : MF := ⟨34, [(.tmp 4), (.tmp 5)], c35⟩
theorem r35 : resF Tryd.prog Tryd.f35 = some m35 := by kernel_rfl
theorem k35 : Callable Tryd.prog 35 := ⟨_, Tryd.func35, by kernel_rfl, by kernel_rfl⟩

def c18 : MC :=
   (.seq
    (.ops [i_ 0 (.mv (KB false))])
    (.seq
     (.ops [i_ 4 (.call 15 [(KS [97, 61, 49, 43, 50])]),
       i_ 3 (.mv (T 4)),
       i_ 5 (.ext (T 3) 0),
       i_ 6 (.ext (T 3) 1),
       i_ 1 (.mv (T 5)),
       i_ 2 (.mv (T 6))])
     (.seq
      (.ops [i_ 7 (.mv (T 2)),
        i_ 8 (.ib .eql (T 7) (KI 0)),
        i_ 9 (.mv (T 8)),
        ig 10 9 true (.mv (T 1)),
        ig 11 9 true (.lenV (T 10)),
        ig 12 9 true (.ib .eql (T 11) (KI 1)),
        i_ 13 (.pick (T 9) (T 12) (KB false)),
        i_ 14 (.mv (T 13)),
        ig 15 14 true (.mv (T 1)),
        ig 16 14 true (.iaddr 2 (T 15) (KI 0)),
        ig 17 14 true (.ldN 2 (T 16)),
        ig 18 14 true (.build [(.string ⟨⟨[]⟩⟩), (.string ⟨⟨[]⟩⟩)] [(0, (1, (KS [97]))), (1, (1, (KS [49, 32, 50])))]),
        ig 19 14 true (.eqA false 71 [71] [2, 2] (T 17) (T 18)),
        i_ 20 (.pick (T 14) (T 19) (KB false)),
        i_ 0 (.mv (T 20))])
      .ret)))
def m18 : MF := ⟨21, [(.tmp 0)], c18⟩
theorem r18 : resF Tryd.prog Tryd.f18 = some m18 := by kernel_rfl
theorem k18 : Callable Tryd.prog 18 := ⟨_, Tryd.func18, by kernel_rfl, by kernel_rfl⟩

def c3 : MC :=
   (.seq
    (.ops [i_ 2 (.mv (KB false))])
    (.seq
     (.ops [i_ 7 (.mv (T 0)),
       i_ 8 (.call 14 [(T 7), (KI 400)]),
       i_ 0 (.mv (T 8))])
     (.seq
      (.ops [i_ 10 (.mv (T 0)),
        i_ 11 (.call 15 [(T 10)]),
        i_ 9 (.mv (T 11)),
        i_ 12 (.ext (T 9) 0),
        i_ 13 (.ext (T 9) 1),
        i_ 3 (.mv (T 12)),
        i_ 4 (.mv (T 13))])
      (.seq
       (.ops [i_ 15 (.mv (T 0)),
         i_ 16 (.call 16 [(T 15)]),
         i_ 14 (.mv (T 16)),
         i_ 17 (.ext (T 14) 0),
         i_ 18 (.ext (T 14) 1),
         i_ 5 (.mv (T 17)),
         i_ 6 (.mv (T 18))])
       (.seq
        (.ops [i_ 19 (.mv (T 3)),
          i_ 20 (.mv (T 5)),
          i_ 21 (.call 17 [(T 19), (T 20)]),
          i_ 22 (.mv (T 21)),
          ig 23 22 true (.mv (T 4)),
          ig 24 22 true (.mv (T 6)),
          ig 25 22 true (.ib .eql (T 23) (T 24)),
          i_ 26 (.pick (T 22) (T 25) (KB false)),
          i_ 27 (.mv (T 26)),
          ig 28 27 true (.call 18 []),
          i_ 29 (.pick (T 27) (T 28) (KB false)),
          i_ 2 (.mv (T 29))])
        .ret)))))
def m3 : MF := ⟨30, [(.tmp 2)], c3⟩
theorem r3 : resF Tryd.prog Tryd.f3 = some m3 := by kernel_rfl
theorem k3 : Callable Tryd.prog 3 := ⟨_, Tryd.func3, by kernel_rfl, by kernel_rfl⟩

def c5 : MC :=
   (.seq
    (.ops [i_ 4 (.mv (KB false))])
    (.seq
     (.ops [i_ 10 (.mv (T 0)),
       i_ 11 (.call 19 [(T 10), (KI 0), (KI 70)]),
       i_ 12 (.mv (T 1)),
       i_ 13 (.call 19 [(T 12), (KI 0), (KI 20)]),
       i_ 0 (.mv (T 11)),
       i_ 1 (.mv (T 13))])
     (.seq
      (.ops [i_ 5 (.mv (KS []))])
      (.seq
       (.seq
        (.ops [i_ 6 (.mv (KI 0))])
        (.block 0
         (.loop [(14, 19), (19, 26), (5, 7), (7, 8), (26, 28)]
          (.seq
           (.seq
            (.ops [i_ 14 (.mv (T 6)),
              i_ 15 (.mv (T 0)),
              i_ 16 (.ib .lss (T 14) (T 15))])
            (.cond (T 16)
             .skip
             (.exit 0)))
           (.seq
            (.block 1
             (.seq
              (.ops [i_ 19 (.mv (T 5)),
                i_ 20 (.sb .add (T 19) (KS [97, 38])),
                i_ 5 (.mv (T 20))])
              (.seq
               (.ops [i_ 7 (.mv (KI 0))])
               (.block 2
                (.loop [(21, 26), (26, 28), (5, 6), (7, 8)]
                 (.seq
                  (.seq
                   (.ops [i_ 21 (.mv (T 7)),
                     i_ 22 (.mv (T 1)),
                     i_ 23 (.ib .lss (T 21) (T 22))])
                   (.cond (T 23)
                    .skip
                    (.exit 2)))
                  (.seq
                   (.block 3
                    (.ops [i_ 26 (.mv (T 5)),
                      i_ 27 (.sb .add (T 26) (KS [38])),
                      i_ 5 (.mv (T 27))]))
                   (.ops [i_ 24 (.mv (T 7)),
                     i_ 25 (.ib .add (T 24) (KI 1)),
                     i_ 7 (.mv (T 25))]))))))))
            (.ops [i_ 17 (.mv (T 6)),
              i_ 18 (.ib .add (T 17) (KI 1)),
              i_ 6 (.mv (T 18))]))))))
       (.seq
        (.ops [i_ 29 (.mv (T 5)),
          i_ 30 (.call 15 [(T 29)]),
          i_ 28 (.mv (T 30)),
          i_ 31 (.ext (T 28) 0),
          i_ 32 (.ext (T 28) 1),
          i_ 8 (.mv (T 31)),
          i_ 9 (.mv (T 32))])
        (.seq
         (.seq
          (.ops [i_ 33 (.mv (T 0)),
            i_ 34 (.ib .gtr (T 33) (KI 64))])
          (.cond (T 34)
           (.seq
            (.ops [i_ 35 (.mv (T 9)),
              i_ 36 (.ib .eql (T 35) (KI 25)),
              i_ 37 (.mv (T 36)),
              ig 38 37 true (.mv (T 8)),
              ig 39 37 true (.lenV (T 38)),
              ig 40 37 true (.ib .eql (T 39) (KI 0)),
              i_ 41 (.pick (T 37) (T 40) (KB false)),
              i_ 42 (.mv (T 41)),
              ig 43 42 true (.call 18 []),
              i_ 44 (.pick (T 42) (T 43) (KB false)),
              i_ 4 (.mv (T 44))])
            .ret)
           .skip))
         (.seq
          (.ops [i_ 45 (.mv (T 9)),
            i_ 46 (.ib .eql (T 45) (KI 0)),
            i_ 47 (.mv (T 46)),
            ig 48 47 true (.mv (T 8)),
            ig 49 47 true (.lenV (T 48)),
            ig 50 47 true (.mv (T 0)),
            ig 51 47 true (.ib .eql (T 49) (T 50)),
            i_ 52 (.pick (T 47) (T 51) (KB false)),
            i_ 53 (.mv (T 52)),
            ig 54 53 true (.call 18 []),
            i_ 55 (.pick (T 53) (T 54) (KB false)),
            i_ 4 (.mv (T 55))])
          .ret)))))))
def m5 : MF := ⟨56, [(.tmp 4)], c5⟩
theorem r5 : resF Tryd.prog Tryd.f5 = some m5 := by kernel_rfl
theorem k5 : Callable Tryd.prog 5 := ⟨_, Tryd.func5, by kernel_rfl, by kernel_rfl⟩

def c6 : MC :=
   (.seq
    (.ops [i_ 6 (.mv (KB false))])
    (.seq
     (.ops [i_ 11 (.mv (T 0)),
       i_ 12 (.call 14 [(T 11), (KI 100)]),
       i_ 13 (.mv (T 1)),
       i_ 14 (.call 14 [(T 13), (KI 100)]),
       i_ 0 (.mv (T 12)),
       i_ 1 (.mv (T 14))])
     (.seq
      (.ops [i_ 16 (.mv (T 1)),
        i_ 17 (.mv (T 2)),
        i_ 18 (.call 22 [(T 16), (T 17)]),
        i_ 15 (.mv (T 18)),
        i_ 19 (.ext (T 15) 0),
        i_ 20 (.ext (T 15) 1),
        i_ 7 (.mv (T 19)),
        i_ 8 (.mv (T 20))])
      (.seq
       (.ops [i_ 22 (.mv (T 1)),
         i_ 23 (.mv (T 2)),
         i_ 24 (.call 23 [(T 22), (T 23)]),
         i_ 21 (.mv (T 24)),
         i_ 25 (.ext (T 21) 0),
         i_ 26 (.ext (T 21) 1),
         i_ 9 (.mv (T 25)),
         i_ 10 (.mv (T 26))])
       (.seq
        (.ops [i_ 27 (.mv (T 0)),
          i_ 28 (.call 24 [(T 27)]),
          i_ 29 (.mv (T 0)),
          i_ 30 (.call 25 [(T 29)]),
          i_ 31 (.sb .eql (T 28) (T 30)),
          i_ 32 (.mv (T 31)),
          ig 33 32 true (.mv (T 7)),
          ig 34 32 true (.mv (T 9)),
          ig 35 32 true (.sb .eql (T 33) (T 34)),
          i_ 36 (.pick (T 32) (T 35) (KB false)),
          i_ 37 (.mv (T 36)),
          ig 38 37 true (.mv (T 8)),
          ig 39 37 true (.mv (T 10)),
          ig 40 37 true (.ib .eql (T 38) (T 39)),
          i_ 41 (.pick (T 37) (T 40) (KB false)),
          i_ 42 (.mv (T 41)),
          ig 43 42 true (.call 18 []),
          i_ 44 (.pick (T 42) (T 43) (KB false)),
          i_ 6 (.mv (T 44))])
        .ret)))))
def m6 : MF := ⟨45, [(.tmp 6)], c6⟩
theorem r6 : resF Tryd.prog Tryd.f6 = some m6 := by kernel_rfl
theorem k6 : Callable Tryd.prog 6 := ⟨_, Tryd.func6, by kernel_rfl, by kernel_rfl⟩

def c8 : MC :=
   (.seq
    (.ops [i_ 6 (.mv (KB false))])
    (.seq
     (.ops [i_ 11 (.mv (T 0)),
       i_ 12 (.call 26 [(T 11), (KI 64), (KI 20)]),
       i_ 13 (.mv (T 1)),
       i_ 14 (.call 14 [(T 13), (KI 100)]),
       i_ 0 (.mv (T 12)),
       i_ 1 (.mv (T 14))])
     (.seq
      (.ops [i_ 16 (.mv (T 1)),
        i_ 17 (.call 24 [(T 16)]),
        i_ 18 (.mv (T 2)),
        i_ 19 (.call 22 [(T 17), (T 18)]),
        i_ 15 (.mv (T 19)),
        i_ 20 (.ext (T 15) 0),
        i_ 21 (.ext (T 15) 1),
        i_ 7 (.mv (T 20)),
        i_ 8 (.mv (T 21))])
      (.seq
       (.ops [i_ 23 (.mv (T 0)),
         i_ 24 (.call 33 [(T 23)]),
         i_ 25 (.call 15 [(T 24)]),
         i_ 22 (.mv (T 25)),
         i_ 26 (.ext (T 22) 0),
         i_ 27 (.ext (T 22) 1),
         i_ 9 (.mv (T 26)),
         i_ 10 (.mv (T 27))])
       (.seq
        (.ops [i_ 28 (.mv (T 8)),
          i_ 29 (.ib .eql (T 28) (KI 0)),
          i_ 30 (.mv (T 29)),
          ig 31 30 true (.mv (T 7)),
          ig 32 30 true (.mv (T 1)),
          ig 33 30 true (.sb .eql (T 31) (T 32)),
          i_ 34 (.pick (T 30) (T 33) (KB false)),
          i_ 35 (.mv (T 34)),
          ig 36 35 true (.mv (T 10)),
          ig 37 35 true (.ib .eql (T 36) (KI 0)),
          i_ 38 (.pick (T 35) (T 37) (KB false)),
          i_ 39 (.mv (T 38)),
          ig 40 39 true (.mv (T 0)),
          ig 41 39 true (.mv (T 9)),
          ig 42 39 true (.call 17 [(T 40), (T 41)]),
          i_ 43 (.pick (T 39) (T 42) (KB false)),
          i_ 44 (.mv (T 43)),
          ig 45 44 true (.call 18 []),
          i_ 46 (.pick (T 44) (T 45) (KB false)),
          i_ 6 (.mv (T 46))])
        .ret)))))
def m8 : MF := ⟨47, [(.tmp 6)], c8⟩
theorem r8 : resF Tryd.prog Tryd.f8 = some m8 := by kernel_rfl
theorem k8 : Callable Tryd.prog 8 := ⟨_, Tryd.func8, by kernel_rfl, by kernel_rfl⟩

def c9 : MC :=
   (.seq
    (.ops [i_ 4 (.mv (KB false))])
    (.seq
     (.ops [i_ 9 (.mv (T 0)),
       i_ 10 (.call 26 [(T 9), (KI 70), (KI 20)]),
       i_ 0 (.mv (T 10))])
     (.seq
      (.ops [i_ 12 (.mv (T 0)),
        i_ 13 (.mv (T 1)),
        i_ 14 (.call 34 [(T 12), (T 13)]),
        i_ 11 (.mv (T 14)),
        i_ 15 (.ext (T 11) 0),
        i_ 16 (.ext (T 11) 1),
        i_ 5 (.mv (T 15)),
        i_ 6 (.mv (T 16))])
      (.seq
       (.ops [i_ 18 (.mv (T 0)),
         i_ 19 (.mv (T 1)),
         i_ 20 (.call 35 [(T 18), (T 19)]),
         i_ 17 (.mv (T 20)),
         i_ 21 (.ext (T 17) 0),
         i_ 22 (.ext (T 17) 1),
         i_ 7 (.mv (T 21)),
         i_ 8 (.mv (T 22))])
       (.seq
        (.ops [i_ 23 (.mv (T 0)),
          i_ 24 (.call 33 [(T 23)]),
          i_ 25 (.mv (T 0)),
          i_ 26 (.call 36 [(T 25)]),
          i_ 27 (.sb .eql (T 24) (T 26)),
          i_ 28 (.mv (T 27)),
          ig 29 28 true (.mv (T 5)),
          ig 30 28 true (.mv (T 7)),
          ig 31 28 true (.sb .eql (T 29) (T 30)),
          i_ 32 (.pick (T 28) (T 31) (KB false)),
          i_ 33 (.mv (T 32)),
          ig 34 33 true (.mv (T 6)),
          ig 35 33 true (.mv (T 8)),
          ig 36 33 true (.ib .eql (T 34) (T 35)),
          i_ 37 (.pick (T 33) (T 36) (KB false)),
          i_ 38 (.mv (T 37)),
          ig 39 38 true (.call 18 []),
          i_ 40 (.pick (T 38) (T 39) (KB false)),
          i_ 4 (.mv (T 40))])
        .ret)))))
def m9 : MF := ⟨41, [(.tmp 4)], c9⟩
theorem r9 : resF Tryd.prog Tryd.f9 = some m9 := by kernel_rfl
theorem k9 : Callable Tryd.prog 9 := ⟨_, Tryd.func9, by kernel_rfl, by kernel_rfl⟩

end Go.Proofs.YtkhgmmejgikgnaaDoor
