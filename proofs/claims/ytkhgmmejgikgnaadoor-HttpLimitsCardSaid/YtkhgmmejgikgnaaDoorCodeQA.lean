/- Functions of the program, resolved: made by a program of ours; each is checked by the kernel. -/
import Derived.Test.YtkhgmmejgikgnaaDoorPB
namespace Go.Proofs.YtkhgmmejgikgnaaDoor
def c14 : MC :=
   (.seq
    (.ops [i_ 4 (.mv (KS []))])
    (.seq
     (.seq
      (.ops [i_ 5 (.mv (T 0)),
        i_ 6 (.lenS (T 5)),
        i_ 7 (.mv (T 1)),
        i_ 8 (.ib .gtr (T 6) (T 7))])
      (.cond (T 8)
       (.seq
        (.ops [i_ 9 (.mv (T 0)),
          i_ 10 (.mv (T 1)),
          i_ 11 (.slS (T 9) none (some (T 10))),
          i_ 4 (.mv (T 11))])
        .ret)
       .skip))
     (.seq
      (.ops [i_ 12 (.mv (T 0)),
        i_ 4 (.mv (T 12))])
      .ret)))
def m14 : MF := ⟨13, [(.tmp 4)], c14⟩
theorem r14 : resF Tryd.prog Tryd.f14 = some m14 := by kernel_rfl
theorem k14 : Callable Tryd.prog 14 := ⟨_, Tryd.func14, by kernel_rfl, by kernel_rfl⟩

def c19 : MC :=
   (.seq
    (.ops [i_ 6 (.mv (KI 0))])
    (.seq
     (.seq
      (.ops [i_ 7 (.mv (T 0)),
        i_ 8 (.mv (T 1)),
        i_ 9 (.ib .lss (T 7) (T 8))])
      (.cond (T 9)
       (.seq
        (.ops [i_ 10 (.mv (T 1)),
          i_ 6 (.mv (T 10))])
        .ret)
       .skip))
     (.seq
      (.seq
       (.ops [i_ 11 (.mv (T 0)),
         i_ 12 (.mv (T 2)),
         i_ 13 (.ib .gtr (T 11) (T 12))])
       (.cond (T 13)
        (.seq
         (.ops [i_ 14 (.mv (T 2)),
           i_ 6 (.mv (T 14))])
         .ret)
        .skip))
      (.seq
       (.ops [i_ 15 (.mv (T 0)),
         i_ 6 (.mv (T 15))])
       .ret))))
def m19 : MF := ⟨16, [(.tmp 6)], c19⟩
theorem r19 : resF Tryd.prog Tryd.f19 = some m19 := by kernel_rfl
theorem k19 : Callable Tryd.prog 19 := ⟨_, Tryd.func19, by kernel_rfl, by kernel_rfl⟩

def c17 : MC :=
   (.seq
    (.ops [i_ 4 (.mv (KB false))])
    (.seq
     (.seq
      (.ops [i_ 6 (.mv (T 0)),
        i_ 7 (.lenV (T 6)),
        i_ 8 (.mv (T 1)),
        i_ 9 (.lenV (T 8)),
        i_ 10 (.ib .neq (T 7) (T 9))])
      (.cond (T 10)
       (.seq
        (.ops [i_ 4 (.mv (KB false))])
        .ret)
       .skip))
     (.seq
      (.seq
       (.ops [i_ 5 (.mv (KI 0))])
       (.block 0
        (.loop [(11, 17), (17, 26), (4, 6)]
         (.seq
          (.seq
           (.ops [i_ 11 (.mv (T 5)),
             i_ 12 (.mv (T 0)),
             i_ 13 (.lenV (T 12)),
             i_ 14 (.ib .lss (T 11) (T 13))])
           (.cond (T 14)
            .skip
            (.exit 0)))
          (.seq
           (.block 1
            (.seq
             (.dops <|
               .op 0 (i_ 17 (.mv (T 0))) <|
               .op 1 (i_ 18 (.mv (T 5))) <|
               .op 2 (i_ 19 (.iaddr 2 (T 17) (T 18))) <|
               .op 3 (i_ 20 (.ldN 2 (T 19))) <|
               .op 4 (i_ 21 (.mv (T 1))) <|
               .op 5 (i_ 22 (.mv (T 5))) <|
               .op 6 (i_ 23 (.iaddr 2 (T 21) (T 22))) <|
               .op 7 (i_ 24 (.ldN 2 (T 23))) <|
               .op 8 (i_ 25 (.eqA true 71 [71] [2, 2] (T 20) (T 24))) <|
               .nil)
             (.cond (T 25)
              (.seq
               (.ops [i_ 4 (.mv (KB false))])
               .ret)
              .skip)))
           (.ops [i_ 15 (.mv (T 5)),
             i_ 16 (.ib .add (T 15) (KI 1)),
             i_ 5 (.mv (T 16))]))))))
      (.seq
       (.ops [i_ 4 (.mv (KB true))])
       .ret))))
def m17 : MF := ⟨26, [(.tmp 4)], c17⟩
theorem r17 : resF Tryd.prog Tryd.f17 = some m17 := by kernel_rfl
theorem k17 : Callable Tryd.prog 17 := ⟨_, Tryd.func17, by kernel_rfl, by kernel_rfl⟩

def c26 : MC :=
   (.seq
    (.ops [i_ 6 (.mv (.const (.slice none 0 0)))])
    (.seq
     (.ops [i_ 7 (.mv (.const (.slice none 0 0)))])
     (.seq
      (.seq
       (.ops [i_ 8 (.mv (KI 0))])
       (.block 0
        (.loop [(9, 20), (20, 28), (28, 38), (7, 9)]
         (.seq
          (.seq
           (.ops [i_ 9 (.mv (T 8)),
             i_ 10 (.mv (T 0)),
             i_ 11 (.lenV (T 10)),
             i_ 12 (.ib .lss (T 9) (T 11)),
             i_ 13 (.mv (T 12)),
             ig 14 13 true (.mv (T 8)),
             ig 15 13 true (.mv (T 1)),
             ig 16 13 true (.ib .lss (T 14) (T 15)),
             i_ 17 (.pick (T 13) (T 16) (KB false))])
           (.cond (T 17)
            .skip
            (.exit 0)))
          (.seq
           (.block 1
            (.dops <|
              .op 0 (i_ 20 (.mv (T 7))) <|
              .op 1 (i_ 21 (.mv (T 0))) <|
              .op 2 (i_ 22 (.mv (T 8))) <|
              .op 3 (i_ 23 (.iaddr 2 (T 21) (T 22))) <|
              .op 4 (i_ 24 (.faddr 0 (T 23))) <|
              .op 5 (i_ 25 (.ld1 (T 24))) <|
              .op 6 (i_ 26 (.mv (T 2))) <|
              .op 8 (i_ 28 (.mv (T 0))) <|
              .op 9 (i_ 29 (.mv (T 8))) <|
              .op 10 (i_ 30 (.iaddr 2 (T 28) (T 29))) <|
              .op 11 (i_ 31 (.faddr 1 (T 30))) <|
              .op 12 (i_ 32 (.ld1 (T 31))) <|
              .op 13 (i_ 33 (.mv (T 2))) <|
              .op 7 (id_ 27 (.call 14 [(T 25), (T 26)]) [5]) <|
              .op 14 (id_ 34 (.call 14 [(T 32), (T 33)]) [5, 12]) <|
              .op 15 (i_ 35 (.build [(.string ⟨⟨[]⟩⟩), (.string ⟨⟨[]⟩⟩)] [(0, (1, (T 27))), (1, (1, (T 34)))])) <|
              .op 16 (id_ 36 (.bslice 71 [(.string ⟨⟨[]⟩⟩), (.string ⟨⟨[]⟩⟩)] 1 2 [(0, (2, (T 35)))]) [5, 12]) <|
              .op 17 (id_ 37 (.append 71 2 32 (T 20) (T 36)) [12, 5]) <|
              .op 18 (i_ 7 (.mv (T 37))) <|
              .nil))
           (.ops [i_ 18 (.mv (T 8)),
             i_ 19 (.ib .add (T 18) (KI 1)),
             i_ 8 (.mv (T 19))]))))))
      (.seq
       (.ops [i_ 38 (.mv (T 7)),
         i_ 6 (.mv (T 38))])
       .ret))))
def m26 : MF := ⟨39, [(.tmp 6)], c26⟩
theorem r26 : resF Tryd.prog Tryd.f26 = some m26 := by kernel_rfl
theorem k26 : Callable Tryd.prog 26 := ⟨_, Tryd.func26, by kernel_rfl, by kernel_rfl⟩

def c67 : MC :=
   (.seq
    (.ops [i_ 2 (.mv (KB false))])
    (.seq
     (.block 0
      (.seq
       (.seq
        (.ops [i_ 4 (.mv (T 0)),
          i_ 5 (.ib .geq (T 4) (KU 97)),
          i_ 6 (.mv (T 5)),
          ig 7 6 true (.mv (T 0)),
          ig 8 6 true (.ib .leq (T 7) (KU 122)),
          i_ 9 (.pick (T 6) (T 8) (KB false)),
          i_ 3 (.mv (T 9))])
        (.cond (T 3)
         .skip
         (.seq
          (.ops [i_ 10 (.mv (T 0)),
            i_ 11 (.ib .geq (T 10) (KU 65)),
            i_ 12 (.mv (T 11)),
            ig 13 12 true (.mv (T 0)),
            ig 14 12 true (.ib .leq (T 13) (KU 90)),
            i_ 15 (.pick (T 12) (T 14) (KB false)),
            i_ 3 (.mv (T 15))])
          (.cond (T 3)
           .skip
           (.ops [i_ 16 (.mv (T 0)),
             i_ 17 (.ib .geq (T 16) (KU 48)),
             i_ 18 (.mv (T 17)),
             ig 19 18 true (.mv (T 0)),
             ig 20 18 true (.ib .leq (T 19) (KU 57)),
             i_ 21 (.pick (T 18) (T 20) (KB false)),
             i_ 3 (.mv (T 21))])))))
       (.cond (T 3)
        (.seq
         (.ops [i_ 2 (.mv (KB true))])
         .ret)
        .skip)))
     (.seq
      (.ops [i_ 22 (.mv (T 0)),
        i_ 23 (.ib .eql (T 22) (KU 45)),
        i_ 24 (.mv (T 23)),
        ig 25 24 false (.mv (T 0)),
        ig 26 24 false (.ib .eql (T 25) (KU 46)),
        i_ 27 (.pick (T 24) (KB true) (T 26)),
        i_ 28 (.mv (T 27)),
        ig 29 28 false (.mv (T 0)),
        ig 30 28 false (.ib .eql (T 29) (KU 95)),
        i_ 31 (.pick (T 28) (KB true) (T 30)),
        i_ 32 (.mv (T 31)),
        ig 33 32 false (.mv (T 0)),
        ig 34 32 false (.ib .eql (T 33) (KU 126)),
        i_ 35 (.pick (T 32) (KB true) (T 34)),
        i_ 2 (.mv (T 35))])
      .ret)))
def m67 : MF := ⟨36, [(.tmp 2)], c67⟩
theorem r67 : resF Tryd.prog Tryd.f67 = some m67 := by kernel_rfl
theorem k67 : Callable Tryd.prog 67 := ⟨_, Tryd.func67, by kernel_rfl, by kernel_rfl⟩

def c68 : MC :=
   (.seq
    (.ops [i_ 2 (.mv (KB false))])
    (.seq
     (.ops [i_ 3 (.mv (T 0)),
       i_ 4 (.ib .geq (T 3) (KU 97)),
       i_ 5 (.mv (T 4)),
       ig 6 5 true (.mv (T 0)),
       ig 7 5 true (.ib .leq (T 6) (KU 122)),
       i_ 8 (.pick (T 5) (T 7) (KB false)),
       i_ 9 (.mv (T 8)),
       ig 10 9 false (.mv (T 0)),
       ig 11 9 false (.ib .geq (T 10) (KU 65)),
       ig 12 9 false (.mv (T 11)),
       ig 13 12 true (.mv (T 0)),
       ig 14 12 true (.ib .leq (T 13) (KU 90)),
       ig 15 9 false (.pick (T 12) (T 14) (KB false)),
       i_ 16 (.pick (T 9) (KB true) (T 15)),
       i_ 17 (.mv (T 16)),
       ig 18 17 false (.mv (T 0)),
       ig 19 17 false (.ib .geq (T 18) (KU 48)),
       ig 20 17 false (.mv (T 19)),
       ig 21 20 true (.mv (T 0)),
       ig 22 20 true (.ib .leq (T 21) (KU 57)),
       ig 23 17 false (.pick (T 20) (T 22) (KB false)),
       i_ 24 (.pick (T 17) (KB true) (T 23)),
       i_ 25 (.mv (T 24)),
       ig 26 25 false (.mv (T 0)),
       ig 27 25 false (.ib .eql (T 26) (KU 45)),
       i_ 28 (.pick (T 25) (KB true) (T 27)),
       i_ 29 (.mv (T 28)),
       ig 30 29 false (.mv (T 0)),
       ig 31 29 false (.ib .eql (T 30) (KU 46)),
       i_ 32 (.pick (T 29) (KB true) (T 31)),
       i_ 33 (.mv (T 32)),
       ig 34 33 false (.mv (T 0)),
       ig 35 33 false (.ib .eql (T 34) (KU 95)),
       i_ 36 (.pick (T 33) (KB true) (T 35)),
       i_ 37 (.mv (T 36)),
       ig 38 37 false (.mv (T 0)),
       ig 39 37 false (.ib .eql (T 38) (KU 126)),
       i_ 40 (.pick (T 37) (KB true) (T 39)),
       i_ 2 (.mv (T 40))])
     .ret))
def m68 : MF := ⟨41, [(.tmp 2)], c68⟩
theorem r68 : resF Tryd.prog Tryd.f68 = some m68 := by kernel_rfl
theorem k68 : Callable Tryd.prog 68 := ⟨_, Tryd.func68, by kernel_rfl, by kernel_rfl⟩

def c64 : MC :=
   (.seq
    (.ops [i_ 2 (.mv (KI 0))])
    (.seq
     (.seq
      (.ops [i_ 3 (.mv (T 0)),
        i_ 4 (.ib .geq (T 3) (KU 97)),
        i_ 5 (.mv (T 4)),
        ig 6 5 true (.mv (T 0)),
        ig 7 5 true (.ib .leq (T 6) (KU 102)),
        i_ 8 (.pick (T 5) (T 7) (KB false))])
      (.cond (T 8)
       (.ops [i_ 9 (.mv (T 0)),
         i_ 10 (.ib .sub (T 9) (KU 32)),
         i_ 0 (.mv (T 10))])
       .skip))
     (.seq
      (.ops [i_ 11 (.mv (T 0)),
        i_ 12 (.call 110 [(KS [48, 49, 50, 51, 52, 53, 54, 55, 56, 57, 65, 66, 67, 68, 69, 70]), (T 11)]),
        i_ 2 (.mv (T 12))])
      .ret)))
def m64 : MF := ⟨13, [(.tmp 2)], c64⟩
theorem r64 : resF Tryd.prog Tryd.f64 = some m64 := by kernel_rfl
theorem k64 : Callable Tryd.prog 64 := ⟨_, Tryd.func64, by kernel_rfl, by kernel_rfl⟩

def c66 : MC :=
   (.seq
    (.ops [i_ 2 (.mv (KI 0))])
    (.seq
     (.seq
      (.ops [i_ 3 (.mv (T 0)),
        i_ 4 (.ib .geq (T 3) (KU 48)),
        i_ 5 (.mv (T 4)),
        ig 6 5 true (.mv (T 0)),
        ig 7 5 true (.ib .leq (T 6) (KU 57)),
        i_ 8 (.pick (T 5) (T 7) (KB false))])
      (.cond (T 8)
       (.seq
        (.ops [i_ 9 (.mv (T 0)),
          i_ 10 (.conv .i64 (T 9)),
          i_ 11 (.ib .sub (T 10) (KI 48)),
          i_ 2 (.mv (T 11))])
        .ret)
       .skip))
     (.seq
      (.seq
       (.ops [i_ 12 (.mv (T 0)),
         i_ 13 (.ib .geq (T 12) (KU 65)),
         i_ 14 (.mv (T 13)),
         ig 15 14 true (.mv (T 0)),
         ig 16 14 true (.ib .leq (T 15) (KU 70)),
         i_ 17 (.pick (T 14) (T 16) (KB false))])
       (.cond (T 17)
        (.seq
         (.ops [i_ 18 (.mv (T 0)),
           i_ 19 (.conv .i64 (T 18)),
           i_ 20 (.ib .sub (T 19) (KI 55)),
           i_ 2 (.mv (T 20))])
         .ret)
        .skip))
      (.seq
       (.seq
        (.ops [i_ 21 (.mv (T 0)),
          i_ 22 (.ib .geq (T 21) (KU 97)),
          i_ 23 (.mv (T 22)),
          ig 24 23 true (.mv (T 0)),
          ig 25 23 true (.ib .leq (T 24) (KU 102)),
          i_ 26 (.pick (T 23) (T 25) (KB false))])
        (.cond (T 26)
         (.seq
          (.ops [i_ 27 (.mv (T 0)),
            i_ 28 (.conv .i64 (T 27)),
            i_ 29 (.ib .sub (T 28) (KI 87)),
            i_ 2 (.mv (T 29))])
          .ret)
         .skip))
       (.seq
        (.ops [i_ 2 (.mv (KI (-1)))])
        .ret)))))
def m66 : MF := ⟨30, [(.tmp 2)], c66⟩
theorem r66 : resF Tryd.prog Tryd.f66 = some m66 := by kernel_rfl
theorem k66 : Callable Tryd.prog 66 := ⟨_, Tryd.func66, by kernel_rfl, by kernel_rfl⟩

def c22 : MC :=
   (.seq
    (.ops [i_ 4 (.mv (KS [])),
      i_ 5 (.mv (KI 0))])
    (.seq
     (.ops [i_ 6 (.raw ⟨(some 6), (.alloc 99), 0, "query.go:46", ⟨[]⟩, none⟩)])
     (.seq
      (.seq
       (.ops [i_ 7 (.mv (KI 0))])
       (.block 0
        (.loop [(10, 16), (46, 55), (45, 46), (55, 63), (16, 26), (4, 6), (26, 45), (8, 10), (7, 8)]
         (.seq
          (.seq
           (.ops [i_ 10 (.mv (T 7)),
             i_ 11 (.mv (T 0)),
             i_ 12 (.lenS (T 11)),
             i_ 13 (.ib .lss (T 10) (T 12))])
           (.cond (T 13)
            .skip
            (.exit 0)))
          (.seq
           (.block 1
            (.block 2
             (.seq
              (.ops [i_ 46 (.mv (T 0)),
                i_ 47 (.mv (T 7)),
                i_ 48 (.idx (T 46) (T 47)),
                i_ 49 (.ib .eql (T 48) (KU 43)),
                i_ 50 (.mv (T 49)),
                ig 51 50 true (.mv (T 1)),
                i_ 52 (.pick (T 50) (T 51) (KB false)),
                i_ 45 (.mv (T 52))])
              (.cond (T 45)
               (.ops [i_ 53 (.call 63 [(T 6), (KU 32)])])
               (.seq
                (.ops [i_ 55 (.mv (T 0)),
                  i_ 56 (.mv (T 7)),
                  i_ 57 (.idx (T 55) (T 56)),
                  i_ 58 (.ib .neq (T 57) (KU 37)),
                  i_ 54 (.mv (T 58))])
                (.cond (T 54)
                 (.ops [i_ 59 (.mv (T 0)),
                   i_ 60 (.mv (T 7)),
                   i_ 61 (.idx (T 59) (T 60)),
                   i_ 62 (.call 63 [(T 6), (T 61)])])
                 (.seq
                  (.seq
                   (.ops [i_ 16 (.mv (T 0)),
                     i_ 17 (.lenS (T 16)),
                     i_ 18 (.mv (T 7)),
                     i_ 19 (.ib .sub (T 17) (T 18)),
                     i_ 20 (.ib .lss (T 19) (KI 3))])
                   (.cond (T 20)
                    (.seq
                     (.ops [i_ 4 (.mv (KS [])),
                       i_ 5 (.mv (KI 4))])
                     .ret)
                    .skip))
                  (.seq
                   (.dops <|
                     .op 0 (i_ 21 (.mv (T 0))) <|
                     .op 1 (i_ 22 (.mv (T 7))) <|
                     .op 2 (i_ 23 (.ib .add (T 22) (KI 1))) <|
                     .op 3 (i_ 24 (.idx (T 21) (T 23))) <|
                     .op 5 (i_ 26 (.mv (T 0))) <|
                     .op 6 (i_ 27 (.mv (T 7))) <|
                     .op 7 (i_ 28 (.ib .add (T 27) (KI 2))) <|
                     .op 8 (i_ 29 (.idx (T 26) (T 28))) <|
                     .op 4 (i_ 25 (.call 64 [(T 24)])) <|
                     .op 9 (i_ 30 (.call 64 [(T 29)])) <|
                     .op 10 (i_ 8 (.mv (T 25))) <|
                     .op 11 (i_ 9 (.mv (T 30))) <|
                     .nil)
                   (.seq
                    (.seq
                     (.ops [i_ 31 (.mv (T 8)),
                       i_ 32 (.ib .lss (T 31) (KI 0)),
                       i_ 33 (.mv (T 32)),
                       ig 34 33 false (.mv (T 9)),
                       ig 35 33 false (.ib .lss (T 34) (KI 0)),
                       i_ 36 (.pick (T 33) (KB true) (T 35))])
                     (.cond (T 36)
                      (.seq
                       (.ops [i_ 4 (.mv (KS [])),
                         i_ 5 (.mv (KI 4))])
                       .ret)
                      .skip))
                    (.seq
                     (.ops [i_ 37 (.mv (T 8)),
                       i_ 38 (.ib .shl (T 37) (.const (.int .u64 4))),
                       i_ 39 (.mv (T 9)),
                       i_ 40 (.ib .or (T 38) (T 39)),
                       i_ 41 (.conv .u8 (T 40)),
                       i_ 42 (.call 63 [(T 6), (T 41)])])
                     (.ops [i_ 43 (.mv (T 7)),
                       i_ 44 (.ib .add (T 43) (KI 2)),
                       i_ 7 (.mv (T 44))])))))))))))
           (.ops [i_ 14 (.mv (T 7)),
             i_ 15 (.ib .add (T 14) (KI 1)),
             i_ 7 (.mv (T 15))]))))))
      (.seq
       (.ops [i_ 63 (.call 65 [(T 6)]),
         i_ 4 (.mv (T 63)),
         i_ 5 (.mv (KI 0))])
       .ret))))
def m22 : MF := ⟨64, [(.tmp 4), (.tmp 5)], c22⟩
theorem r22 : resF Tryd.prog Tryd.f22 = some m22 := by kernel_rfl
theorem k22 : Callable Tryd.prog 22 := ⟨_, Tryd.func22, by kernel_rfl, by kernel_rfl⟩

def c23 : MC :=
   (.seq
    (.ops [i_ 4 (.mv (KS [])),
      i_ 5 (.mv (KI 0))])
    (.seq
     (.ops [i_ 6 (.mv (.const (.slice none 0 0)))])
     (.seq
      (.ops [i_ 7 (.mv (KI 0))])
      (.seq
       (.block 0
        (.loop [(8, 44), (4, 8), (44, 73)]
         (.seq
          (.seq
           (.ops [i_ 8 (.mv (T 7)),
             i_ 9 (.mv (T 0)),
             i_ 10 (.lenS (T 9)),
             i_ 11 (.ib .lss (T 8) (T 10))])
           (.cond (T 11)
            .skip
            (.exit 0)))
          (.block 1
           (.seq
            (.seq
             (.ops [i_ 12 (.mv (T 0)),
               i_ 13 (.mv (T 7)),
               i_ 14 (.idx (T 12) (T 13)),
               i_ 15 (.ib .eql (T 14) (KU 37))])
             (.cond (T 15)
              (.seq
               (.seq
                (.ops [i_ 16 (.mv (T 7)),
                  i_ 17 (.ib .add (T 16) (KI 2)),
                  i_ 18 (.mv (T 0)),
                  i_ 19 (.lenS (T 18)),
                  i_ 20 (.ib .geq (T 17) (T 19)),
                  i_ 21 (.mv (T 20)),
                  ig 22 21 false (.mv (T 0)),
                  ig 23 21 false (.mv (T 7)),
                  ig 24 21 false (.ib .add (T 23) (KI 1)),
                  ig 25 21 false (.idx (T 22) (T 24)),
                  ig 26 21 false (.call 66 [(T 25)]),
                  ig 27 21 false (.ib .lss (T 26) (KI 0)),
                  i_ 28 (.pick (T 21) (KB true) (T 27)),
                  i_ 29 (.mv (T 28)),
                  ig 30 29 false (.mv (T 0)),
                  ig 31 29 false (.mv (T 7)),
                  ig 32 29 false (.ib .add (T 31) (KI 2)),
                  ig 33 29 false (.idx (T 30) (T 32)),
                  ig 34 29 false (.call 66 [(T 33)]),
                  ig 35 29 false (.ib .lss (T 34) (KI 0)),
                  i_ 36 (.pick (T 29) (KB true) (T 35))])
                (.cond (T 36)
                 (.seq
                  (.ops [i_ 4 (.mv (KS [])),
                    i_ 5 (.mv (KI 4))])
                  .ret)
                 .skip))
               (.seq
                (.dops <|
                  .op 0 (i_ 37 (.mv (T 6))) <|
                  .op 1 (i_ 38 (.mv (T 0))) <|
                  .op 2 (i_ 39 (.mv (T 7))) <|
                  .op 3 (i_ 40 (.ib .add (T 39) (KI 1))) <|
                  .op 4 (i_ 41 (.idx (T 38) (T 40))) <|
                  .op 7 (i_ 44 (.mv (T 0))) <|
                  .op 8 (i_ 45 (.mv (T 7))) <|
                  .op 9 (i_ 46 (.ib .add (T 45) (KI 2))) <|
                  .op 10 (i_ 47 (.idx (T 44) (T 46))) <|
                  .op 5 (i_ 42 (.call 66 [(T 41)])) <|
                  .op 6 (i_ 43 (.ib .mul (KI 16) (T 42))) <|
                  .op 11 (i_ 48 (.call 66 [(T 47)])) <|
                  .op 12 (i_ 49 (.ib .add (T 43) (T 48))) <|
                  .op 13 (i_ 50 (.conv .u8 (T 49))) <|
                  .op 14 (id_ 51 (.bslice 5 [(.int .u8 0)] 1 1 [(0, (1, (T 50)))]) [13]) <|
                  .op 15 (id_ 52 (.append 5 1 1 (T 37) (T 51)) [13]) <|
                  .op 16 (i_ 6 (.mv (T 52))) <|
                  .nil)
                (.seq
                 (.ops [i_ 53 (.mv (T 7)),
                   i_ 54 (.ib .add (T 53) (KI 3)),
                   i_ 7 (.mv (T 54))])
                 (.exit 1))))
              .skip))
            (.seq
             (.seq
              (.ops [i_ 55 (.mv (T 0)),
                i_ 56 (.mv (T 7)),
                i_ 57 (.idx (T 55) (T 56)),
                i_ 58 (.ib .eql (T 57) (KU 43)),
                i_ 59 (.mv (T 58)),
                ig 60 59 true (.mv (T 1)),
                i_ 61 (.pick (T 59) (T 60) (KB false))])
              (.cond (T 61)
               (.ops [i_ 62 (.mv (T 6)),
                 i_ 63 (.bslice 5 [(.int .u8 0)] 1 1 [(0, (1, (KU 32)))]),
                 i_ 64 (.append 5 1 1 (T 62) (T 63)),
                 i_ 6 (.mv (T 64))])
               (.ops [i_ 65 (.mv (T 6)),
                 i_ 66 (.mv (T 0)),
                 i_ 67 (.mv (T 7)),
                 i_ 68 (.idx (T 66) (T 67)),
                 i_ 69 (.bslice 5 [(.int .u8 0)] 1 1 [(0, (1, (T 68)))]),
                 i_ 70 (.append 5 1 1 (T 65) (T 69)),
                 i_ 6 (.mv (T 70))])))
             (.ops [i_ 71 (.mv (T 7)),
               i_ 72 (.ib .add (T 71) (KI 1)),
               i_ 7 (.mv (T 72))])))))))
       (.seq
        (.ops [i_ 73 (.mv (T 6)),
          i_ 74 (.b2s (T 73)),
          i_ 4 (.mv (T 74)),
          i_ 5 (.mv (KI 0))])
        .ret)))))
def m23 : MF := ⟨75, [(.tmp 4), (.tmp 5)], c23⟩
theorem r23 : resF Tryd.prog Tryd.f23 = some m23 := by kernel_rfl
theorem k23 : Callable Tryd.prog 23 := ⟨_, Tryd.func23, by kernel_rfl, by kernel_rfl⟩

def c24 : MC :=
   (.seq
    (.ops [i_ 2 (.mv (KS []))])
    (.seq
     (.ops [i_ 3 (.raw ⟨(some 3), (.alloc 99), 0, "query.go:23", ⟨[]⟩, none⟩)])
     (.seq
      (.seq
       (.ops [i_ 5 (.mv (T 0)),
         i_ 6 (.lenS (T 5)),
         i_ 7 (.mv (KI 0))])
       (.block 0
        (.loop [(8, 32), (4, 5), (7, 8)]
         (.seq
          (.ops [i_ 8 (.ib .lss (T 7) (T 6))])
          (.seq
           (.cond (T 8)
            .skip
            (.exit 0))
           (.seq
            (.block 1
             (.seq
              (.ops [i_ 9 (.mv (T 7)),
                i_ 4 (.mv (T 9))])
              (.seq
               (.seq
                (.ops [i_ 10 (.mv (T 0)),
                  i_ 11 (.mv (T 4)),
                  i_ 12 (.idx (T 10) (T 11)),
                  i_ 13 (.call 67 [(T 12)])])
                (.cond (T 13)
                 (.seq
                  (.ops [i_ 14 (.mv (T 0)),
                    i_ 15 (.mv (T 4)),
                    i_ 16 (.idx (T 14) (T 15)),
                    i_ 17 (.call 63 [(T 3), (T 16)])])
                  (.exit 1))
                 .skip))
               (.seq
                (.ops [i_ 18 (.call 63 [(T 3), (KU 37)])])
                (.seq
                 (.ops [i_ 19 (.mv (T 0)),
                   i_ 20 (.mv (T 4)),
                   i_ 21 (.idx (T 19) (T 20)),
                   i_ 22 (.ib .shr (T 21) (.const (.int .u64 4))),
                   i_ 23 (.idx (KS [48, 49, 50, 51, 52, 53, 54, 55, 56, 57, 65, 66, 67, 68, 69, 70]) (T 22)),
                   i_ 24 (.call 63 [(T 3), (T 23)])])
                 (.ops [i_ 25 (.mv (T 0)),
                   i_ 26 (.mv (T 4)),
                   i_ 27 (.idx (T 25) (T 26)),
                   i_ 28 (.ib .and (T 27) (KU 15)),
                   i_ 29 (.idx (KS [48, 49, 50, 51, 52, 53, 54, 55, 56, 57, 65, 66, 67, 68, 69, 70]) (T 28)),
                   i_ 30 (.call 63 [(T 3), (T 29)])]))))))
            (.ops [i_ 31 (.ib .add (T 7) (KI 1)),
              i_ 7 (.mv (T 31))])))))))
      (.seq
       (.ops [i_ 32 (.call 65 [(T 3)]),
         i_ 2 (.mv (T 32))])
       .ret))))
def m24 : MF := ⟨33, [(.tmp 2)], c24⟩
theorem r24 : resF Tryd.prog Tryd.f24 = some m24 := by kernel_rfl
theorem k24 : Callable Tryd.prog 24 := ⟨_, Tryd.func24, by kernel_rfl, by kernel_rfl⟩

def c25 : MC :=
   (.seq
    (.ops [i_ 2 (.mv (KS []))])
    (.seq
     (.ops [i_ 3 (.mv (KS []))])
     (.seq
      (.seq
       (.ops [i_ 4 (.mv (KI 0))])
       (.block 0
        (.loop [(5, 11), (11, 46), (3, 5)]
         (.seq
          (.seq
           (.ops [i_ 5 (.mv (T 4)),
             i_ 6 (.mv (T 0)),
             i_ 7 (.lenS (T 6)),
             i_ 8 (.ib .lss (T 5) (T 7))])
           (.cond (T 8)
            .skip
            (.exit 0)))
          (.seq
           (.block 1
            (.seq
             (.ops [i_ 11 (.mv (T 0)),
               i_ 12 (.mv (T 4)),
               i_ 13 (.idx (T 11) (T 12)),
               i_ 14 (.call 68 [(T 13)])])
             (.cond (T 14)
              (.ops [i_ 15 (.mv (T 3)),
                i_ 16 (.mv (T 0)),
                i_ 17 (.mv (T 4)),
                i_ 18 (.mv (T 4)),
                i_ 19 (.ib .add (T 18) (KI 1)),
                i_ 20 (.slS (T 16) (some (T 17)) (some (T 19))),
                i_ 21 (.sb .add (T 15) (T 20)),
                i_ 3 (.mv (T 21))])
              (.dops <|
                .op 0 (i_ 22 (.mv (T 3))) <|
                .op 1 (i_ 23 (.sb .add (T 22) (KS [37]))) <|
                .op 2 (i_ 24 (.mv (T 0))) <|
                .op 3 (i_ 25 (.mv (T 4))) <|
                .op 4 (i_ 26 (.idx (T 24) (T 25))) <|
                .op 5 (i_ 27 (.ib .quo (T 26) (KU 16))) <|
                .op 6 (i_ 28 (.mv (T 0))) <|
                .op 7 (i_ 29 (.mv (T 4))) <|
                .op 8 (i_ 30 (.idx (T 28) (T 29))) <|
                .op 9 (i_ 31 (.ib .quo (T 30) (KU 16))) <|
                .op 10 (i_ 32 (.ib .add (T 31) (KU 1))) <|
                .op 11 (i_ 33 (.slS (KS [48, 49, 50, 51, 52, 53, 54, 55, 56, 57, 65, 66, 67, 68, 69, 70]) (some (T 27)) (some (T 32)))) <|
                .op 12 (i_ 34 (.sb .add (T 23) (T 33))) <|
                .op 13 (i_ 35 (.mv (T 0))) <|
                .op 14 (i_ 36 (.mv (T 4))) <|
                .op 15 (i_ 37 (.idx (T 35) (T 36))) <|
                .op 16 (i_ 38 (.ib .rem (T 37) (KU 16))) <|
                .op 17 (i_ 39 (.mv (T 0))) <|
                .op 18 (i_ 40 (.mv (T 4))) <|
                .op 19 (i_ 41 (.idx (T 39) (T 40))) <|
                .op 20 (i_ 42 (.ib .rem (T 41) (KU 16))) <|
                .op 21 (i_ 43 (.ib .add (T 42) (KU 1))) <|
                .op 22 (i_ 44 (.slS (KS [48, 49, 50, 51, 52, 53, 54, 55, 56, 57, 65, 66, 67, 68, 69, 70]) (some (T 38)) (some (T 43)))) <|
                .op 23 (i_ 45 (.sb .add (T 34) (T 44))) <|
                .op 24 (i_ 3 (.mv (T 45))) <|
                .nil))))
           (.ops [i_ 9 (.mv (T 4)),
             i_ 10 (.ib .add (T 9) (KI 1)),
             i_ 4 (.mv (T 10))]))))))
      (.seq
       (.ops [i_ 46 (.mv (T 3)),
         i_ 2 (.mv (T 46))])
       .ret))))
def m25 : MF := ⟨47, [(.tmp 2)], c25⟩
theorem r25 : resF Tryd.prog Tryd.f25 = some m25 := by kernel_rfl
theorem k25 : Callable Tryd.prog 25 := ⟨_, Tryd.func25, by kernel_rfl, by kernel_rfl⟩

end Go.Proofs.YtkhgmmejgikgnaaDoor
