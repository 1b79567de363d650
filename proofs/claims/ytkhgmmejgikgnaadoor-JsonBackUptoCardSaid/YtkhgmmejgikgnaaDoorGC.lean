/- Texts of this proof, one behind the other: CodeB CodeQA CodeQB CodeRT CodeRV CodeHT CodeJP CodeRJ CodeJE. No statement of the seat is proved here. -/
import Derived.Test.YtkhgmmejgikgnaaDoorPB

/- Functions of the program, resolved: made by a program of ours; each is checked by the kernel. -/
namespace Go.Proofs.YtkhgmmejgikgnaaDoor
def c63 : MC :=
   (.seq
    (.ops [i_ 4 (.mv (.const .nilIface))])
    (.seq
     (.ops [i_ 5 (.mv (T 0)),
       i_ 6 (.call 109 [(T 5)])])
     (.seq
      (.ops [i_ 7 (.mv (T 0)),
        i_ 8 (.mv (T 0)),
        i_ 9 (.nilck (T 8)),
        i_ 10 (.faddr 1 (T 9)),
        i_ 11 (.ld1 (T 10)),
        i_ 12 (.mv (T 1)),
        i_ 13 (.bslice 5 [(.int .u8 0)] 1 1 [(0, (1, (T 12)))]),
        i_ 14 (.append 5 1 1 (T 11) (T 13)),
        i_ 15 (.nilck (T 7)),
        i_ 16 (.faddr 1 (T 15)),
        n_ (.st 1 (T 16) (T 14))])
      (.seq
       (.ops [i_ 4 (.mv (.const .nilIface))])
       .ret))))
def m63 : MF := ⟨17, [(.tmp 4)], c63⟩
theorem r63 : resF Tryd.prog Tryd.f63 = some m63 := by kernel_rfl
theorem k63 : Callable Tryd.prog 63 := ⟨_, Tryd.func63, by kernel_rfl, by kernel_rfl⟩

def c65 : MC :=
   (.seq
    (.ops [i_ 2 (.mv (KS []))])
    (.seq
     (.dops <|
       .op 0 (i_ 3 (.mv (T 0))) <|
       .op 1 (i_ 4 (.nilck (T 3))) <|
       .op 2 (i_ 5 (.faddr 1 (T 4))) <|
       .op 3 (i_ 6 (.ld1 (T 5))) <|
       .op 5 (i_ 8 (.mv (T 0))) <|
       .op 6 (i_ 9 (.nilck (T 8))) <|
       .op 7 (i_ 10 (.faddr 1 (T 9))) <|
       .op 8 (i_ 11 (.ld1 (T 10))) <|
       .op 9 (i_ 12 (.lenV (T 11))) <|
       .op 4 (id_ 7 (.raw ⟨(some 7), (.call ⟨(.builtin .unsafeSliceData), ⟨[(T 6)]⟩, ⟨[33]⟩⟩), 142, "builder.go:47", ⟨[⟨3, .data⟩]⟩, none⟩) [3]) <|
       .op 10 (id_ 13 (.raw ⟨(some 13), (.call ⟨(.builtin .unsafeString), ⟨[(T 7), (T 12)]⟩, ⟨[142, 3]⟩⟩), 9, "builder.go:47", ⟨[⟨4, .data⟩, ⟨9, .data⟩]⟩, none⟩) [8, 3]) <|
       .op 11 (i_ 2 (.mv (T 13))) <|
       .nil)
     .ret))
def m65 : MF := ⟨14, [(.tmp 2)], c65⟩
theorem r65 : resF Tryd.prog Tryd.f65 = some m65 := by kernel_rfl
theorem k65 : Callable Tryd.prog 65 := ⟨_, Tryd.func65, by kernel_rfl, by kernel_rfl⟩

def c92 : MC :=
   (.seq
    (.ops [i_ 2 (.mv (KI 0))])
    (.seq
     (.ops [i_ 3 (.mv (T 0)),
       i_ 4 (.nilck (T 3)),
       i_ 5 (.faddr 1 (T 4)),
       i_ 6 (.ld1 (T 5)),
       i_ 7 (.lenV (T 6)),
       i_ 2 (.mv (T 7))])
     .ret))
def m92 : MF := ⟨8, [(.tmp 2)], c92⟩
theorem r92 : resF Tryd.prog Tryd.f92 = some m92 := by kernel_rfl
theorem k92 : Callable Tryd.prog 92 := ⟨_, Tryd.func92, by kernel_rfl, by kernel_rfl⟩

def c114 : MC :=
   (.seq
    (.ops [i_ 4 (.mv (KI 0)),
      i_ 5 (.mv (.const .nilIface))])
    (.seq
     (.ops [i_ 6 (.mv (T 0)),
       i_ 7 (.call 109 [(T 6)])])
     (.seq
      (.ops [i_ 8 (.mv (T 0)),
        i_ 9 (.mv (T 0)),
        i_ 10 (.nilck (T 9)),
        i_ 11 (.faddr 1 (T 10)),
        i_ 12 (.ld1 (T 11)),
        i_ 13 (.mv (T 1)),
        i_ 14 (.raw ⟨(some 14), (.call ⟨(.builtin .append), ⟨[(T 12), (T 13)]⟩, ⟨[33, 9]⟩⟩), 33, "builder.go:114", ⟨[⟨4, .data⟩, ⟨5, .data⟩]⟩, none⟩),
        i_ 15 (.nilck (T 8)),
        i_ 16 (.faddr 1 (T 15)),
        n_ (.st 1 (T 16) (T 14))])
      (.seq
       (.ops [i_ 17 (.mv (T 1)),
         i_ 18 (.lenS (T 17)),
         i_ 4 (.mv (T 18)),
         i_ 5 (.mv (.const .nilIface))])
       .ret))))
def m114 : MF := ⟨19, [(.tmp 4), (.tmp 5)], c114⟩
theorem r114 : resF Tryd.prog Tryd.f114 = some m114 := by kernel_rfl
theorem k114 : Callable Tryd.prog 114 := ⟨_, Tryd.func114, by kernel_rfl, by kernel_rfl⟩

end Go.Proofs.YtkhgmmejgikgnaaDoor

/- Functions of the program, resolved: made by a program of ours; each is checked by the kernel. -/
namespace Go.Proofs.YtkhgmmejgikgnaaDoor
def c14 : MC :=
   (.seq
    (.ops [i_ 4 (.mv (KS []))])
    (.seq
     (.seq
      (.ops [i_ 5 (.mv (T 0)),
        i_ 6 (.lenS (T 5)),
        i_ 7 (.mv (T 1)),
        i_ 8 (.ib .gtr (T 6) (T 7))])
      (.cond (T 8)
       (.seq
        (.ops [i_ 9 (.mv (T 0)),
          i_ 10 (.mv (T 1)),
          i_ 11 (.slS (T 9) none (some (T 10))),
          i_ 4 (.mv (T 11))])
        .ret)
       .skip))
     (.seq
      (.ops [i_ 12 (.mv (T 0)),
        i_ 4 (.mv (T 12))])
      .ret)))
def m14 : MF := ⟨13, [(.tmp 4)], c14⟩
theorem r14 : resF Tryd.prog Tryd.f14 = some m14 := by kernel_rfl
theorem k14 : Callable Tryd.prog 14 := ⟨_, Tryd.func14, by kernel_rfl, by kernel_rfl⟩

def c19 : MC :=
   (.seq
    (.ops [i_ 6 (.mv (KI 0))])
    (.seq
     (.seq
      (.ops [i_ 7 (.mv (T 0)),
        i_ 8 (.mv (T 1)),
        i_ 9 (.ib .lss (T 7) (T 8))])
      (.cond (T 9)
       (.seq
        (.ops [i_ 10 (.mv (T 1)),
          i_ 6 (.mv (T 10))])
        .ret)
       .skip))
     (.seq
      (.seq
       (.ops [i_ 11 (.mv (T 0)),
         i_ 12 (.mv (T 2)),
         i_ 13 (.ib .gtr (T 11) (T 12))])
       (.cond (T 13)
        (.seq
         (.ops [i_ 14 (.mv (T 2)),
           i_ 6 (.mv (T 14))])
         .ret)
        .skip))
      (.seq
       (.ops [i_ 15 (.mv (T 0)),
         i_ 6 (.mv (T 15))])
       .ret))))
def m19 : MF := ⟨16, [(.tmp 6)], c19⟩
theorem r19 : resF Tryd.prog Tryd.f19 = some m19 := by kernel_rfl
theorem k19 : Callable Tryd.prog 19 := ⟨_, Tryd.func19, by kernel_rfl, by kernel_rfl⟩

def c17 : MC :=
   (.seq
    (.ops [i_ 4 (.mv (KB false))])
    (.seq
     (.seq
      (.ops [i_ 6 (.mv (T 0)),
        i_ 7 (.lenV (T 6)),
        i_ 8 (.mv (T 1)),
        i_ 9 (.lenV (T 8)),
        i_ 10 (.ib .neq (T 7) (T 9))])
      (.cond (T 10)
       (.seq
        (.ops [i_ 4 (.mv (KB false))])
        .ret)
       .skip))
     (.seq
      (.seq
       (.ops [i_ 5 (.mv (KI 0))])
       (.block 0
        (.loop [(11, 17), (17, 26), (4, 6)]
         (.seq
          (.seq
           (.ops [i_ 11 (.mv (T 5)),
             i_ 12 (.mv (T 0)),
             i_ 13 (.lenV (T 12)),
             i_ 14 (.ib .lss (T 11) (T 13))])
           (.cond (T 14)
            .skip
            (.exit 0)))
          (.seq
           (.block 1
            (.seq
             (.dops <|
               .op 0 (i_ 17 (.mv (T 0))) <|
               .op 1 (i_ 18 (.mv (T 5))) <|
               .op 2 (i_ 19 (.iaddr 2 (T 17) (T 18))) <|
               .op 3 (i_ 20 (.ldN 2 (T 19))) <|
               .op 4 (i_ 21 (.mv (T 1))) <|
               .op 5 (i_ 22 (.mv (T 5))) <|
               .op 6 (i_ 23 (.iaddr 2 (T 21) (T 22))) <|
               .op 7 (i_ 24 (.ldN 2 (T 23))) <|
               .op 8 (i_ 25 (.eqA true 71 [71] [2, 2] (T 20) (T 24))) <|
               .nil)
             (.cond (T 25)
              (.seq
               (.ops [i_ 4 (.mv (KB false))])
               .ret)
              .skip)))
           (.ops [i_ 15 (.mv (T 5)),
             i_ 16 (.ib .add (T 15) (KI 1)),
             i_ 5 (.mv (T 16))]))))))
      (.seq
       (.ops [i_ 4 (.mv (KB true))])
       .ret))))
def m17 : MF := ⟨26, [(.tmp 4)], c17⟩
theorem r17 : resF Tryd.prog Tryd.f17 = some m17 := by kernel_rfl
theorem k17 : Callable Tryd.prog 17 := ⟨_, Tryd.func17, by kernel_rfl, by kernel_rfl⟩

def c26 : MC :=
   (.seq
    (.ops [i_ 6 (.mv (.const (.slice none 0 0)))])
    (.seq
     (.ops [i_ 7 (.mv (.const (.slice none 0 0)))])
     (.seq
      (.seq
       (.ops [i_ 8 (.mv (KI 0))])
       (.block 0
        (.loop [(9, 20), (20, 28), (28, 38), (7, 9)]
         (.seq
          (.seq
           (.ops [i_ 9 (.mv (T 8)),
             i_ 10 (.mv (T 0)),
             i_ 11 (.lenV (T 10)),
             i_ 12 (.ib .lss (T 9) (T 11)),
             i_ 13 (.mv (T 12)),
             ig 14 13 true (.mv (T 8)),
             ig 15 13 true (.mv (T 1)),
             ig 16 13 true (.ib .lss (T 14) (T 15)),
             i_ 17 (.pick (T 13) (T 16) (KB false))])
           (.cond (T 17)
            .skip
            (.exit 0)))
          (.seq
           (.block 1
            (.dops <|
              .op 0 (i_ 20 (.mv (T 7))) <|
              .op 1 (i_ 21 (.mv (T 0))) <|
              .op 2 (i_ 22 (.mv (T 8))) <|
              .op 3 (i_ 23 (.iaddr 2 (T 21) (T 22))) <|
              .op 4 (i_ 24 (.faddr 0 (T 23))) <|
              .op 5 (i_ 25 (.ld1 (T 24))) <|
              .op 6 (i_ 26 (.mv (T 2))) <|
              .op 8 (i_ 28 (.mv (T 0))) <|
              .op 9 (i_ 29 (.mv (T 8))) <|
              .op 10 (i_ 30 (.iaddr 2 (T 28) (T 29))) <|
              .op 11 (i_ 31 (.faddr 1 (T 30))) <|
              .op 12 (i_ 32 (.ld1 (T 31))) <|
              .op 13 (i_ 33 (.mv (T 2))) <|
              .op 7 (id_ 27 (.call 14 [(T 25), (T 26)]) [5]) <|
              .op 14 (id_ 34 (.call 14 [(T 32), (T 33)]) [5, 12]) <|
              .op 15 (i_ 35 (.build [(.string ⟨⟨[]⟩⟩), (.string ⟨⟨[]⟩⟩)] [(0, (1, (T 27))), (1, (1, (T 34)))])) <|
              .op 16 (id_ 36 (.bslice 71 [(.string ⟨⟨[]⟩⟩), (.string ⟨⟨[]⟩⟩)] 1 2 [(0, (2, (T 35)))]) [5, 12]) <|
              .op 17 (id_ 37 (.append 71 2 32 (T 20) (T 36)) [12, 5]) <|
              .op 18 (i_ 7 (.mv (T 37))) <|
              .nil))
           (.ops [i_ 18 (.mv (T 8)),
             i_ 19 (.ib .add (T 18) (KI 1)),
             i_ 8 (.mv (T 19))]))))))
      (.seq
       (.ops [i_ 38 (.mv (T 7)),
         i_ 6 (.mv (T 38))])
       .ret))))
def m26 : MF := ⟨39, [(.tmp 6)], c26⟩
theorem r26 : resF Tryd.prog Tryd.f26 = some m26 := by kernel_rfl
theorem k26 : Callable Tryd.prog 26 := ⟨_, Tryd.func26, by kernel_rfl, by kernel_rfl⟩

def c67 : MC :=
   (.seq
    (.ops [i_ 2 (.mv (KB false))])
    (.seq
     (.block 0
      (.seq
       (.seq
        (.ops [i_ 4 (.mv (T 0)),
          i_ 5 (.ib .geq (T 4) (KU 97)),
          i_ 6 (.mv (T 5)),
          ig 7 6 true (.mv (T 0)),
          ig 8 6 true (.ib .leq (T 7) (KU 122)),
          i_ 9 (.pick (T 6) (T 8) (KB false)),
          i_ 3 (.mv (T 9))])
        (.cond (T 3)
         .skip
         (.seq
          (.ops [i_ 10 (.mv (T 0)),
            i_ 11 (.ib .geq (T 10) (KU 65)),
            i_ 12 (.mv (T 11)),
            ig 13 12 true (.mv (T 0)),
            ig 14 12 true (.ib .leq (T 13) (KU 90)),
            i_ 15 (.pick (T 12) (T 14) (KB false)),
            i_ 3 (.mv (T 15))])
          (.cond (T 3)
           .skip
           (.ops [i_ 16 (.mv (T 0)),
             i_ 17 (.ib .geq (T 16) (KU 48)),
             i_ 18 (.mv (T 17)),
             ig 19 18 true (.mv (T 0)),
             ig 20 18 true (.ib .leq (T 19) (KU 57)),
             i_ 21 (.pick (T 18) (T 20) (KB false)),
             i_ 3 (.mv (T 21))])))))
       (.cond (T 3)
        (.seq
         (.ops [i_ 2 (.mv (KB true))])
         .ret)
        .skip)))
     (.seq
      (.ops [i_ 22 (.mv (T 0)),
        i_ 23 (.ib .eql (T 22) (KU 45)),
        i_ 24 (.mv (T 23)),
        ig 25 24 false (.mv (T 0)),
        ig 26 24 false (.ib .eql (T 25) (KU 46)),
        i_ 27 (.pick (T 24) (KB true) (T 26)),
        i_ 28 (.mv (T 27)),
        ig 29 28 false (.mv (T 0)),
        ig 30 28 false (.ib .eql (T 29) (KU 95)),
        i_ 31 (.pick (T 28) (KB true) (T 30)),
        i_ 32 (.mv (T 31)),
        ig 33 32 false (.mv (T 0)),
        ig 34 32 false (.ib .eql (T 33) (KU 126)),
        i_ 35 (.pick (T 32) (KB true) (T 34)),
        i_ 2 (.mv (T 35))])
      .ret)))
def m67 : MF := ⟨36, [(.tmp 2)], c67⟩
theorem r67 : resF Tryd.prog Tryd.f67 = some m67 := by kernel_rfl
theorem k67 : Callable Tryd.prog 67 := ⟨_, Tryd.func67, by kernel_rfl, by kernel_rfl⟩

def c68 : MC :=
   (.seq
    (.ops [i_ 2 (.mv (KB false))])
    (.seq
     (.ops [i_ 3 (.mv (T 0)),
       i_ 4 (.ib .geq (T 3) (KU 97)),
       i_ 5 (.mv (T 4)),
       ig 6 5 true (.mv (T 0)),
       ig 7 5 true (.ib .leq (T 6) (KU 122)),
       i_ 8 (.pick (T 5) (T 7) (KB false)),
       i_ 9 (.mv (T 8)),
       ig 10 9 false (.mv (T 0)),
       ig 11 9 false (.ib .geq (T 10) (KU 65)),
       ig 12 9 false (.mv (T 11)),
       ig 13 12 true (.mv (T 0)),
       ig 14 12 true (.ib .leq (T 13) (KU 90)),
       ig 15 9 false (.pick (T 12) (T 14) (KB false)),
       i_ 16 (.pick (T 9) (KB true) (T 15)),
       i_ 17 (.mv (T 16)),
       ig 18 17 false (.mv (T 0)),
       ig 19 17 false (.ib .geq (T 18) (KU 48)),
       ig 20 17 false (.mv (T 19)),
       ig 21 20 true (.mv (T 0)),
       ig 22 20 true (.ib .leq (T 21) (KU 57)),
       ig 23 17 false (.pick (T 20) (T 22) (KB false)),
       i_ 24 (.pick (T 17) (KB true) (T 23)),
       i_ 25 (.mv (T 24)),
       ig 26 25 false (.mv (T 0)),
       ig 27 25 false (.ib .eql (T 26) (KU 45)),
       i_ 28 (.pick (T 25) (KB true) (T 27)),
       i_ 29 (.mv (T 28)),
       ig 30 29 false (.mv (T 0)),
       ig 31 29 false (.ib .eql (T 30) (KU 46)),
       i_ 32 (.pick (T 29) (KB true) (T 31)),
       i_ 33 (.mv (T 32)),
       ig 34 33 false (.mv (T 0)),
       ig 35 33 false (.ib .eql (T 34) (KU 95)),
       i_ 36 (.pick (T 33) (KB true) (T 35)),
       i_ 37 (.mv (T 36)),
       ig 38 37 false (.mv (T 0)),
       ig 39 37 false (.ib .eql (T 38) (KU 126)),
       i_ 40 (.pick (T 37) (KB true) (T 39)),
       i_ 2 (.mv (T 40))])
     .ret))
def m68 : MF := ⟨41, [(.tmp 2)], c68⟩
theorem r68 : resF Tryd.prog Tryd.f68 = some m68 := by kernel_rfl
theorem k68 : Callable Tryd.prog 68 := ⟨_, Tryd.func68, by kernel_rfl, by kernel_rfl⟩

def c64 : MC :=
   (.seq
    (.ops [i_ 2 (.mv (KI 0))])
    (.seq
     (.seq
      (.ops [i_ 3 (.mv (T 0)),
        i_ 4 (.ib .geq (T 3) (KU 97)),
        i_ 5 (.mv (T 4)),
        ig 6 5 true (.mv (T 0)),
        ig 7 5 true (.ib .leq (T 6) (KU 102)),
        i_ 8 (.pick (T 5) (T 7) (KB false))])
      (.cond (T 8)
       (.ops [i_ 9 (.mv (T 0)),
         i_ 10 (.ib .sub (T 9) (KU 32)),
         i_ 0 (.mv (T 10))])
       .skip))
     (.seq
      (.ops [i_ 11 (.mv (T 0)),
        i_ 12 (.call 110 [(KS [48, 49, 50, 51, 52, 53, 54, 55, 56, 57, 65, 66, 67, 68, 69, 70]), (T 11)]),
        i_ 2 (.mv (T 12))])
      .ret)))
def m64 : MF := ⟨13, [(.tmp 2)], c64⟩
theorem r64 : resF Tryd.prog Tryd.f64 = some m64 := by kernel_rfl
theorem k64 : Callable Tryd.prog 64 := ⟨_, Tryd.func64, by kernel_rfl, by kernel_rfl⟩

def c66 : MC :=
   (.seq
    (.ops [i_ 2 (.mv (KI 0))])
    (.seq
     (.seq
      (.ops [i_ 3 (.mv (T 0)),
        i_ 4 (.ib .geq (T 3) (KU 48)),
        i_ 5 (.mv (T 4)),
        ig 6 5 true (.mv (T 0)),
        ig 7 5 true (.ib .leq (T 6) (KU 57)),
        i_ 8 (.pick (T 5) (T 7) (KB false))])
      (.cond (T 8)
       (.seq
        (.ops [i_ 9 (.mv (T 0)),
          i_ 10 (.conv .i64 (T 9)),
          i_ 11 (.ib .sub (T 10) (KI 48)),
          i_ 2 (.mv (T 11))])
        .ret)
       .skip))
     (.seq
      (.seq
       (.ops [i_ 12 (.mv (T 0)),
         i_ 13 (.ib .geq (T 12) (KU 65)),
         i_ 14 (.mv (T 13)),
         ig 15 14 true (.mv (T 0)),
         ig 16 14 true (.ib .leq (T 15) (KU 70)),
         i_ 17 (.pick (T 14) (T 16) (KB false))])
       (.cond (T 17)
        (.seq
         (.ops [i_ 18 (.mv (T 0)),
           i_ 19 (.conv .i64 (T 18)),
           i_ 20 (.ib .sub (T 19) (KI 55)),
           i_ 2 (.mv (T 20))])
         .ret)
        .skip))
      (.seq
       (.seq
        (.ops [i_ 21 (.mv (T 0)),
          i_ 22 (.ib .geq (T 21) (KU 97)),
          i_ 23 (.mv (T 22)),
          ig 24 23 true (.mv (T 0)),
          ig 25 23 true (.ib .leq (T 24) (KU 102)),
          i_ 26 (.pick (T 23) (T 25) (KB false))])
        (.cond (T 26)
         (.seq
          (.ops [i_ 27 (.mv (T 0)),
            i_ 28 (.conv .i64 (T 27)),
            i_ 29 (.ib .sub (T 28) (KI 87)),
            i_ 2 (.mv (T 29))])
          .ret)
         .skip))
       (.seq
        (.ops [i_ 2 (.mv (KI (-1)))])
        .ret)))))
def m66 : MF := ⟨30, [(.tmp 2)], c66⟩
theorem r66 : resF Tryd.prog Tryd.f66 = some m66 := by kernel_rfl
theorem k66 : Callable Tryd.prog 66 := ⟨_, Tryd.func66, by kernel_rfl, by kernel_rfl⟩

def c22 : MC :=
   (.seq
    (.ops [i_ 4 (.mv (KS [])),
      i_ 5 (.mv (KI 0))])
    (.seq
     (.ops [i_ 6 (.raw ⟨(some 6), (.alloc 99), 0, "query.go:46", ⟨[]⟩, none⟩)])
     (.seq
      (.seq
       (.ops [i_ 7 (.mv (KI 0))])
       (.block 0
        (.loop [(10, 16), (46, 55), (45, 46), (55, 63), (16, 26), (4, 6), (26, 45), (8, 10), (7, 8)]
         (.seq
          (.seq
           (.ops [i_ 10 (.mv (T 7)),
             i_ 11 (.mv (T 0)),
             i_ 12 (.lenS (T 11)),
             i_ 13 (.ib .lss (T 10) (T 12))])
           (.cond (T 13)
            .skip
            (.exit 0)))
          (.seq
           (.block 1
            (.block 2
             (.seq
              (.ops [i_ 46 (.mv (T 0)),
                i_ 47 (.mv (T 7)),
                i_ 48 (.idx (T 46) (T 47)),
                i_ 49 (.ib .eql (T 48) (KU 43)),
                i_ 50 (.mv (T 49)),
                ig 51 50 true (.mv (T 1)),
                i_ 52 (.pick (T 50) (T 51) (KB false)),
                i_ 45 (.mv (T 52))])
              (.cond (T 45)
               (.ops [i_ 53 (.call 63 [(T 6), (KU 32)])])
               (.seq
                (.ops [i_ 55 (.mv (T 0)),
                  i_ 56 (.mv (T 7)),
                  i_ 57 (.idx (T 55) (T 56)),
                  i_ 58 (.ib .neq (T 57) (KU 37)),
                  i_ 54 (.mv (T 58))])
                (.cond (T 54)
                 (.ops [i_ 59 (.mv (T 0)),
                   i_ 60 (.mv (T 7)),
                   i_ 61 (.idx (T 59) (T 60)),
                   i_ 62 (.call 63 [(T 6), (T 61)])])
                 (.seq
                  (.seq
                   (.ops [i_ 16 (.mv (T 0)),
                     i_ 17 (.lenS (T 16)),
                     i_ 18 (.mv (T 7)),
                     i_ 19 (.ib .sub (T 17) (T 18)),
                     i_ 20 (.ib .lss (T 19) (KI 3))])
                   (.cond (T 20)
                    (.seq
                     (.ops [i_ 4 (.mv (KS [])),
                       i_ 5 (.mv (KI 4))])
                     .ret)
                    .skip))
                  (.seq
                   (.dops <|
                     .op 0 (i_ 21 (.mv (T 0))) <|
                     .op 1 (i_ 22 (.mv (T 7))) <|
                     .op 2 (i_ 23 (.ib .add (T 22) (KI 1))) <|
                     .op 3 (i_ 24 (.idx (T 21) (T 23))) <|
                     .op 5 (i_ 26 (.mv (T 0))) <|
                     .op 6 (i_ 27 (.mv (T 7))) <|
                     .op 7 (i_ 28 (.ib .add (T 27) (KI 2))) <|
                     .op 8 (i_ 29 (.idx (T 26) (T 28))) <|
                     .op 4 (i_ 25 (.call 64 [(T 24)])) <|
                     .op 9 (i_ 30 (.call 64 [(T 29)])) <|
                     .op 10 (i_ 8 (.mv (T 25))) <|
                     .op 11 (i_ 9 (.mv (T 30))) <|
                     .nil)
                   (.seq
                    (.seq
                     (.ops [i_ 31 (.mv (T 8)),
                       i_ 32 (.ib .lss (T 31) (KI 0)),
                       i_ 33 (.mv (T 32)),
                       ig 34 33 false (.mv (T 9)),
                       ig 35 33 false (.ib .lss (T 34) (KI 0)),
                       i_ 36 (.pick (T 33) (KB true) (T 35))])
                     (.cond (T 36)
                      (.seq
                       (.ops [i_ 4 (.mv (KS [])),
                         i_ 5 (.mv (KI 4))])
                       .ret)
                      .skip))
                    (.seq
                     (.ops [i_ 37 (.mv (T 8)),
                       i_ 38 (.ib .shl (T 37) (.const (.int .u64 4))),
                       i_ 39 (.mv (T 9)),
                       i_ 40 (.ib .or (T 38) (T 39)),
                       i_ 41 (.conv .u8 (T 40)),
                       i_ 42 (.call 63 [(T 6), (T 41)])])
                     (.ops [i_ 43 (.mv (T 7)),
                       i_ 44 (.ib .add (T 43) (KI 2)),
                       i_ 7 (.mv (T 44))])))))))))))
           (.ops [i_ 14 (.mv (T 7)),
             i_ 15 (.ib .add (T 14) (KI 1)),
             i_ 7 (.mv (T 15))]))))))
      (.seq
       (.ops [i_ 63 (.call 65 [(T 6)]),
         i_ 4 (.mv (T 63)),
         i_ 5 (.mv (KI 0))])
       .ret))))
def m22 : MF := ⟨64, [(.tmp 4), (.tmp 5)], c22⟩
theorem r22 : resF Tryd.prog Tryd.f22 = some m22 := by kernel_rfl
theorem k22 : Callable Tryd.prog 22 := ⟨_, Tryd.func22, by kernel_rfl, by kernel_rfl⟩

def c23 : MC :=
   (.seq
    (.ops [i_ 4 (.mv (KS [])),
      i_ 5 (.mv (KI 0))])
    (.seq
     (.ops [i_ 6 (.mv (.const (.slice none 0 0)))])
     (.seq
      (.ops [i_ 7 (.mv (KI 0))])
      (.seq
       (.block 0
        (.loop [(8, 44), (4, 8), (44, 73)]
         (.seq
          (.seq
           (.ops [i_ 8 (.mv (T 7)),
             i_ 9 (.mv (T 0)),
             i_ 10 (.lenS (T 9)),
             i_ 11 (.ib .lss (T 8) (T 10))])
           (.cond (T 11)
            .skip
            (.exit 0)))
          (.block 1
           (.seq
            (.seq
             (.ops [i_ 12 (.mv (T 0)),
               i_ 13 (.mv (T 7)),
               i_ 14 (.idx (T 12) (T 13)),
               i_ 15 (.ib .eql (T 14) (KU 37))])
             (.cond (T 15)
              (.seq
               (.seq
                (.ops [i_ 16 (.mv (T 7)),
                  i_ 17 (.ib .add (T 16) (KI 2)),
                  i_ 18 (.mv (T 0)),
                  i_ 19 (.lenS (T 18)),
                  i_ 20 (.ib .geq (T 17) (T 19)),
                  i_ 21 (.mv (T 20)),
                  ig 22 21 false (.mv (T 0)),
                  ig 23 21 false (.mv (T 7)),
                  ig 24 21 false (.ib .add (T 23) (KI 1)),
                  ig 25 21 false (.idx (T 22) (T 24)),
                  ig 26 21 false (.call 66 [(T 25)]),
                  ig 27 21 false (.ib .lss (T 26) (KI 0)),
                  i_ 28 (.pick (T 21) (KB true) (T 27)),
                  i_ 29 (.mv (T 28)),
                  ig 30 29 false (.mv (T 0)),
                  ig 31 29 false (.mv (T 7)),
                  ig 32 29 false (.ib .add (T 31) (KI 2)),
                  ig 33 29 false (.idx (T 30) (T 32)),
                  ig 34 29 false (.call 66 [(T 33)]),
                  ig 35 29 false (.ib .lss (T 34) (KI 0)),
                  i_ 36 (.pick (T 29) (KB true) (T 35))])
                (.cond (T 36)
                 (.seq
                  (.ops [i_ 4 (.mv (KS [])),
                    i_ 5 (.mv (KI 4))])
                  .ret)
                 .skip))
               (.seq
                (.dops <|
                  .op 0 (i_ 37 (.mv (T 6))) <|
                  .op 1 (i_ 38 (.mv (T 0))) <|
                  .op 2 (i_ 39 (.mv (T 7))) <|
                  .op 3 (i_ 40 (.ib .add (T 39) (KI 1))) <|
                  .op 4 (i_ 41 (.idx (T 38) (T 40))) <|
                  .op 7 (i_ 44 (.mv (T 0))) <|
                  .op 8 (i_ 45 (.mv (T 7))) <|
                  .op 9 (i_ 46 (.ib .add (T 45) (KI 2))) <|
                  .op 10 (i_ 47 (.idx (T 44) (T 46))) <|
                  .op 5 (i_ 42 (.call 66 [(T 41)])) <|
                  .op 6 (i_ 43 (.ib .mul (KI 16) (T 42))) <|
                  .op 11 (i_ 48 (.call 66 [(T 47)])) <|
                  .op 12 (i_ 49 (.ib .add (T 43) (T 48))) <|
                  .op 13 (i_ 50 (.conv .u8 (T 49))) <|
                  .op 14 (id_ 51 (.bslice 5 [(.int .u8 0)] 1 1 [(0, (1, (T 50)))]) [13]) <|
                  .op 15 (id_ 52 (.append 5 1 1 (T 37) (T 51)) [13]) <|
                  .op 16 (i_ 6 (.mv (T 52))) <|
                  .nil)
                (.seq
                 (.ops [i_ 53 (.mv (T 7)),
                   i_ 54 (.ib .add (T 53) (KI 3)),
                   i_ 7 (.mv (T 54))])
                 (.exit 1))))
              .skip))
            (.seq
             (.seq
              (.ops [i_ 55 (.mv (T 0)),
                i_ 56 (.mv (T 7)),
                i_ 57 (.idx (T 55) (T 56)),
                i_ 58 (.ib .eql (T 57) (KU 43)),
                i_ 59 (.mv (T 58)),
                ig 60 59 true (.mv (T 1)),
                i_ 61 (.pick (T 59) (T 60) (KB false))])
              (.cond (T 61)
               (.ops [i_ 62 (.mv (T 6)),
                 i_ 63 (.bslice 5 [(.int .u8 0)] 1 1 [(0, (1, (KU 32)))]),
                 i_ 64 (.append 5 1 1 (T 62) (T 63)),
                 i_ 6 (.mv (T 64))])
               (.ops [i_ 65 (.mv (T 6)),
                 i_ 66 (.mv (T 0)),
                 i_ 67 (.mv (T 7)),
                 i_ 68 (.idx (T 66) (T 67)),
                 i_ 69 (.bslice 5 [(.int .u8 0)] 1 1 [(0, (1, (T 68)))]),
                 i_ 70 (.append 5 1 1 (T 65) (T 69)),
                 i_ 6 (.mv (T 70))])))
             (.ops [i_ 71 (.mv (T 7)),
               i_ 72 (.ib .add (T 71) (KI 1)),
               i_ 7 (.mv (T 72))])))))))
       (.seq
        (.ops [i_ 73 (.mv (T 6)),
          i_ 74 (.b2s (T 73)),
          i_ 4 (.mv (T 74)),
          i_ 5 (.mv (KI 0))])
        .ret)))))
def m23 : MF := ⟨75, [(.tmp 4), (.tmp 5)], c23⟩
theorem r23 : resF Tryd.prog Tryd.f23 = some m23 := by kernel_rfl
theorem k23 : Callable Tryd.prog 23 := ⟨_, Tryd.func23, by kernel_rfl, by kernel_rfl⟩

def c24 : MC :=
   (.seq
    (.ops [i_ 2 (.mv (KS []))])
    (.seq
     (.ops [i_ 3 (.raw ⟨(some 3), (.alloc 99), 0, "query.go:23", ⟨[]⟩, none⟩)])
     (.seq
      (.seq
       (.ops [i_ 5 (.mv (T 0)),
         i_ 6 (.lenS (T 5)),
         i_ 7 (.mv (KI 0))])
       (.block 0
        (.loop [(8, 32), (4, 5), (7, 8)]
         (.seq
          (.ops [i_ 8 (.ib .lss (T 7) (T 6))])
          (.seq
           (.cond (T 8)
            .skip
            (.exit 0))
           (.seq
            (.block 1
             (.seq
              (.ops [i_ 9 (.mv (T 7)),
                i_ 4 (.mv (T 9))])
              (.seq
               (.seq
                (.ops [i_ 10 (.mv (T 0)),
                  i_ 11 (.mv (T 4)),
                  i_ 12 (.idx (T 10) (T 11)),
                  i_ 13 (.call 67 [(T 12)])])
                (.cond (T 13)
                 (.seq
                  (.ops [i_ 14 (.mv (T 0)),
                    i_ 15 (.mv (T 4)),
                    i_ 16 (.idx (T 14) (T 15)),
                    i_ 17 (.call 63 [(T 3), (T 16)])])
                  (.exit 1))
                 .skip))
               (.seq
                (.ops [i_ 18 (.call 63 [(T 3), (KU 37)])])
                (.seq
                 (.ops [i_ 19 (.mv (T 0)),
                   i_ 20 (.mv (T 4)),
                   i_ 21 (.idx (T 19) (T 20)),
                   i_ 22 (.ib .shr (T 21) (.const (.int .u64 4))),
                   i_ 23 (.idx (KS [48, 49, 50, 51, 52, 53, 54, 55, 56, 57, 65, 66, 67, 68, 69, 70]) (T 22)),
                   i_ 24 (.call 63 [(T 3), (T 23)])])
                 (.ops [i_ 25 (.mv (T 0)),
                   i_ 26 (.mv (T 4)),
                   i_ 27 (.idx (T 25) (T 26)),
                   i_ 28 (.ib .and (T 27) (KU 15)),
                   i_ 29 (.idx (KS [48, 49, 50, 51, 52, 53, 54, 55, 56, 57, 65, 66, 67, 68, 69, 70]) (T 28)),
                   i_ 30 (.call 63 [(T 3), (T 29)])]))))))
            (.ops [i_ 31 (.ib .add (T 7) (KI 1)),
              i_ 7 (.mv (T 31))])))))))
      (.seq
       (.ops [i_ 32 (.call 65 [(T 3)]),
         i_ 2 (.mv (T 32))])
       .ret))))
def m24 : MF := ⟨33, [(.tmp 2)], c24⟩
theorem r24 : resF Tryd.prog Tryd.f24 = some m24 := by kernel_rfl
theorem k24 : Callable Tryd.prog 24 := ⟨_, Tryd.func24, by kernel_rfl, by kernel_rfl⟩

def c25 : MC :=
   (.seq
    (.ops [i_ 2 (.mv (KS []))])
    (.seq
     (.ops [i_ 3 (.mv (KS []))])
     (.seq
      (.seq
       (.ops [i_ 4 (.mv (KI 0))])
       (.block 0
        (.loop [(5, 11), (11, 46), (3, 5)]
         (.seq
          (.seq
           (.ops [i_ 5 (.mv (T 4)),
             i_ 6 (.mv (T 0)),
             i_ 7 (.lenS (T 6)),
             i_ 8 (.ib .lss (T 5) (T 7))])
           (.cond (T 8)
            .skip
            (.exit 0)))
          (.seq
           (.block 1
            (.seq
             (.ops [i_ 11 (.mv (T 0)),
               i_ 12 (.mv (T 4)),
               i_ 13 (.idx (T 11) (T 12)),
               i_ 14 (.call 68 [(T 13)])])
             (.cond (T 14)
              (.ops [i_ 15 (.mv (T 3)),
                i_ 16 (.mv (T 0)),
                i_ 17 (.mv (T 4)),
                i_ 18 (.mv (T 4)),
                i_ 19 (.ib .add (T 18) (KI 1)),
                i_ 20 (.slS (T 16) (some (T 17)) (some (T 19))),
                i_ 21 (.sb .add (T 15) (T 20)),
                i_ 3 (.mv (T 21))])
              (.dops <|
                .op 0 (i_ 22 (.mv (T 3))) <|
                .op 1 (i_ 23 (.sb .add (T 22) (KS [37]))) <|
                .op 2 (i_ 24 (.mv (T 0))) <|
                .op 3 (i_ 25 (.mv (T 4))) <|
                .op 4 (i_ 26 (.idx (T 24) (T 25))) <|
                .op 5 (i_ 27 (.ib .quo (T 26) (KU 16))) <|
                .op 6 (i_ 28 (.mv (T 0))) <|
                .op 7 (i_ 29 (.mv (T 4))) <|
                .op 8 (i_ 30 (.idx (T 28) (T 29))) <|
                .op 9 (i_ 31 (.ib .quo (T 30) (KU 16))) <|
                .op 10 (i_ 32 (.ib .add (T 31) (KU 1))) <|
                .op 11 (i_ 33 (.slS (KS [48, 49, 50, 51, 52, 53, 54, 55, 56, 57, 65, 66, 67, 68, 69, 70]) (some (T 27)) (some (T 32)))) <|
                .op 12 (i_ 34 (.sb .add (T 23) (T 33))) <|
                .op 13 (i_ 35 (.mv (T 0))) <|
                .op 14 (i_ 36 (.mv (T 4))) <|
                .op 15 (i_ 37 (.idx (T 35) (T 36))) <|
                .op 16 (i_ 38 (.ib .rem (T 37) (KU 16))) <|
                .op 17 (i_ 39 (.mv (T 0))) <|
                .op 18 (i_ 40 (.mv (T 4))) <|
                .op 19 (i_ 41 (.idx (T 39) (T 40))) <|
                .op 20 (i_ 42 (.ib .rem (T 41) (KU 16))) <|
                .op 21 (i_ 43 (.ib .add (T 42) (KU 1))) <|
                .op 22 (i_ 44 (.slS (KS [48, 49, 50, 51, 52, 53, 54, 55, 56, 57, 65, 66, 67, 68, 69, 70]) (some (T 38)) (some (T 43)))) <|
                .op 23 (i_ 45 (.sb .add (T 34) (T 44))) <|
                .op 24 (i_ 3 (.mv (T 45))) <|
                .nil))))
           (.ops [i_ 9 (.mv (T 4)),
             i_ 10 (.ib .add (T 9) (KI 1)),
             i_ 4 (.mv (T 10))]))))))
      (.seq
       (.ops [i_ 46 (.mv (T 3)),
         i_ 2 (.mv (T 46))])
       .ret))))
def m25 : MF := ⟨47, [(.tmp 2)], c25⟩
theorem r25 : resF Tryd.prog Tryd.f25 = some m25 := by kernel_rfl
theorem k25 : Callable Tryd.prog 25 := ⟨_, Tryd.func25, by kernel_rfl, by kernel_rfl⟩

end Go.Proofs.YtkhgmmejgikgnaaDoor

/- Functions of the program, resolved: made by a program of ours; each is checked by the kernel. -/
namespace Go.Proofs.YtkhgmmejgikgnaaDoor
def c53 : MC :=
   (.seq
    (.ops [i_ 2 (.mv (.const (.slice none 0 0)))])
    (.seq
     (.ops [i_ 3 (.mv (.const (.slice none 0 0)))])
     (.seq
      (.seq
       (.ops [i_ 6 (.mv (T 0)),
         i_ 7 (.call 57 [(T 6), (KS [38])]),
         i_ 8 (.lenV (T 7)),
         i_ 9 (.mv (KI 0))])
       (.block 0
        (.loop [(10, 20), (5, 6), (3, 4), (9, 10)]
         (.seq
          (.ops [i_ 10 (.ib .lss (T 9) (T 8))])
          (.seq
           (.cond (T 10)
            .skip
            (.exit 0))
           (.seq
            (.block 1
             (.seq
              (.ops [i_ 11 (.iaddr 1 (T 7) (T 9)),
                i_ 12 (.ld1 (T 11)),
                i_ 5 (.mv (T 12))])
              (.seq
               (.ops [i_ 13 (.mv (T 5)),
                 i_ 14 (.sb .neq (T 13) (KS []))])
               (.cond (T 14)
                (.ops [i_ 15 (.mv (T 3)),
                  i_ 16 (.mv (T 5)),
                  i_ 17 (.bslice 9 [(.string ⟨⟨[]⟩⟩)] 1 1 [(0, (1, (T 16)))]),
                  i_ 18 (.append 9 1 16 (T 15) (T 17)),
                  i_ 3 (.mv (T 18))])
                .skip))))
            (.ops [i_ 19 (.ib .add (T 9) (KI 1)),
              i_ 9 (.mv (T 19))])))))))
      (.seq
       (.ops [i_ 20 (.mv (T 3)),
         i_ 2 (.mv (T 20))])
       .ret))))
def m53 : MF := ⟨21, [(.tmp 2)], c53⟩
theorem r53 : resF Tryd.prog Tryd.f53 = some m53 := by kernel_rfl
theorem k53 : Callable Tryd.prog 53 := ⟨_, Tryd.func53, by kernel_rfl, by kernel_rfl⟩

def c15 : MC :=
   (.seq
    (.ops [i_ 2 (.mv (.const (.slice none 0 0))),
      i_ 3 (.mv (KI 0))])
    (.seq
     (.ops [i_ 15 (.mv (T 0)),
       i_ 16 (.call 53 [(T 15)]),
       i_ 4 (.mv (T 16))])
     (.seq
      (.seq
       (.ops [i_ 17 (.mv (T 4)),
         i_ 18 (.lenV (T 17)),
         i_ 19 (.ib .gtr (T 18) (KI 64))])
       (.cond (T 19)
        (.seq
         (.ops [i_ 2 (.mv (.const (.slice none 0 0))),
           i_ 3 (.mv (KI 25))])
         .ret)
        .skip))
      (.seq
       (.ops [i_ 5 (.mv (.const (.slice none 0 0)))])
       (.seq
        (.seq
         (.ops [i_ 20 (.mv (T 4)),
           i_ 21 (.lenV (T 20)),
           i_ 22 (.mv (KI 0))])
         (.block 0
          (.loop [(23, 27), (7, 15), (27, 33), (33, 38), (38, 55), (2, 4), (5, 6), (22, 23)]
           (.seq
            (.ops [i_ 23 (.ib .lss (T 22) (T 21))])
            (.seq
             (.cond (T 23)
              .skip
              (.exit 0))
             (.seq
              (.block 1
               (.seq
                (.ops [i_ 24 (.iaddr 1 (T 20) (T 22)),
                  i_ 25 (.ld1 (T 24)),
                  i_ 7 (.mv (T 25))])
                (.seq
                 (.ops [i_ 27 (.mv (T 7)),
                   i_ 28 (.call 54 [(T 27), (KS [61])]),
                   i_ 26 (.mv (T 28)),
                   i_ 29 (.ext (T 26) 0),
                   i_ 30 (.ext (T 26) 1),
                   i_ 31 (.ext (T 26) 2),
                   i_ 8 (.mv (T 29)),
                   i_ 9 (.mv (T 30)),
                   i_ 10 (.mv (T 31))])
                 (.seq
                  (.ops [i_ 33 (.mv (T 8)),
                    i_ 34 (.call 22 [(T 33), (KB true)]),
                    i_ 32 (.mv (T 34)),
                    i_ 35 (.ext (T 32) 0),
                    i_ 36 (.ext (T 32) 1),
                    i_ 11 (.mv (T 35)),
                    i_ 12 (.mv (T 36))])
                  (.seq
                   (.ops [i_ 38 (.mv (T 9)),
                     i_ 39 (.call 22 [(T 38), (KB true)]),
                     i_ 37 (.mv (T 39)),
                     i_ 40 (.ext (T 37) 0),
                     i_ 41 (.ext (T 37) 1),
                     i_ 13 (.mv (T 40)),
                     i_ 14 (.mv (T 41))])
                   (.seq
                    (.seq
                     (.ops [i_ 42 (.mv (T 12)),
                       i_ 43 (.ib .neq (T 42) (KI 0)),
                       i_ 44 (.mv (T 43)),
                       ig 45 44 false (.mv (T 14)),
                       ig 46 44 false (.ib .neq (T 45) (KI 0)),
                       i_ 47 (.pick (T 44) (KB true) (T 46))])
                     (.cond (T 47)
                      (.seq
                       (.ops [i_ 2 (.mv (.const (.slice none 0 0))),
                         i_ 3 (.mv (KI 4))])
                       .ret)
                      .skip))
                    (.ops [i_ 48 (.mv (T 5)),
                      i_ 49 (.mv (T 11)),
                      i_ 50 (.mv (T 13)),
                      i_ 51 (.build [(.string ⟨⟨[]⟩⟩), (.string ⟨⟨[]⟩⟩)] [(0, (1, (T 49))), (1, (1, (T 50)))]),
                      i_ 52 (.bslice 71 [(.string ⟨⟨[]⟩⟩), (.string ⟨⟨[]⟩⟩)] 1 2 [(0, (2, (T 51)))]),
                      i_ 53 (.append 71 2 32 (T 48) (T 52)),
                      i_ 5 (.mv (T 53))])))))))
              (.ops [i_ 54 (.ib .add (T 22) (KI 1)),
                i_ 22 (.mv (T 54))])))))))
        (.seq
         (.ops [i_ 55 (.mv (T 5)),
           i_ 2 (.mv (T 55)),
           i_ 3 (.mv (KI 0))])
         .ret))))))
def m15 : MF := ⟨56, [(.tmp 2), (.tmp 3)], c15⟩
theorem r15 : resF Tryd.prog Tryd.f15 = some m15 := by kernel_rfl
theorem k15 : Callable Tryd.prog 15 := ⟨_, Tryd.func15, by kernel_rfl, by kernel_rfl⟩

def c55 : MC :=
   (.seq
    (.ops [i_ 4 (.mv (.const (.slice none 0 0)))])
    (.seq
     (.ops [i_ 5 (.mv (.const (.slice none 0 0)))])
     (.seq
      (.ops [i_ 6 (.mv (KI 0))])
      (.seq
       (.seq
        (.ops [i_ 7 (.mv (KI 0))])
        (.block 0
         (.loop [(8, 14), (14, 34), (5, 8)]
          (.seq
           (.seq
            (.ops [i_ 8 (.mv (T 7)),
              i_ 9 (.mv (T 0)),
              i_ 10 (.lenS (T 9)),
              i_ 11 (.ib .leq (T 8) (T 10))])
            (.cond (T 11)
             .skip
             (.exit 0)))
           (.seq
            (.block 1
             (.seq
              (.ops [i_ 14 (.mv (T 7)),
                i_ 15 (.mv (T 0)),
                i_ 16 (.lenS (T 15)),
                i_ 17 (.ib .eql (T 14) (T 16)),
                i_ 18 (.mv (T 17)),
                ig 19 18 false (.mv (T 0)),
                ig 20 18 false (.mv (T 7)),
                ig 21 18 false (.idx (T 19) (T 20)),
                ig 22 18 false (.mv (T 1)),
                ig 23 18 false (.ib .eql (T 21) (T 22)),
                i_ 24 (.pick (T 18) (KB true) (T 23))])
              (.cond (T 24)
               (.seq
                (.ops [i_ 25 (.mv (T 5)),
                  i_ 26 (.mv (T 0)),
                  i_ 27 (.mv (T 6)),
                  i_ 28 (.mv (T 7)),
                  i_ 29 (.slS (T 26) (some (T 27)) (some (T 28))),
                  i_ 30 (.bslice 9 [(.string ⟨⟨[]⟩⟩)] 1 1 [(0, (1, (T 29)))]),
                  i_ 31 (.append 9 1 16 (T 25) (T 30)),
                  i_ 5 (.mv (T 31))])
                (.ops [i_ 32 (.mv (T 7)),
                  i_ 33 (.ib .add (T 32) (KI 1)),
                  i_ 6 (.mv (T 33))]))
               .skip)))
            (.ops [i_ 12 (.mv (T 7)),
              i_ 13 (.ib .add (T 12) (KI 1)),
              i_ 7 (.mv (T 13))]))))))
       (.seq
        (.ops [i_ 34 (.mv (T 5)),
          i_ 4 (.mv (T 34))])
        .ret)))))
def m55 : MF := ⟨35, [(.tmp 4)], c55⟩
theorem r55 : resF Tryd.prog Tryd.f55 = some m55 := by kernel_rfl
theorem k55 : Callable Tryd.prog 55 := ⟨_, Tryd.func55, by kernel_rfl, by kernel_rfl⟩

def c16 : MC :=
   (.seq
    (.ops [i_ 2 (.mv (.const (.slice none 0 0))),
      i_ 3 (.mv (KI 0))])
    (.seq
     (.ops [i_ 4 (.mv (.const (.slice none 0 0)))])
     (.seq
      (.ops [i_ 15 (.mv (T 0)),
        i_ 16 (.call 55 [(T 15), (KU 38)]),
        i_ 5 (.mv (T 16))])
      (.seq
       (.seq
        (.ops [i_ 6 (.mv (KI 0))])
        (.block 0
         (.loop [(17, 23), (23, 35), (4, 5), (6, 7)]
          (.seq
           (.seq
            (.ops [i_ 17 (.mv (T 6)),
              i_ 18 (.mv (T 5)),
              i_ 19 (.lenV (T 18)),
              i_ 20 (.ib .lss (T 17) (T 19))])
            (.cond (T 20)
             .skip
             (.exit 0)))
           (.seq
            (.block 1
             (.seq
              (.ops [i_ 23 (.mv (T 5)),
                i_ 24 (.mv (T 6)),
                i_ 25 (.iaddr 1 (T 23) (T 24)),
                i_ 26 (.ld1 (T 25)),
                i_ 27 (.sb .neq (T 26) (KS []))])
              (.cond (T 27)
               (.ops [i_ 28 (.mv (T 4)),
                 i_ 29 (.mv (T 5)),
                 i_ 30 (.mv (T 6)),
                 i_ 31 (.iaddr 1 (T 29) (T 30)),
                 i_ 32 (.ld1 (T 31)),
                 i_ 33 (.bslice 9 [(.string ⟨⟨[]⟩⟩)] 1 1 [(0, (1, (T 32)))]),
                 i_ 34 (.append 9 1 16 (T 28) (T 33)),
                 i_ 4 (.mv (T 34))])
               .skip)))
            (.ops [i_ 21 (.mv (T 6)),
              i_ 22 (.ib .add (T 21) (KI 1)),
              i_ 6 (.mv (T 22))]))))))
       (.seq
        (.seq
         (.ops [i_ 35 (.mv (T 4)),
           i_ 36 (.lenV (T 35)),
           i_ 37 (.ib .gtr (T 36) (KI 64))])
         (.cond (T 37)
          (.seq
           (.ops [i_ 2 (.mv (.const (.slice none 0 0))),
             i_ 3 (.mv (KI 25))])
           .ret)
          .skip))
        (.seq
         (.ops [i_ 7 (.mv (.const (.slice none 0 0)))])
         (.seq
          (.seq
           (.ops [i_ 8 (.mv (KI 0))])
           (.block 2
            (.loop [(38, 44), (9, 15), (44, 77), (77, 87), (87, 103), (2, 4), (7, 9)]
             (.seq
              (.seq
               (.ops [i_ 38 (.mv (T 8)),
                 i_ 39 (.mv (T 4)),
                 i_ 40 (.lenV (T 39)),
                 i_ 41 (.ib .lss (T 38) (T 40))])
               (.cond (T 41)
                .skip
                (.exit 2)))
              (.seq
               (.block 3
                (.seq
                 (.ops [i_ 9 (.mv (KI 0))])
                 (.seq
                  (.block 4
                   (.loop [(44, 62), (9, 10)]
                    (.seq
                     (.seq
                      (.ops [i_ 44 (.mv (T 9)),
                        i_ 45 (.mv (T 4)),
                        i_ 46 (.mv (T 8)),
                        i_ 47 (.iaddr 1 (T 45) (T 46)),
                        i_ 48 (.ld1 (T 47)),
                        i_ 49 (.lenS (T 48)),
                        i_ 50 (.ib .lss (T 44) (T 49)),
                        i_ 51 (.mv (T 50)),
                        ig 52 51 true (.mv (T 4)),
                        ig 53 51 true (.mv (T 8)),
                        ig 54 51 true (.iaddr 1 (T 52) (T 53)),
                        ig 55 51 true (.ld1 (T 54)),
                        ig 56 51 true (.mv (T 9)),
                        ig 57 51 true (.idx (T 55) (T 56)),
                        ig 58 51 true (.ib .neq (T 57) (KU 61)),
                        i_ 59 (.pick (T 51) (T 58) (KB false))])
                      (.cond (T 59)
                       .skip
                       (.exit 4)))
                     (.block 5
                      (.ops [i_ 60 (.mv (T 9)),
                        i_ 61 (.ib .add (T 60) (KI 1)),
                        i_ 9 (.mv (T 61))])))))
                  (.seq
                   (.ops [i_ 10 (.mv (KS []))])
                   (.seq
                    (.seq
                     (.ops [i_ 62 (.mv (T 9)),
                       i_ 63 (.mv (T 4)),
                       i_ 64 (.mv (T 8)),
                       i_ 65 (.iaddr 1 (T 63) (T 64)),
                       i_ 66 (.ld1 (T 65)),
                       i_ 67 (.lenS (T 66)),
                       i_ 68 (.ib .lss (T 62) (T 67))])
                     (.cond (T 68)
                      (.ops [i_ 69 (.mv (T 4)),
                        i_ 70 (.mv (T 8)),
                        i_ 71 (.iaddr 1 (T 69) (T 70)),
                        i_ 72 (.ld1 (T 71)),
                        i_ 73 (.mv (T 9)),
                        i_ 74 (.ib .add (T 73) (KI 1)),
                        i_ 75 (.slS (T 72) (some (T 74)) none),
                        i_ 10 (.mv (T 75))])
                      .skip))
                    (.seq
                     (.ops [i_ 77 (.mv (T 4)),
                       i_ 78 (.mv (T 8)),
                       i_ 79 (.iaddr 1 (T 77) (T 78)),
                       i_ 80 (.ld1 (T 79)),
                       i_ 81 (.mv (T 9)),
                       i_ 82 (.slS (T 80) none (some (T 81))),
                       i_ 83 (.call 23 [(T 82), (KB true)]),
                       i_ 76 (.mv (T 83)),
                       i_ 84 (.ext (T 76) 0),
                       i_ 85 (.ext (T 76) 1),
                       i_ 11 (.mv (T 84)),
                       i_ 12 (.mv (T 85))])
                     (.seq
                      (.ops [i_ 87 (.mv (T 10)),
                        i_ 88 (.call 23 [(T 87), (KB true)]),
                        i_ 86 (.mv (T 88)),
                        i_ 89 (.ext (T 86) 0),
                        i_ 90 (.ext (T 86) 1),
                        i_ 13 (.mv (T 89)),
                        i_ 14 (.mv (T 90))])
                      (.seq
                       (.seq
                        (.ops [i_ 91 (.mv (T 12)),
                          i_ 92 (.ib .neq (T 91) (KI 0)),
                          i_ 93 (.mv (T 92)),
                          ig 94 93 false (.mv (T 14)),
                          ig 95 93 false (.ib .neq (T 94) (KI 0)),
                          i_ 96 (.pick (T 93) (KB true) (T 95))])
                        (.cond (T 96)
                         (.seq
                          (.ops [i_ 2 (.mv (.const (.slice none 0 0))),
                            i_ 3 (.mv (KI 4))])
                          .ret)
                         .skip))
                       (.ops [i_ 97 (.mv (T 7)),
                         i_ 98 (.mv (T 11)),
                         i_ 99 (.mv (T 13)),
                         i_ 100 (.build [(.string ⟨⟨[]⟩⟩), (.string ⟨⟨[]⟩⟩)] [(0, (1, (T 98))), (1, (1, (T 99)))]),
                         i_ 101 (.bslice 71 [(.string ⟨⟨[]⟩⟩), (.string ⟨⟨[]⟩⟩)] 1 2 [(0, (2, (T 100)))]),
                         i_ 102 (.append 71 2 32 (T 97) (T 101)),
                         i_ 7 (.mv (T 102))])))))))))
               (.ops [i_ 42 (.mv (T 8)),
                 i_ 43 (.ib .add (T 42) (KI 1)),
                 i_ 8 (.mv (T 43))]))))))
          (.seq
           (.ops [i_ 103 (.mv (T 7)),
             i_ 2 (.mv (T 103)),
             i_ 3 (.mv (KI 0))])
           .ret))))))))
def m16 : MF := ⟨104, [(.tmp 2), (.tmp 3)], c16⟩
theorem r16 : resF Tryd.prog Tryd.f16 = some m16 := by kernel_rfl
theorem k16 : Callable Tryd.prog 16 := ⟨_, Tryd.func16, by kernel_rfl, by kernel_rfl⟩

def c33 : MC :=
   (.seq
    (.ops [i_ 2 (.mv (KS []))])
    (.seq
     (.ops [i_ 3 (.mv (.const (.slice none 0 0)))])
     (.seq
      (.seq
       (.ops [i_ 6 (.mv (T 0)),
         i_ 7 (.lenV (T 6)),
         i_ 8 (.mv (KI 0))])
       (.block 0
        (.loop [(9, 17), (5, 6), (17, 24), (3, 4), (8, 9)]
         (.seq
          (.ops [i_ 9 (.ib .lss (T 8) (T 7))])
          (.seq
           (.cond (T 9)
            .skip
            (.exit 0))
           (.seq
            (.block 1
             (.seq
              (.ops [i_ 10 (.iaddr 2 (T 6) (T 8)),
                i_ 11 (.ldN 2 (T 10)),
                i_ 5 (.alloc 71 [(.string ⟨⟨[]⟩⟩), (.string ⟨⟨[]⟩⟩)]),
                n_ (.st 2 (T 5) (T 11))])
              (.dops <|
                .op 0 (i_ 12 (.mv (T 3))) <|
                .op 1 (i_ 13 (.faddr 0 (T 5))) <|
                .op 2 (i_ 14 (.ld1 (T 13))) <|
                .op 5 (i_ 17 (.faddr 1 (T 5))) <|
                .op 6 (i_ 18 (.ld1 (T 17))) <|
                .op 3 (id_ 15 (.call 24 [(T 14)]) [2]) <|
                .op 4 (i_ 16 (.sb .add (T 15) (KS [61]))) <|
                .op 7 (id_ 19 (.call 24 [(T 18)]) [2, 6]) <|
                .op 8 (i_ 20 (.sb .add (T 16) (T 19))) <|
                .op 9 (id_ 21 (.bslice 9 [(.string ⟨⟨[]⟩⟩)] 1 1 [(0, (1, (T 20)))]) [2, 6]) <|
                .op 10 (id_ 22 (.append 9 1 16 (T 12) (T 21)) [6, 2]) <|
                .op 11 (i_ 3 (.mv (T 22))) <|
                .nil)))
            (.ops [i_ 23 (.ib .add (T 8) (KI 1)),
              i_ 8 (.mv (T 23))])))))))
      (.seq
       (.ops [i_ 24 (.mv (T 3)),
         i_ 25 (.call 72 [(T 24), (KS [38])]),
         i_ 2 (.mv (T 25))])
       .ret))))
def m33 : MF := ⟨26, [(.tmp 2)], c33⟩
theorem r33 : resF Tryd.prog Tryd.f33 = some m33 := by kernel_rfl
theorem k33 : Callable Tryd.prog 33 := ⟨_, Tryd.func33, by kernel_rfl, by kernel_rfl⟩

def c36 : MC :=
   (.seq
    (.ops [i_ 2 (.mv (KS []))])
    (.seq
     (.ops [i_ 3 (.mv (KS []))])
     (.seq
      (.seq
       (.ops [i_ 4 (.mv (KI 0))])
       (.block 0
        (.loop [(5, 11), (11, 24), (3, 5), (24, 31)]
         (.seq
          (.seq
           (.ops [i_ 5 (.mv (T 4)),
             i_ 6 (.mv (T 0)),
             i_ 7 (.lenV (T 6)),
             i_ 8 (.ib .lss (T 5) (T 7))])
           (.cond (T 8)
            .skip
            (.exit 0)))
          (.seq
           (.block 1
            (.seq
             (.seq
              (.ops [i_ 11 (.mv (T 4)),
                i_ 12 (.ib .gtr (T 11) (KI 0))])
              (.cond (T 12)
               (.ops [i_ 13 (.mv (T 3)),
                 i_ 14 (.sb .add (T 13) (KS [38])),
                 i_ 3 (.mv (T 14))])
               .skip))
             (.dops <|
               .op 0 (i_ 15 (.mv (T 3))) <|
               .op 1 (i_ 16 (.mv (T 0))) <|
               .op 2 (i_ 17 (.mv (T 4))) <|
               .op 3 (i_ 18 (.iaddr 2 (T 16) (T 17))) <|
               .op 4 (i_ 19 (.faddr 0 (T 18))) <|
               .op 5 (i_ 20 (.ld1 (T 19))) <|
               .op 9 (i_ 24 (.mv (T 0))) <|
               .op 10 (i_ 25 (.mv (T 4))) <|
               .op 11 (i_ 26 (.iaddr 2 (T 24) (T 25))) <|
               .op 12 (i_ 27 (.faddr 1 (T 26))) <|
               .op 13 (i_ 28 (.ld1 (T 27))) <|
               .op 6 (id_ 21 (.call 25 [(T 20)]) [5]) <|
               .op 7 (i_ 22 (.sb .add (T 15) (T 21))) <|
               .op 8 (i_ 23 (.sb .add (T 22) (KS [61]))) <|
               .op 14 (id_ 29 (.call 25 [(T 28)]) [5, 13]) <|
               .op 15 (i_ 30 (.sb .add (T 23) (T 29))) <|
               .op 16 (i_ 3 (.mv (T 30))) <|
               .nil)))
           (.ops [i_ 9 (.mv (T 4)),
             i_ 10 (.ib .add (T 9) (KI 1)),
             i_ 4 (.mv (T 10))]))))))
      (.seq
       (.ops [i_ 31 (.mv (T 3)),
         i_ 2 (.mv (T 31))])
       .ret))))
def m36 : MF := ⟨32, [(.tmp 2)], c36⟩
theorem r36 : resF Tryd.prog Tryd.f36 = some m36 := by kernel_rfl
theorem k36 : Callable Tryd.prog 36 := ⟨_, Tryd.func36, by kernel_rfl, by kernel_rfl⟩

def c34 : MC :=
   (.seq
    (.ops [i_ 4 (.mv (KS [])),
      i_ 5 (.mv (KI 0))])
    (.seq
     (.ops [i_ 6 (.mv (KS [])),
       i_ 7 (.mv (KI 0))])
     (.seq
      (.seq
       (.ops [i_ 10 (.mv (T 0)),
         i_ 11 (.lenV (T 10)),
         i_ 12 (.mv (KI 0))])
       (.block 0
        (.loop [(13, 25), (9, 10), (6, 8), (12, 13)]
         (.seq
          (.ops [i_ 13 (.ib .lss (T 12) (T 11))])
          (.seq
           (.cond (T 13)
            .skip
            (.exit 0))
           (.seq
            (.block 1
             (.seq
              (.ops [i_ 14 (.iaddr 2 (T 10) (T 12)),
                i_ 15 (.ldN 2 (T 14)),
                i_ 9 (.alloc 71 [(.string ⟨⟨[]⟩⟩), (.string ⟨⟨[]⟩⟩)]),
                n_ (.st 2 (T 9) (T 15))])
              (.seq
               (.ops [i_ 16 (.faddr 0 (T 9)),
                 i_ 17 (.ld1 (T 16)),
                 i_ 18 (.mv (T 1)),
                 i_ 19 (.sb .eql (T 17) (T 18))])
               (.cond (T 19)
                (.seq
                 (.ops [i_ 20 (.faddr 1 (T 9)),
                   i_ 21 (.ld1 (T 20)),
                   i_ 6 (.mv (T 21))])
                 (.ops [i_ 22 (.mv (T 7)),
                   i_ 23 (.ib .add (T 22) (KI 1)),
                   i_ 7 (.mv (T 23))]))
                .skip))))
            (.ops [i_ 24 (.ib .add (T 12) (KI 1)),
              i_ 12 (.mv (T 24))])))))))
      (.seq
       (.block 2
        (.seq
         (.ops [i_ 26 (.mv (T 7)),
           i_ 27 (.ib .eql (T 26) (KI 0)),
           i_ 25 (.mv (T 27))])
         (.cond (T 25)
          (.seq
           (.ops [i_ 4 (.mv (KS [])),
             i_ 5 (.mv (KI 11))])
           .ret)
          (.seq
           (.ops [i_ 29 (.mv (T 7)),
             i_ 30 (.ib .gtr (T 29) (KI 1)),
             i_ 28 (.mv (T 30))])
           (.cond (T 28)
            (.seq
             (.ops [i_ 4 (.mv (KS [])),
               i_ 5 (.mv (KI 10))])
             .ret)
            .skip)))))
       (.seq
        (.ops [i_ 31 (.mv (T 6)),
          i_ 4 (.mv (T 31)),
          i_ 5 (.mv (KI 0))])
        .ret)))))
def m34 : MF := ⟨32, [(.tmp 4), (.tmp 5)], c34⟩
theorem r34 : resF Tryd.prog Tryd.f34 = some m34 := by kernel_rfl
theorem k34 : Callable Tryd.prog 34 := ⟨_, Tryd.func34, by kernel_rfl, by kernel_rfl⟩

def c35 : MC :=
   (.seq
    (.ops [i_ 4 (.mv (KS [])),
      i_ 5 (.mv (KI 0))])
    (.seq
     (.ops [i_ 6 (.mv (KS [])),
       i_ 7 (.mv (KI 0))])
     (.seq
      (.seq
       (.ops [i_ 8 (.mv (KI 0))])
       (.block 0
        (.loop [(9, 15), (15, 29), (6, 9)]
         (.seq
          (.seq
           (.ops [i_ 9 (.mv (T 8)),
             i_ 10 (.mv (T 0)),
             i_ 11 (.lenV (T 10)),
             i_ 12 (.ib .lss (T 9) (T 11))])
           (.cond (T 12)
            .skip
            (.exit 0)))
          (.seq
           (.block 1
            (.seq
             (.ops [i_ 15 (.mv (T 0)),
               i_ 16 (.mv (T 8)),
               i_ 17 (.iaddr 2 (T 15) (T 16)),
               i_ 18 (.faddr 0 (T 17)),
               i_ 19 (.ld1 (T 18)),
               i_ 20 (.mv (T 1)),
               i_ 21 (.sb .eql (T 19) (T 20))])
             (.cond (T 21)
              (.seq
               (.ops [i_ 22 (.mv (T 0)),
                 i_ 23 (.mv (T 8)),
                 i_ 24 (.iaddr 2 (T 22) (T 23)),
                 i_ 25 (.faddr 1 (T 24)),
                 i_ 26 (.ld1 (T 25)),
                 i_ 6 (.mv (T 26))])
               (.ops [i_ 27 (.mv (T 7)),
                 i_ 28 (.ib .add (T 27) (KI 1)),
                 i_ 7 (.mv (T 28))]))
              .skip)))
           (.ops [i_ 13 (.mv (T 8)),
             i_ 14 (.ib .add (T 13) (KI 1)),
             i_ 8 (.mv (T 14))]))))))
      (.seq
       (.seq
        (.ops [i_ 29 (.mv (T 7)),
          i_ 30 (.ib .eql (T 29) (KI 0))])
        (.cond (T 30)
         (.seq
          (.ops [i_ 4 (.mv (KS [])),
            i_ 5 (.mv (KI 11))])
          .ret)
         .skip))
       (.seq
        (.seq
         (.ops [i_ 31 (.mv (T 7)),
           i_ 32 (.ib .gtr (T 31) (KI 1))])
         (.cond (T 32)
          (.seq
           (.ops [i_ 4 (.mv (KS [])),
             i_ 5 (.mv (KI 10))])
           .ret)
          .skip))
        (.seq
         (.ops [i_ 33 (.mv (T 6)),
           i_ 4 (.mv (T 33)),
           i_ 5 (.mv (KI 0))])
         .ret))))))
def m35 : MF := ⟨34, [(.tmp 4), (.tmp 5)], c35⟩
theorem r35 : resF Tryd.prog Tryd.f35 = some m35 := by kernel_rfl
theorem k35 : Callable Tryd.prog 35 := ⟨_, Tryd.func35, by kernel_rfl, by kernel_rfl⟩

def c18 : MC :=
   (.seq
    (.ops [i_ 0 (.mv (KB false))])
    (.seq
     (.ops [i_ 4 (.call 15 [(KS [97, 61, 49, 43, 50])]),
       i_ 3 (.mv (T 4)),
       i_ 5 (.ext (T 3) 0),
       i_ 6 (.ext (T 3) 1),
       i_ 1 (.mv (T 5)),
       i_ 2 (.mv (T 6))])
     (.seq
      (.ops [i_ 7 (.mv (T 2)),
        i_ 8 (.ib .eql (T 7) (KI 0)),
        i_ 9 (.mv (T 8)),
        ig 10 9 true (.mv (T 1)),
        ig 11 9 true (.lenV (T 10)),
        ig 12 9 true (.ib .eql (T 11) (KI 1)),
        i_ 13 (.pick (T 9) (T 12) (KB false)),
        i_ 14 (.mv (T 13)),
        ig 15 14 true (.mv (T 1)),
        ig 16 14 true (.iaddr 2 (T 15) (KI 0)),
        ig 17 14 true (.ldN 2 (T 16)),
        ig 18 14 true (.build [(.string ⟨⟨[]⟩⟩), (.string ⟨⟨[]⟩⟩)] [(0, (1, (KS [97]))), (1, (1, (KS [49, 32, 50])))]),
        ig 19 14 true (.eqA false 71 [71] [2, 2] (T 17) (T 18)),
        i_ 20 (.pick (T 14) (T 19) (KB false)),
        i_ 0 (.mv (T 20))])
      .ret)))
def m18 : MF := ⟨21, [(.tmp 0)], c18⟩
theorem r18 : resF Tryd.prog Tryd.f18 = some m18 := by kernel_rfl
theorem k18 : Callable Tryd.prog 18 := ⟨_, Tryd.func18, by kernel_rfl, by kernel_rfl⟩

def c3 : MC :=
   (.seq
    (.ops [i_ 2 (.mv (KB false))])
    (.seq
     (.ops [i_ 7 (.mv (T 0)),
       i_ 8 (.call 14 [(T 7), (KI 400)]),
       i_ 0 (.mv (T 8))])
     (.seq
      (.ops [i_ 10 (.mv (T 0)),
        i_ 11 (.call 15 [(T 10)]),
        i_ 9 (.mv (T 11)),
        i_ 12 (.ext (T 9) 0),
        i_ 13 (.ext (T 9) 1),
        i_ 3 (.mv (T 12)),
        i_ 4 (.mv (T 13))])
      (.seq
       (.ops [i_ 15 (.mv (T 0)),
         i_ 16 (.call 16 [(T 15)]),
         i_ 14 (.mv (T 16)),
         i_ 17 (.ext (T 14) 0),
         i_ 18 (.ext (T 14) 1),
         i_ 5 (.mv (T 17)),
         i_ 6 (.mv (T 18))])
       (.seq
        (.ops [i_ 19 (.mv (T 3)),
          i_ 20 (.mv (T 5)),
          i_ 21 (.call 17 [(T 19), (T 20)]),
          i_ 22 (.mv (T 21)),
          ig 23 22 true (.mv (T 4)),
          ig 24 22 true (.mv (T 6)),
          ig 25 22 true (.ib .eql (T 23) (T 24)),
          i_ 26 (.pick (T 22) (T 25) (KB false)),
          i_ 27 (.mv (T 26)),
          ig 28 27 true (.call 18 []),
          i_ 29 (.pick (T 27) (T 28) (KB false)),
          i_ 2 (.mv (T 29))])
        .ret)))))
def m3 : MF := ⟨30, [(.tmp 2)], c3⟩
theorem r3 : resF Tryd.prog Tryd.f3 = some m3 := by kernel_rfl
theorem k3 : Callable Tryd.prog 3 := ⟨_, Tryd.func3, by kernel_rfl, by kernel_rfl⟩

def c5 : MC :=
   (.seq
    (.ops [i_ 4 (.mv (KB false))])
    (.seq
     (.ops [i_ 10 (.mv (T 0)),
       i_ 11 (.call 19 [(T 10), (KI 0), (KI 70)]),
       i_ 12 (.mv (T 1)),
       i_ 13 (.call 19 [(T 12), (KI 0), (KI 20)]),
       i_ 0 (.mv (T 11)),
       i_ 1 (.mv (T 13))])
     (.seq
      (.ops [i_ 5 (.mv (KS []))])
      (.seq
       (.seq
        (.ops [i_ 6 (.mv (KI 0))])
        (.block 0
         (.loop [(14, 19), (19, 26), (5, 7), (7, 8), (26, 28)]
          (.seq
           (.seq
            (.ops [i_ 14 (.mv (T 6)),
              i_ 15 (.mv (T 0)),
              i_ 16 (.ib .lss (T 14) (T 15))])
            (.cond (T 16)
             .skip
             (.exit 0)))
           (.seq
            (.block 1
             (.seq
              (.ops [i_ 19 (.mv (T 5)),
                i_ 20 (.sb .add (T 19) (KS [97, 38])),
                i_ 5 (.mv (T 20))])
              (.seq
               (.ops [i_ 7 (.mv (KI 0))])
               (.block 2
                (.loop [(21, 26), (26, 28), (5, 6), (7, 8)]
                 (.seq
                  (.seq
                   (.ops [i_ 21 (.mv (T 7)),
                     i_ 22 (.mv (T 1)),
                     i_ 23 (.ib .lss (T 21) (T 22))])
                   (.cond (T 23)
                    .skip
                    (.exit 2)))
                  (.seq
                   (.block 3
                    (.ops [i_ 26 (.mv (T 5)),
                      i_ 27 (.sb .add (T 26) (KS [38])),
                      i_ 5 (.mv (T 27))]))
                   (.ops [i_ 24 (.mv (T 7)),
                     i_ 25 (.ib .add (T 24) (KI 1)),
                     i_ 7 (.mv (T 25))]))))))))
            (.ops [i_ 17 (.mv (T 6)),
              i_ 18 (.ib .add (T 17) (KI 1)),
              i_ 6 (.mv (T 18))]))))))
       (.seq
        (.ops [i_ 29 (.mv (T 5)),
          i_ 30 (.call 15 [(T 29)]),
          i_ 28 (.mv (T 30)),
          i_ 31 (.ext (T 28) 0),
          i_ 32 (.ext (T 28) 1),
          i_ 8 (.mv (T 31)),
          i_ 9 (.mv (T 32))])
        (.seq
         (.seq
          (.ops [i_ 33 (.mv (T 0)),
            i_ 34 (.ib .gtr (T 33) (KI 64))])
          (.cond (T 34)
           (.seq
            (.ops [i_ 35 (.mv (T 9)),
              i_ 36 (.ib .eql (T 35) (KI 25)),
              i_ 37 (.mv (T 36)),
              ig 38 37 true (.mv (T 8)),
              ig 39 37 true (.lenV (T 38)),
              ig 40 37 true (.ib .eql (T 39) (KI 0)),
              i_ 41 (.pick (T 37) (T 40) (KB false)),
              i_ 42 (.mv (T 41)),
              ig 43 42 true (.call 18 []),
              i_ 44 (.pick (T 42) (T 43) (KB false)),
              i_ 4 (.mv (T 44))])
            .ret)
           .skip))
         (.seq
          (.ops [i_ 45 (.mv (T 9)),
            i_ 46 (.ib .eql (T 45) (KI 0)),
            i_ 47 (.mv (T 46)),
            ig 48 47 true (.mv (T 8)),
            ig 49 47 true (.lenV (T 48)),
            ig 50 47 true (.mv (T 0)),
            ig 51 47 true (.ib .eql (T 49) (T 50)),
            i_ 52 (.pick (T 47) (T 51) (KB false)),
            i_ 53 (.mv (T 52)),
            ig 54 53 true (.call 18 []),
            i_ 55 (.pick (T 53) (T 54) (KB false)),
            i_ 4 (.mv (T 55))])
          .ret)))))))
def m5 : MF := ⟨56, [(.tmp 4)], c5⟩
theorem r5 : resF Tryd.prog Tryd.f5 = some m5 := by kernel_rfl
theorem k5 : Callable Tryd.prog 5 := ⟨_, Tryd.func5, by kernel_rfl, by kernel_rfl⟩

def c6 : MC :=
   (.seq
    (.ops [i_ 6 (.mv (KB false))])
    (.seq
     (.ops [i_ 11 (.mv (T 0)),
       i_ 12 (.call 14 [(T 11), (KI 100)]),
       i_ 13 (.mv (T 1)),
       i_ 14 (.call 14 [(T 13), (KI 100)]),
       i_ 0 (.mv (T 12)),
       i_ 1 (.mv (T 14))])
     (.seq
      (.ops [i_ 16 (.mv (T 1)),
        i_ 17 (.mv (T 2)),
        i_ 18 (.call 22 [(T 16), (T 17)]),
        i_ 15 (.mv (T 18)),
        i_ 19 (.ext (T 15) 0),
        i_ 20 (.ext (T 15) 1),
        i_ 7 (.mv (T 19)),
        i_ 8 (.mv (T 20))])
      (.seq
       (.ops [i_ 22 (.mv (T 1)),
         i_ 23 (.mv (T 2)),
         i_ 24 (.call 23 [(T 22), (T 23)]),
         i_ 21 (.mv (T 24)),
         i_ 25 (.ext (T 21) 0),
         i_ 26 (.ext (T 21) 1),
         i_ 9 (.mv (T 25)),
         i_ 10 (.mv (T 26))])
       (.seq
        (.ops [i_ 27 (.mv (T 0)),
          i_ 28 (.call 24 [(T 27)]),
          i_ 29 (.mv (T 0)),
          i_ 30 (.call 25 [(T 29)]),
          i_ 31 (.sb .eql (T 28) (T 30)),
          i_ 32 (.mv (T 31)),
          ig 33 32 true (.mv (T 7)),
          ig 34 32 true (.mv (T 9)),
          ig 35 32 true (.sb .eql (T 33) (T 34)),
          i_ 36 (.pick (T 32) (T 35) (KB false)),
          i_ 37 (.mv (T 36)),
          ig 38 37 true (.mv (T 8)),
          ig 39 37 true (.mv (T 10)),
          ig 40 37 true (.ib .eql (T 38) (T 39)),
          i_ 41 (.pick (T 37) (T 40) (KB false)),
          i_ 42 (.mv (T 41)),
          ig 43 42 true (.call 18 []),
          i_ 44 (.pick (T 42) (T 43) (KB false)),
          i_ 6 (.mv (T 44))])
        .ret)))))
def m6 : MF := ⟨45, [(.tmp 6)], c6⟩
theorem r6 : resF Tryd.prog Tryd.f6 = some m6 := by kernel_rfl
theorem k6 : Callable Tryd.prog 6 := ⟨_, Tryd.func6, by kernel_rfl, by kernel_rfl⟩

def c8 : MC :=
   (.seq
    (.ops [i_ 6 (.mv (KB false))])
    (.seq
     (.ops [i_ 11 (.mv (T 0)),
       i_ 12 (.call 26 [(T 11), (KI 64), (KI 20)]),
       i_ 13 (.mv (T 1)),
       i_ 14 (.call 14 [(T 13), (KI 100)]),
       i_ 0 (.mv (T 12)),
       i_ 1 (.mv (T 14))])
     (.seq
      (.ops [i_ 16 (.mv (T 1)),
        i_ 17 (.call 24 [(T 16)]),
        i_ 18 (.mv (T 2)),
        i_ 19 (.call 22 [(T 17), (T 18)]),
        i_ 15 (.mv (T 19)),
        i_ 20 (.ext (T 15) 0),
        i_ 21 (.ext (T 15) 1),
        i_ 7 (.mv (T 20)),
        i_ 8 (.mv (T 21))])
      (.seq
       (.ops [i_ 23 (.mv (T 0)),
         i_ 24 (.call 33 [(T 23)]),
         i_ 25 (.call 15 [(T 24)]),
         i_ 22 (.mv (T 25)),
         i_ 26 (.ext (T 22) 0),
         i_ 27 (.ext (T 22) 1),
         i_ 9 (.mv (T 26)),
         i_ 10 (.mv (T 27))])
       (.seq
        (.ops [i_ 28 (.mv (T 8)),
          i_ 29 (.ib .eql (T 28) (KI 0)),
          i_ 30 (.mv (T 29)),
          ig 31 30 true (.mv (T 7)),
          ig 32 30 true (.mv (T 1)),
          ig 33 30 true (.sb .eql (T 31) (T 32)),
          i_ 34 (.pick (T 30) (T 33) (KB false)),
          i_ 35 (.mv (T 34)),
          ig 36 35 true (.mv (T 10)),
          ig 37 35 true (.ib .eql (T 36) (KI 0)),
          i_ 38 (.pick (T 35) (T 37) (KB false)),
          i_ 39 (.mv (T 38)),
          ig 40 39 true (.mv (T 0)),
          ig 41 39 true (.mv (T 9)),
          ig 42 39 true (.call 17 [(T 40), (T 41)]),
          i_ 43 (.pick (T 39) (T 42) (KB false)),
          i_ 44 (.mv (T 43)),
          ig 45 44 true (.call 18 []),
          i_ 46 (.pick (T 44) (T 45) (KB false)),
          i_ 6 (.mv (T 46))])
        .ret)))))
def m8 : MF := ⟨47, [(.tmp 6)], c8⟩
theorem r8 : resF Tryd.prog Tryd.f8 = some m8 := by kernel_rfl
theorem k8 : Callable Tryd.prog 8 := ⟨_, Tryd.func8, by kernel_rfl, by kernel_rfl⟩

def c9 : MC :=
   (.seq
    (.ops [i_ 4 (.mv (KB false))])
    (.seq
     (.ops [i_ 9 (.mv (T 0)),
       i_ 10 (.call 26 [(T 9), (KI 70), (KI 20)]),
       i_ 0 (.mv (T 10))])
     (.seq
      (.ops [i_ 12 (.mv (T 0)),
        i_ 13 (.mv (T 1)),
        i_ 14 (.call 34 [(T 12), (T 13)]),
        i_ 11 (.mv (T 14)),
        i_ 15 (.ext (T 11) 0),
        i_ 16 (.ext (T 11) 1),
        i_ 5 (.mv (T 15)),
        i_ 6 (.mv (T 16))])
      (.seq
       (.ops [i_ 18 (.mv (T 0)),
         i_ 19 (.mv (T 1)),
         i_ 20 (.call 35 [(T 18), (T 19)]),
         i_ 17 (.mv (T 20)),
         i_ 21 (.ext (T 17) 0),
         i_ 22 (.ext (T 17) 1),
         i_ 7 (.mv (T 21)),
         i_ 8 (.mv (T 22))])
       (.seq
        (.ops [i_ 23 (.mv (T 0)),
          i_ 24 (.call 33 [(T 23)]),
          i_ 25 (.mv (T 0)),
          i_ 26 (.call 36 [(T 25)]),
          i_ 27 (.sb .eql (T 24) (T 26)),
          i_ 28 (.mv (T 27)),
          ig 29 28 true (.mv (T 5)),
          ig 30 28 true (.mv (T 7)),
          ig 31 28 true (.sb .eql (T 29) (T 30)),
          i_ 32 (.pick (T 28) (T 31) (KB false)),
          i_ 33 (.mv (T 32)),
          ig 34 33 true (.mv (T 6)),
          ig 35 33 true (.mv (T 8)),
          ig 36 33 true (.ib .eql (T 34) (T 35)),
          i_ 37 (.pick (T 33) (T 36) (KB false)),
          i_ 38 (.mv (T 37)),
          ig 39 38 true (.call 18 []),
          i_ 40 (.pick (T 38) (T 39) (KB false)),
          i_ 4 (.mv (T 40))])
        .ret)))))
def m9 : MF := ⟨41, [(.tmp 4)], c9⟩
theorem r9 : resF Tryd.prog Tryd.f9 = some m9 := by kernel_rfl
theorem k9 : Callable Tryd.prog 9 := ⟨_, Tryd.func9, by kernel_rfl, by kernel_rfl⟩

end Go.Proofs.YtkhgmmejgikgnaaDoor

/- Functions of the program, resolved: made by a program of ours; each is checked by the kernel. -/
namespace Go.Proofs.YtkhgmmejgikgnaaDoor
def c11 : MC :=
   (.seq
    (.ops [i_ 4 (.mv (KB false))])
    (.seq
     (.ops [i_ 15 (.mv (T 0)),
       i_ 16 (.call 14 [(T 15), (KI 60)]),
       i_ 17 (.mv (T 1)),
       i_ 18 (.call 14 [(T 17), (KI 60)]),
       i_ 0 (.mv (T 16)),
       i_ 1 (.mv (T 18))])
     (.seq
      (.ops [i_ 19 (.mv (T 0)),
        i_ 20 (.call 25 [(T 19)]),
        i_ 21 (.sb .add (T 20) (KS [58])),
        i_ 22 (.mv (T 1)),
        i_ 23 (.call 25 [(T 22)]),
        i_ 24 (.sb .add (T 21) (T 23)),
        i_ 25 (.call 41 [(T 24)]),
        i_ 26 (.sb .add (KS [66, 97, 115, 105, 99, 32]) (T 25)),
        i_ 5 (.mv (T 26))])
      (.seq
       (.ops [i_ 28 (.mv (T 5)),
         i_ 29 (.call 42 [(T 28)]),
         i_ 27 (.mv (T 29)),
         i_ 30 (.ext (T 27) 0),
         i_ 31 (.ext (T 27) 1),
         i_ 32 (.ext (T 27) 2),
         i_ 6 (.mv (T 30)),
         i_ 7 (.mv (T 31)),
         i_ 8 (.mv (T 32))])
       (.seq
        (.seq
         (.ops [i_ 33 (.mv (T 8)),
           i_ 34 (.ib .neq (T 33) (KI 0)),
           i_ 35 (.mv (T 34)),
           ig 36 35 false (.mv (T 6)),
           ig 37 35 false (.mv (T 0)),
           ig 38 35 false (.sb .neq (T 36) (T 37)),
           i_ 39 (.pick (T 35) (KB true) (T 38)),
           i_ 40 (.mv (T 39)),
           ig 41 40 false (.mv (T 7)),
           ig 42 40 false (.mv (T 1)),
           ig 43 40 false (.sb .neq (T 41) (T 42)),
           i_ 44 (.pick (T 40) (KB true) (T 43))])
         (.cond (T 44)
          (.seq
           (.ops [i_ 4 (.mv (KB false))])
           .ret)
          .skip))
        (.seq
         (.ops [i_ 46 (.mv (T 5)),
           i_ 47 (.build [(.string ⟨⟨[]⟩⟩), (.string ⟨⟨[]⟩⟩)] [(0, (1, (KS [97, 117, 116, 104, 111, 114, 105, 122, 97, 116, 105, 111, 110]))), (1, (1, (T 46)))]),
           i_ 48 (.bslice 71 [(.string ⟨⟨[]⟩⟩), (.string ⟨⟨[]⟩⟩)] 1 2 [(0, (2, (T 47)))]),
           i_ 49 (.build [(.string ⟨⟨[]⟩⟩), (.string ⟨⟨[]⟩⟩), (.slice none 0 0), (.slice none 0 0), (.slice none 0 0)] [(3, (1, (T 48)))]),
           i_ 50 (.call 43 [(T 49), (.const (.slice none 0 0))]),
           i_ 45 (.mv (T 50)),
           i_ 51 (.ext (T 45) 0),
           i_ 52 (.ext (T 45) 1),
           i_ 53 (.ext (T 45) 2),
           i_ 9 (.mv (T 51)),
           i_ 10 (.mv (T 52)),
           i_ 11 (.mv (T 53))])
         (.seq
          (.ops [i_ 55 (.build [(.string ⟨⟨[]⟩⟩), (.string ⟨⟨[]⟩⟩), (.slice none 0 0), (.slice none 0 0), (.slice none 0 0)] []),
            i_ 56 (.mv (T 0)),
            i_ 57 (.build [(.string ⟨⟨[]⟩⟩), (.string ⟨⟨[]⟩⟩)] [(0, (1, (KS [99, 108, 105, 101, 110, 116, 95, 105, 100]))), (1, (1, (T 56)))]),
            i_ 58 (.mv (T 1)),
            i_ 59 (.build [(.string ⟨⟨[]⟩⟩), (.string ⟨⟨[]⟩⟩)] [(0, (1, (KS [99, 108, 105, 101, 110, 116, 95, 115, 101, 99, 114, 101, 116]))), (1, (1, (T 58)))]),
            i_ 60 (.bslice 71 [(.string ⟨⟨[]⟩⟩), (.string ⟨⟨[]⟩⟩)] 2 2 [(0, (2, (T 57))), (2, (2, (T 59)))]),
            i_ 61 (.call 43 [(T 55), (T 60)]),
            i_ 54 (.mv (T 61)),
            i_ 62 (.ext (T 54) 0),
            i_ 63 (.ext (T 54) 1),
            i_ 64 (.ext (T 54) 2),
            i_ 12 (.mv (T 62)),
            i_ 13 (.mv (T 63)),
            i_ 14 (.mv (T 64))])
          (.seq
           (.ops [i_ 65 (.mv (T 11)),
             i_ 66 (.ib .eql (T 65) (KI 0)),
             i_ 67 (.mv (T 66)),
             ig 68 67 true (.mv (T 14)),
             ig 69 67 true (.ib .eql (T 68) (KI 0)),
             i_ 70 (.pick (T 67) (T 69) (KB false)),
             i_ 71 (.mv (T 70)),
             ig 72 71 true (.mv (T 9)),
             ig 73 71 true (.mv (T 0)),
             ig 74 71 true (.sb .eql (T 72) (T 73)),
             i_ 75 (.pick (T 71) (T 74) (KB false)),
             i_ 76 (.mv (T 75)),
             ig 77 76 true (.mv (T 10)),
             ig 78 76 true (.mv (T 1)),
             ig 79 76 true (.sb .eql (T 77) (T 78)),
             i_ 80 (.pick (T 76) (T 79) (KB false)),
             i_ 81 (.mv (T 80)),
             ig 82 81 true (.mv (T 12)),
             ig 83 81 true (.mv (T 0)),
             ig 84 81 true (.sb .eql (T 82) (T 83)),
             i_ 85 (.pick (T 81) (T 84) (KB false)),
             i_ 86 (.mv (T 85)),
             ig 87 86 true (.mv (T 13)),
             ig 88 86 true (.mv (T 1)),
             ig 89 86 true (.sb .eql (T 87) (T 88)),
             i_ 90 (.pick (T 86) (T 89) (KB false)),
             i_ 91 (.mv (T 90)),
             ig 92 91 true (.call 44 []),
             i_ 93 (.pick (T 91) (T 92) (KB false)),
             i_ 4 (.mv (T 93))])
           .ret))))))))
def m11 : MF := ⟨94, [(.tmp 4)], c11⟩
theorem r11 : resF Tryd.prog Tryd.f11 = some m11 := by kernel_rfl
theorem k11 : Callable Tryd.prog 11 := ⟨_, Tryd.func11, by kernel_rfl, by kernel_rfl⟩

def c41 : MC :=
   (.seq
    (.ops [i_ 2 (.mv (KS []))])
    (.seq
     (.ops [i_ 7 (.mv (T 0)),
       i_ 8 (.s2b 5 (T 7)),
       i_ 9 (.call 77 [(T 8)]),
       i_ 3 (.mv (T 9))])
     (.seq
      (.ops [i_ 4 (.mv (.const (.slice none 0 0)))])
      (.seq
       (.seq
        (.ops [i_ 5 (.mv (KI 0))])
        (.block 0
         (.loop [(10, 16), (16, 27), (6, 7), (4, 6)]
          (.seq
           (.seq
            (.ops [i_ 10 (.mv (T 5)),
              i_ 11 (.mv (T 3)),
              i_ 12 (.lenS (T 11)),
              i_ 13 (.ib .lss (T 10) (T 12))])
            (.cond (T 13)
             .skip
             (.exit 0)))
           (.seq
            (.block 1
             (.seq
              (.ops [i_ 16 (.mv (T 3)),
                i_ 17 (.mv (T 5)),
                i_ 18 (.idx (T 16) (T 17)),
                i_ 6 (.mv (T 18))])
              (.seq
               (.seq
                (.ops [i_ 19 (.mv (T 6)),
                  i_ 20 (.ib .eql (T 19) (KU 45))])
                (.cond (T 20)
                 (.ops [i_ 6 (.mv (KU 43))])
                 .skip))
               (.seq
                (.seq
                 (.ops [i_ 21 (.mv (T 6)),
                   i_ 22 (.ib .eql (T 21) (KU 95))])
                 (.cond (T 22)
                  (.ops [i_ 6 (.mv (KU 47))])
                  .skip))
                (.ops [i_ 23 (.mv (T 4)),
                  i_ 24 (.mv (T 6)),
                  i_ 25 (.bslice 5 [(.int .u8 0)] 1 1 [(0, (1, (T 24)))]),
                  i_ 26 (.append 5 1 1 (T 23) (T 25)),
                  i_ 4 (.mv (T 26))])))))
            (.ops [i_ 14 (.mv (T 5)),
              i_ 15 (.ib .add (T 14) (KI 1)),
              i_ 5 (.mv (T 15))]))))))
       (.seq
        (.block 2
         (.loop [(27, 34), (4, 5)]
          (.seq
           (.seq
            (.ops [i_ 27 (.mv (T 4)),
              i_ 28 (.lenV (T 27)),
              i_ 29 (.ib .rem (T 28) (KI 4)),
              i_ 30 (.ib .neq (T 29) (KI 0))])
            (.cond (T 30)
             .skip
             (.exit 2)))
           (.block 3
            (.ops [i_ 31 (.mv (T 4)),
              i_ 32 (.bslice 5 [(.int .u8 0)] 1 1 [(0, (1, (KU 61)))]),
              i_ 33 (.append 5 1 1 (T 31) (T 32)),
              i_ 4 (.mv (T 33))])))))
        (.seq
         (.ops [i_ 34 (.mv (T 4)),
           i_ 35 (.b2s (T 34)),
           i_ 2 (.mv (T 35))])
         .ret))))))
def m41 : MF := ⟨36, [(.tmp 2)], c41⟩
theorem r41 : resF Tryd.prog Tryd.f41 = some m41 := by kernel_rfl
theorem k41 : Callable Tryd.prog 41 := ⟨_, Tryd.func41, by kernel_rfl, by kernel_rfl⟩

def c42 : MC :=
   (.seq
    (.ops [i_ 2 (.mv (KS [])),
      i_ 3 (.mv (KS [])),
      i_ 4 (.mv (KI 0))])
    (.seq
     (.ops [i_ 17 (.mv (T 0)),
       i_ 18 (.call 78 [(T 17), (KS [66, 97, 115, 105, 99, 32])]),
       i_ 16 (.mv (T 18)),
       i_ 19 (.ext (T 16) 0),
       i_ 20 (.ext (T 16) 1),
       i_ 5 (.mv (T 19)),
       i_ 6 (.mv (T 20))])
     (.seq
      (.ops [i_ 22 (.mv (T 5)),
        i_ 23 (.call 79 [(T 22)]),
        i_ 21 (.mv (T 23)),
        i_ 24 (.ext (T 21) 0),
        i_ 25 (.ext (T 21) 1),
        i_ 7 (.mv (T 24)),
        i_ 8 (.mv (T 25))])
      (.seq
       (.ops [i_ 27 (.mv (T 7)),
         i_ 28 (.call 54 [(T 27), (KS [58])]),
         i_ 26 (.mv (T 28)),
         i_ 29 (.ext (T 26) 0),
         i_ 30 (.ext (T 26) 1),
         i_ 31 (.ext (T 26) 2),
         i_ 9 (.mv (T 29)),
         i_ 10 (.mv (T 30)),
         i_ 11 (.mv (T 31))])
       (.seq
        (.ops [i_ 33 (.mv (T 9)),
          i_ 34 (.call 22 [(T 33), (KB false)]),
          i_ 32 (.mv (T 34)),
          i_ 35 (.ext (T 32) 0),
          i_ 36 (.ext (T 32) 1),
          i_ 12 (.mv (T 35)),
          i_ 13 (.mv (T 36))])
        (.seq
         (.ops [i_ 38 (.mv (T 10)),
           i_ 39 (.call 22 [(T 38), (KB false)]),
           i_ 37 (.mv (T 39)),
           i_ 40 (.ext (T 37) 0),
           i_ 41 (.ext (T 37) 1),
           i_ 14 (.mv (T 40)),
           i_ 15 (.mv (T 41))])
         (.seq
          (.seq
           (.ops [i_ 42 (.mv (T 6)),
             i_ 43 (.not (T 42)),
             i_ 44 (.mv (T 43)),
             ig 45 44 false (.mv (T 8)),
             ig 46 44 false (.not (T 45)),
             i_ 47 (.pick (T 44) (KB true) (T 46)),
             i_ 48 (.mv (T 47)),
             ig 49 48 false (.mv (T 11)),
             ig 50 48 false (.not (T 49)),
             i_ 51 (.pick (T 48) (KB true) (T 50)),
             i_ 52 (.mv (T 51)),
             ig 53 52 false (.mv (T 13)),
             ig 54 52 false (.ib .neq (T 53) (KI 0)),
             i_ 55 (.pick (T 52) (KB true) (T 54)),
             i_ 56 (.mv (T 55)),
             ig 57 56 false (.mv (T 15)),
             ig 58 56 false (.ib .neq (T 57) (KI 0)),
             i_ 59 (.pick (T 56) (KB true) (T 58))])
           (.cond (T 59)
            (.seq
             (.ops [i_ 2 (.mv (KS [])),
               i_ 3 (.mv (KS [])),
               i_ 4 (.mv (KI 4))])
             .ret)
            .skip))
          (.seq
           (.ops [i_ 60 (.mv (T 12)),
             i_ 61 (.mv (T 14)),
             i_ 2 (.mv (T 60)),
             i_ 3 (.mv (T 61)),
             i_ 4 (.mv (KI 0))])
           .ret))))))))
def m42 : MF := ⟨62, [(.tmp 2), (.tmp 3), (.tmp 4)], c42⟩
theorem r42 : resF Tryd.prog Tryd.f42 = some m42 := by kernel_rfl
theorem k42 : Callable Tryd.prog 42 := ⟨_, Tryd.func42, by kernel_rfl, by kernel_rfl⟩

def c43 : MC :=
   (.seq
    (.ops [i_ 2 (.box 35 (T 0)),
      i_ 4 (.mv (KS [])),
      i_ 5 (.mv (KS [])),
      i_ 6 (.mv (KI 0))])
    (.seq
     (.ops [i_ 14 (.mv (T 1)),
       i_ 15 (.call 80 [(T 14), (KS [99, 108, 105, 101, 110, 116, 95, 105, 100])]),
       i_ 16 (.mv (T 1)),
       i_ 17 (.call 80 [(T 16), (KS [99, 108, 105, 101, 110, 116, 95, 115, 101, 99, 114, 101, 116])]),
       i_ 7 (.mv (T 15)),
       i_ 8 (.mv (T 17))])
     (.seq
      (.seq
       (.ops [i_ 19 (.ldN 5 (T 2)),
         i_ 20 (.call 81 [(T 19), (KS [97, 117, 116, 104, 111, 114, 105, 122, 97, 116, 105, 111, 110])]),
         i_ 18 (.mv (T 20)),
         i_ 21 (.ext (T 18) 0),
         i_ 22 (.ext (T 18) 1),
         i_ 9 (.mv (T 21)),
         i_ 10 (.mv (T 22))])
       (.seq
        (.ops [i_ 23 (.mv (T 10)),
          i_ 24 (.mv (T 23)),
          ig 25 24 true (.mv (T 9)),
          ig 26 24 true (.call 82 [(T 25), (KS [66, 97, 115, 105, 99, 32])]),
          i_ 27 (.pick (T 24) (T 26) (KB false))])
        (.cond (T 27)
         (.seq
          (.ops [i_ 29 (.mv (T 9)),
            i_ 30 (.call 42 [(T 29)]),
            i_ 28 (.mv (T 30)),
            i_ 31 (.ext (T 28) 0),
            i_ 32 (.ext (T 28) 1),
            i_ 33 (.ext (T 28) 2),
            i_ 11 (.alloc 9 [(.string ⟨⟨[]⟩⟩)]),
            n_ (.st 1 (T 11) (T 31)),
            i_ 12 (.mv (T 32)),
            i_ 13 (.mv (T 33))])
          (.seq
           (.block 0
            (.seq
             (.ops [i_ 35 (.mv (T 13)),
               i_ 36 (.ib .neq (T 35) (KI 0)),
               i_ 34 (.mv (T 36))])
             (.cond (T 34)
              (.seq
               (.ops [i_ 37 (.mv (T 13)),
                 i_ 4 (.mv (KS [])),
                 i_ 5 (.mv (KS [])),
                 i_ 6 (.mv (T 37))])
               .ret)
              (.seq
               (.ops [i_ 39 (.mv (T 8)),
                 i_ 40 (.lenV (T 39)),
                 i_ 41 (.ib .gtr (T 40) (KI 0)),
                 i_ 42 (.mv (T 41)),
                 ig 43 42 false (.mv (T 7)),
                 ig 44 42 false (.mkfn 84 [(T 11)]),
                 ig 45 42 false (.call 83 [(T 43), (T 44)]),
                 i_ 46 (.pick (T 42) (KB true) (T 45)),
                 i_ 38 (.mv (T 46))])
               (.cond (T 38)
                (.seq
                 (.ops [i_ 4 (.mv (KS [])),
                   i_ 5 (.mv (KS [])),
                   i_ 6 (.mv (KI 21))])
                 .ret)
                .skip)))))
           (.seq
            (.ops [i_ 47 (.ld1 (T 11)),
              i_ 48 (.mv (T 12)),
              i_ 4 (.mv (T 47)),
              i_ 5 (.mv (T 48)),
              i_ 6 (.mv (KI 0))])
            .ret)))
         .skip)))
      (.seq
       (.seq
        (.ops [i_ 49 (.mv (T 7)),
          i_ 50 (.lenV (T 49)),
          i_ 51 (.ib .neq (T 50) (KI 1)),
          i_ 52 (.mv (T 51)),
          ig 53 52 false (.mv (T 8)),
          ig 54 52 false (.lenV (T 53)),
          ig 55 52 false (.ib .gtr (T 54) (KI 1)),
          i_ 56 (.pick (T 52) (KB true) (T 55))])
        (.cond (T 56)
         (.seq
          (.ops [i_ 4 (.mv (KS [])),
            i_ 5 (.mv (KS [])),
            i_ 6 (.mv (KI 21))])
          .ret)
         .skip))
       (.seq
        (.dops <|
          .op 0 (i_ 57 (.mv (T 7))) <|
          .op 1 (i_ 58 (.iaddr 1 (T 57) (KI 0))) <|
          .op 2 (i_ 59 (.ld1 (T 58))) <|
          .op 3 (i_ 60 (.mv (T 8))) <|
          .op 4 (i_ 61 (.call 72 [(T 60), (KS [])])) <|
          .op 5 (i_ 4 (.mv (T 59))) <|
          .op 6 (i_ 5 (.mv (T 61))) <|
          .op 7 (i_ 6 (.mv (KI 0))) <|
          .nil)
        .ret)))))
def m43 : MF := ⟨62, [(.tmp 4), (.tmp 5), (.tmp 6)], c43⟩
theorem r43 : resF Tryd.prog Tryd.f43 = some m43 := by kernel_rfl
theorem k43 : Callable Tryd.prog 43 := ⟨_, Tryd.func43, by kernel_rfl, by kernel_rfl⟩

def c44 : MC :=
   (.seq
    (.ops [i_ 0 (.mv (KB false))])
    (.seq
     (.ops [i_ 4 (.call 85 [(KS [80, 79, 83, 84]), (KS [47, 116, 111, 107, 101, 110])]),
       i_ 3 (.mv (T 4)),
       i_ 5 (.ext (T 3) 0),
       i_ 6 (.ext (T 3) 1),
       i_ 1 (.mv (T 5)),
       i_ 2 (.mv (T 6))])
     (.seq
      (.ops [i_ 7 (.mv (T 2)),
        i_ 8 (.ib .eql (T 7) (KI 0)),
        i_ 9 (.mv (T 8)),
        ig 10 9 true (.mv (T 1)),
        ig 11 9 true (.ib .eql (T 10) (KI 2)),
        i_ 12 (.pick (T 9) (T 11) (KB false)),
        i_ 0 (.mv (T 12))])
      .ret)))
def m44 : MF := ⟨13, [(.tmp 0)], c44⟩
theorem r44 : resF Tryd.prog Tryd.f44 = some m44 := by kernel_rfl
theorem k44 : Callable Tryd.prog 44 := ⟨_, Tryd.func44, by kernel_rfl, by kernel_rfl⟩

def c77 : MC :=
   (.seq
    (.ops [i_ 2 (.mv (KS []))])
    (.seq
     (.ops [i_ 3 (.mv (KS []))])
     (.seq
      (.block 0
       (.loop [(7, 47), (4, 5), (3, 4), (0, 1)]
        (.seq
         (.seq
          (.ops [i_ 7 (.mv (T 0)),
            i_ 8 (.lenV (T 7)),
            i_ 9 (.ib .geq (T 8) (KI 3))])
          (.cond (T 9)
           .skip
           (.exit 0)))
         (.block 1
          (.seq
           (.dops <|
             .op 0 (i_ 10 (.mv (T 0))) <|
             .op 1 (i_ 11 (.iaddr 1 (T 10) (KI 0))) <|
             .op 2 (i_ 12 (.ld1 (T 11))) <|
             .op 3 (i_ 13 (.conv .i64 (T 12))) <|
             .op 4 (i_ 14 (.ib .mul (T 13) (KI 65536))) <|
             .op 5 (i_ 15 (.mv (T 0))) <|
             .op 6 (i_ 16 (.iaddr 1 (T 15) (KI 1))) <|
             .op 7 (i_ 17 (.ld1 (T 16))) <|
             .op 8 (i_ 18 (.conv .i64 (T 17))) <|
             .op 9 (i_ 19 (.ib .mul (T 18) (KI 256))) <|
             .op 10 (i_ 20 (.ib .add (T 14) (T 19))) <|
             .op 11 (i_ 21 (.mv (T 0))) <|
             .op 12 (i_ 22 (.iaddr 1 (T 21) (KI 2))) <|
             .op 13 (i_ 23 (.ld1 (T 22))) <|
             .op 14 (i_ 24 (.conv .i64 (T 23))) <|
             .op 15 (i_ 25 (.ib .add (T 20) (T 24))) <|
             .op 16 (i_ 4 (.mv (T 25))) <|
             .nil)
           (.seq
            (.ops [i_ 26 (.mv (T 3)),
              i_ 27 (.mv (T 4)),
              i_ 28 (.ib .quo (T 27) (KI 262144)),
              i_ 29 (.call 116 [(T 28)]),
              i_ 30 (.sb .add (T 26) (T 29)),
              i_ 31 (.mv (T 4)),
              i_ 32 (.ib .quo (T 31) (KI 4096)),
              i_ 33 (.ib .rem (T 32) (KI 64)),
              i_ 34 (.call 116 [(T 33)]),
              i_ 35 (.sb .add (T 30) (T 34)),
              i_ 36 (.mv (T 4)),
              i_ 37 (.ib .quo (T 36) (KI 64)),
              i_ 38 (.ib .rem (T 37) (KI 64)),
              i_ 39 (.call 116 [(T 38)]),
              i_ 40 (.sb .add (T 35) (T 39)),
              i_ 41 (.mv (T 4)),
              i_ 42 (.ib .rem (T 41) (KI 64)),
              i_ 43 (.call 116 [(T 42)]),
              i_ 44 (.sb .add (T 40) (T 43)),
              i_ 3 (.mv (T 44))])
            (.ops [i_ 45 (.mv (T 0)),
              i_ 46 (.slV 1 (T 45) (some (KI 3)) none),
              i_ 0 (.mv (T 46))])))))))
      (.seq
       (.seq
        (.ops [i_ 47 (.mv (T 0)),
          i_ 48 (.lenV (T 47)),
          i_ 49 (.ib .eql (T 48) (KI 1))])
        (.cond (T 49)
         (.seq
          (.ops [i_ 50 (.mv (T 0)),
            i_ 51 (.iaddr 1 (T 50) (KI 0)),
            i_ 52 (.ld1 (T 51)),
            i_ 53 (.conv .i64 (T 52)),
            i_ 54 (.ib .mul (T 53) (KI 16)),
            i_ 5 (.mv (T 54))])
          (.ops [i_ 55 (.mv (T 3)),
            i_ 56 (.mv (T 5)),
            i_ 57 (.ib .quo (T 56) (KI 64)),
            i_ 58 (.call 116 [(T 57)]),
            i_ 59 (.sb .add (T 55) (T 58)),
            i_ 60 (.mv (T 5)),
            i_ 61 (.ib .rem (T 60) (KI 64)),
            i_ 62 (.call 116 [(T 61)]),
            i_ 63 (.sb .add (T 59) (T 62)),
            i_ 3 (.mv (T 63))]))
         .skip))
       (.seq
        (.seq
         (.ops [i_ 64 (.mv (T 0)),
           i_ 65 (.lenV (T 64)),
           i_ 66 (.ib .eql (T 65) (KI 2))])
         (.cond (T 66)
          (.seq
           (.dops <|
             .op 0 (i_ 67 (.mv (T 0))) <|
             .op 1 (i_ 68 (.iaddr 1 (T 67) (KI 0))) <|
             .op 2 (i_ 69 (.ld1 (T 68))) <|
             .op 3 (i_ 70 (.conv .i64 (T 69))) <|
             .op 4 (i_ 71 (.ib .mul (T 70) (KI 1024))) <|
             .op 5 (i_ 72 (.mv (T 0))) <|
             .op 6 (i_ 73 (.iaddr 1 (T 72) (KI 1))) <|
             .op 7 (i_ 74 (.ld1 (T 73))) <|
             .op 8 (i_ 75 (.conv .i64 (T 74))) <|
             .op 9 (i_ 76 (.ib .mul (T 75) (KI 4))) <|
             .op 10 (i_ 77 (.ib .add (T 71) (T 76))) <|
             .op 11 (i_ 6 (.mv (T 77))) <|
             .nil)
           (.ops [i_ 78 (.mv (T 3)),
             i_ 79 (.mv (T 6)),
             i_ 80 (.ib .quo (T 79) (KI 4096)),
             i_ 81 (.call 116 [(T 80)]),
             i_ 82 (.sb .add (T 78) (T 81)),
             i_ 83 (.mv (T 6)),
             i_ 84 (.ib .quo (T 83) (KI 64)),
             i_ 85 (.ib .rem (T 84) (KI 64)),
             i_ 86 (.call 116 [(T 85)]),
             i_ 87 (.sb .add (T 82) (T 86)),
             i_ 88 (.mv (T 6)),
             i_ 89 (.ib .rem (T 88) (KI 64)),
             i_ 90 (.call 116 [(T 89)]),
             i_ 91 (.sb .add (T 87) (T 90)),
             i_ 3 (.mv (T 91))]))
          .skip))
        (.seq
         (.ops [i_ 92 (.mv (T 3)),
           i_ 2 (.mv (T 92))])
         .ret))))))
def m77 : MF := ⟨93, [(.tmp 2)], c77⟩
theorem r77 : resF Tryd.prog Tryd.f77 = some m77 := by kernel_rfl
theorem k77 : Callable Tryd.prog 77 := ⟨_, Tryd.func77, by kernel_rfl, by kernel_rfl⟩

def c79 : MC :=
   (.seq
    (.ops [i_ 2 (.mv (KS [])),
      i_ 3 (.mv (KB false))])
    (.seq
     (.ops [i_ 7 (.mv (T 0)),
       i_ 8 (.call 118 [(T 7), (KS [61])]),
       i_ 4 (.mv (T 8))])
     (.seq
      (.seq
       (.ops [i_ 9 (.mv (T 0)),
         i_ 10 (.lenS (T 9)),
         i_ 11 (.ib .rem (T 10) (KI 4)),
         i_ 12 (.ib .neq (T 11) (KI 0)),
         i_ 13 (.mv (T 12)),
         ig 14 13 false (.mv (T 0)),
         ig 15 13 false (.lenS (T 14)),
         ig 16 13 false (.mv (T 4)),
         ig 17 13 false (.lenS (T 16)),
         ig 18 13 false (.ib .sub (T 15) (T 17)),
         ig 19 13 false (.ib .gtr (T 18) (KI 2)),
         i_ 20 (.pick (T 13) (KB true) (T 19))])
       (.cond (T 20)
        (.seq
         (.ops [i_ 2 (.mv (KS [])),
           i_ 3 (.mv (KB false))])
         .ret)
        .skip))
      (.seq
       (.ops [i_ 22 (.mv (T 4)),
         i_ 23 (.call 120 [(FN 121), (T 22)]),
         i_ 24 (.call 119 [(T 23)]),
         i_ 21 (.mv (T 24)),
         i_ 25 (.ext (T 21) 0),
         i_ 26 (.ext (T 21) 1),
         i_ 5 (.mv (T 25)),
         i_ 6 (.mv (T 26))])
       (.seq
        (.ops [i_ 27 (.mv (T 5)),
          i_ 28 (.b2s (T 27)),
          i_ 29 (.mv (T 6)),
          i_ 30 (.ib .eql (T 29) (KI 0)),
          i_ 2 (.mv (T 28)),
          i_ 3 (.mv (T 30))])
        .ret)))))
def m79 : MF := ⟨31, [(.tmp 2), (.tmp 3)], c79⟩
theorem r79 : resF Tryd.prog Tryd.f79 = some m79 := by kernel_rfl
theorem k79 : Callable Tryd.prog 79 := ⟨_, Tryd.func79, by kernel_rfl, by kernel_rfl⟩

def c80 : MC :=
   (.seq
    (.ops [i_ 4 (.mv (.const (.slice none 0 0)))])
    (.seq
     (.ops [i_ 5 (.mv (.const (.slice none 0 0)))])
     (.seq
      (.seq
       (.ops [i_ 8 (.mv (T 0)),
         i_ 9 (.lenV (T 8)),
         i_ 10 (.mv (KI 0))])
       (.block 0
        (.loop [(11, 24), (7, 8), (5, 6), (10, 11)]
         (.seq
          (.ops [i_ 11 (.ib .lss (T 10) (T 9))])
          (.seq
           (.cond (T 11)
            .skip
            (.exit 0))
           (.seq
            (.block 1
             (.seq
              (.ops [i_ 12 (.iaddr 2 (T 8) (T 10)),
                i_ 13 (.ldN 2 (T 12)),
                i_ 7 (.alloc 71 [(.string ⟨⟨[]⟩⟩), (.string ⟨⟨[]⟩⟩)]),
                n_ (.st 2 (T 7) (T 13))])
              (.seq
               (.ops [i_ 14 (.faddr 0 (T 7)),
                 i_ 15 (.ld1 (T 14)),
                 i_ 16 (.mv (T 1)),
                 i_ 17 (.sb .eql (T 15) (T 16))])
               (.cond (T 17)
                (.ops [i_ 18 (.mv (T 5)),
                  i_ 19 (.faddr 1 (T 7)),
                  i_ 20 (.ld1 (T 19)),
                  i_ 21 (.bslice 9 [(.string ⟨⟨[]⟩⟩)] 1 1 [(0, (1, (T 20)))]),
                  i_ 22 (.append 9 1 16 (T 18) (T 21)),
                  i_ 5 (.mv (T 22))])
                .skip))))
            (.ops [i_ 23 (.ib .add (T 10) (KI 1)),
              i_ 10 (.mv (T 23))])))))))
      (.seq
       (.ops [i_ 24 (.mv (T 5)),
         i_ 4 (.mv (T 24))])
       .ret))))
def m80 : MF := ⟨25, [(.tmp 4)], c80⟩
theorem r80 : resF Tryd.prog Tryd.f80 = some m80 := by kernel_rfl
theorem k80 : Callable Tryd.prog 80 := ⟨_, Tryd.func80, by kernel_rfl, by kernel_rfl⟩

def c81 : MC :=
   (.seq
    (.ops [i_ 2 (.box 35 (T 0)),
      i_ 4 (.mv (KS [])),
      i_ 5 (.mv (KB false))])
    (.seq
     (.ops [i_ 6 (.mv (KS []))])
     (.seq
      (.seq
       (.ops [i_ 9 (.faddr 3 (T 2)),
         i_ 10 (.ld1 (T 9)),
         i_ 11 (.lenV (T 10)),
         i_ 12 (.mv (KI 0))])
       (.block 0
        (.loop [(13, 23), (8, 9), (6, 7), (12, 13)]
         (.seq
          (.ops [i_ 13 (.ib .lss (T 12) (T 11))])
          (.seq
           (.cond (T 13)
            .skip
            (.exit 0))
           (.seq
            (.block 1
             (.seq
              (.ops [i_ 14 (.iaddr 2 (T 10) (T 12)),
                i_ 15 (.ldN 2 (T 14)),
                i_ 8 (.alloc 71 [(.string ⟨⟨[]⟩⟩), (.string ⟨⟨[]⟩⟩)]),
                n_ (.st 2 (T 8) (T 15))])
              (.seq
               (.ops [i_ 16 (.faddr 0 (T 8)),
                 i_ 17 (.ld1 (T 16)),
                 i_ 18 (.mv (T 1)),
                 i_ 19 (.sb .eql (T 17) (T 18))])
               (.cond (T 19)
                (.ops [i_ 20 (.faddr 1 (T 8)),
                  i_ 21 (.ld1 (T 20)),
                  i_ 6 (.mv (T 21))])
                .skip))))
            (.ops [i_ 22 (.ib .add (T 12) (KI 1)),
              i_ 12 (.mv (T 22))])))))))
      (.seq
       (.seq
        (.ops [i_ 23 (.mv (T 1)),
          i_ 24 (.call 106 [(T 2), (T 23)]),
          i_ 25 (.ib .neq (T 24) (KI 1))])
        (.cond (T 25)
         (.seq
          (.ops [i_ 4 (.mv (KS [])),
            i_ 5 (.mv (KB false))])
          .ret)
         .skip))
       (.seq
        (.ops [i_ 26 (.mv (T 6)),
          i_ 4 (.mv (T 26)),
          i_ 5 (.mv (KB true))])
        .ret)))))
def m81 : MF := ⟨27, [(.tmp 4), (.tmp 5)], c81⟩
theorem r81 : resF Tryd.prog Tryd.f81 = some m81 := by kernel_rfl
theorem k81 : Callable Tryd.prog 81 := ⟨_, Tryd.func81, by kernel_rfl, by kernel_rfl⟩

def c83 : MC :=
   (.seq
    (.ops [i_ 4 (.mv (KB false))])
    (.seq
     (.ops [i_ 5 (.mv (T 0)),
       i_ 6 (.mv (T 1)),
       i_ 7 (.call 123 [(T 5), (T 6)]),
       i_ 8 (.ib .geq (T 7) (KI 0)),
       i_ 4 (.mv (T 8))])
     .ret))
def m83 : MF := ⟨9, [(.tmp 4)], c83⟩
theorem r83 : resF Tryd.prog Tryd.f83 = some m83 := by kernel_rfl
theorem k83 : Callable Tryd.prog 83 := ⟨_, Tryd.func83, by kernel_rfl, by kernel_rfl⟩

def c84 : MC :=
   (.seq
    (.ops [i_ 3 (.mv (KB false))])
    (.seq
     (.ops [i_ 4 (.mv (T 0)),
       i_ 5 (.ld1 (T 1)),
       i_ 6 (.sb .neq (T 4) (T 5)),
       i_ 3 (.mv (T 6))])
     .ret))
def m84 : MF := ⟨7, [(.tmp 3)], c84⟩
theorem r84 : resF Tryd.prog Tryd.f84 = some m84 := by kernel_rfl
theorem k84 : Callable Tryd.prog 84 := ⟨_, Tryd.func84, by kernel_rfl, by kernel_rfl⟩

def c85 : MC :=
   (.seq
    (.ops [i_ 4 (.mv (KI 0)),
      i_ 5 (.mv (KI 0))])
    (.seq
     (.ops [i_ 7 (.mv (T 1)),
       i_ 8 (.call 124 [(T 7)]),
       i_ 6 (.alloc 154 [(.int .i64 0), (.int .i64 0)]),
       n_ (.st 2 (T 6) (T 8))])
     (.seq
      (.block 0
       (.seq
        (.ops [i_ 10 (.ldN 2 (T 6)),
          i_ 11 (.build [(.int .i64 0), (.int .i64 0)] []),
          i_ 12 (.eqA false 154 [154] [1, 1] (T 10) (T 11)),
          i_ 9 (.mv (T 12))])
        (.cond (T 9)
         (.seq
          (.ops [i_ 4 (.mv (KI 0)),
            i_ 5 (.mv (KI 24))])
          .ret)
         (.seq
          (.ops [i_ 14 (.mv (T 0)),
            i_ 15 (.sb .eql (T 14) (KS [80, 79, 83, 84])),
            i_ 16 (.mv (T 15)),
            ig 17 16 true (.faddr 0 (T 6)),
            ig 18 16 true (.ld1 (T 17)),
            ig 19 16 true (.ib .gtr (T 18) (KI 0)),
            i_ 20 (.pick (T 16) (T 19) (KB false)),
            i_ 13 (.mv (T 20))])
          (.cond (T 13)
           (.seq
            (.ops [i_ 21 (.faddr 0 (T 6)),
              i_ 22 (.ld1 (T 21)),
              i_ 4 (.mv (T 22)),
              i_ 5 (.mv (KI 0))])
            .ret)
           (.seq
            (.ops [i_ 24 (.mv (T 0)),
              i_ 25 (.sb .eql (T 24) (KS [71, 69, 84])),
              i_ 26 (.mv (T 25)),
              ig 27 26 true (.faddr 1 (T 6)),
              ig 28 26 true (.ld1 (T 27)),
              ig 29 26 true (.ib .gtr (T 28) (KI 0)),
              i_ 30 (.pick (T 26) (T 29) (KB false)),
              i_ 23 (.mv (T 30))])
            (.cond (T 23)
             (.seq
              (.ops [i_ 31 (.faddr 1 (T 6)),
                i_ 32 (.ld1 (T 31)),
                i_ 4 (.mv (T 32)),
                i_ 5 (.mv (KI 0))])
              .ret)
             .skip)))))))
      (.seq
       (.ops [i_ 4 (.mv (KI 0)),
         i_ 5 (.mv (KI 23))])
       .ret))))
def m85 : MF := ⟨33, [(.tmp 4), (.tmp 5)], c85⟩
theorem r85 : resF Tryd.prog Tryd.f85 = some m85 := by kernel_rfl
theorem k85 : Callable Tryd.prog 85 := ⟨_, Tryd.func85, by kernel_rfl, by kernel_rfl⟩

def c106 : MC :=
   (.seq
    (.ops [i_ 4 (.mv (KI 0))])
    (.seq
     (.ops [i_ 5 (.mv (KI 0))])
     (.seq
      (.seq
       (.ops [i_ 8 (.mv (T 0)),
         i_ 9 (.nilck (T 8)),
         i_ 10 (.faddr 3 (T 9)),
         i_ 11 (.ld1 (T 10)),
         i_ 12 (.lenV (T 11)),
         i_ 13 (.mv (KI 0))])
       (.block 0
        (.loop [(14, 24), (7, 8), (5, 6), (13, 14)]
         (.seq
          (.ops [i_ 14 (.ib .lss (T 13) (T 12))])
          (.seq
           (.cond (T 14)
            .skip
            (.exit 0))
           (.seq
            (.block 1
             (.seq
              (.ops [i_ 15 (.iaddr 2 (T 11) (T 13)),
                i_ 16 (.ldN 2 (T 15)),
                i_ 7 (.alloc 71 [(.string ⟨⟨[]⟩⟩), (.string ⟨⟨[]⟩⟩)]),
                n_ (.st 2 (T 7) (T 16))])
              (.seq
               (.ops [i_ 17 (.faddr 0 (T 7)),
                 i_ 18 (.ld1 (T 17)),
                 i_ 19 (.mv (T 1)),
                 i_ 20 (.sb .eql (T 18) (T 19))])
               (.cond (T 20)
                (.ops [i_ 21 (.mv (T 5)),
                  i_ 22 (.ib .add (T 21) (KI 1)),
                  i_ 5 (.mv (T 22))])
                .skip))))
            (.ops [i_ 23 (.ib .add (T 13) (KI 1)),
              i_ 13 (.mv (T 23))])))))))
      (.seq
       (.ops [i_ 24 (.mv (T 5)),
         i_ 4 (.mv (T 24))])
       .ret))))
def m106 : MF := ⟨25, [(.tmp 4)], c106⟩
theorem r106 : resF Tryd.prog Tryd.f106 = some m106 := by kernel_rfl
theorem k106 : Callable Tryd.prog 106 := ⟨_, Tryd.func106, by kernel_rfl, by kernel_rfl⟩

def c116 : MC :=
   (.seq
    (.ops [i_ 2 (.mv (KS []))])
    (.seq
     (.ops [i_ 3 (.mv (T 0)),
       i_ 4 (.mv (T 0)),
       i_ 5 (.ib .add (T 4) (KI 1)),
       i_ 6 (.slS (KS [65, 66, 67, 68, 69, 70, 71, 72, 73, 74, 75, 76, 77, 78, 79, 80, 81, 82, 83, 84, 85, 86, 87, 88, 89, 90, 97, 98, 99, 100, 101, 102, 103, 104, 105, 106, 107, 108, 109, 110, 111, 112, 113, 114, 115, 116, 117, 118, 119, 120, 121, 122, 48, 49, 50, 51, 52, 53, 54, 55, 56, 57, 45, 95]) (some (T 3)) (some (T 5))),
       i_ 2 (.mv (T 6))])
     .ret))
def m116 : MF := ⟨7, [(.tmp 2)], c116⟩
theorem r116 : resF Tryd.prog Tryd.f116 = some m116 := by kernel_rfl
theorem k116 : Callable Tryd.prog 116 := ⟨_, Tryd.func116, by kernel_rfl, by kernel_rfl⟩

def c119 : MC :=
   (.seq
    (.ops [i_ 2 (.mv (.const (.slice none 0 0))),
      i_ 3 (.mv (KI 0))])
    (.seq
     (.ops [i_ 4 (.mv (.const (.slice none 0 0)))])
     (.seq
      (.ops [i_ 5 (.mv (.const (.int .u64 0))),
        i_ 6 (.mv (KI 0))])
      (.seq
       (.seq
        (.ops [i_ 9 (.mv (T 0)),
          i_ 10 (.lenS (T 9)),
          i_ 11 (.mv (KI 0))])
        (.block 0
         (.loop [(12, 39), (7, 9), (2, 5), (5, 7), (11, 12)]
          (.seq
           (.ops [i_ 12 (.ib .lss (T 11) (T 10))])
           (.seq
            (.cond (T 12)
             .skip
             (.exit 0))
            (.seq
             (.block 1
              (.seq
               (.ops [i_ 13 (.mv (T 11)),
                 i_ 7 (.mv (T 13))])
               (.seq
                (.ops [i_ 14 (.mv (T 0)),
                  i_ 15 (.mv (T 7)),
                  i_ 16 (.idx (T 14) (T 15)),
                  i_ 17 (.call 110 [(KS [65, 66, 67, 68, 69, 70, 71, 72, 73, 74, 75, 76, 77, 78, 79, 80, 81, 82, 83, 84, 85, 86, 87, 88, 89, 90, 97, 98, 99, 100, 101, 102, 103, 104, 105, 106, 107, 108, 109, 110, 111, 112, 113, 114, 115, 116, 117, 118, 119, 120, 121, 122, 48, 49, 50, 51, 52, 53, 54, 55, 56, 57, 45, 95]), (T 16)]),
                  i_ 8 (.mv (T 17))])
                (.seq
                 (.seq
                  (.ops [i_ 18 (.mv (T 8)),
                    i_ 19 (.ib .lss (T 18) (KI 0))])
                  (.cond (T 19)
                   (.seq
                    (.ops [i_ 2 (.mv (.const (.slice none 0 0))),
                      i_ 3 (.mv (KI 4))])
                    .ret)
                   .skip))
                 (.seq
                  (.ops [i_ 20 (.mv (T 5)),
                    i_ 21 (.ib .shl (T 20) (.const (.int .u64 6))),
                    i_ 22 (.mv (T 8)),
                    i_ 23 (.conv .u64 (T 22)),
                    i_ 24 (.ib .or (T 21) (T 23)),
                    i_ 5 (.mv (T 24))])
                  (.seq
                   (.ops [i_ 25 (.mv (T 6)),
                     i_ 26 (.ib .add (T 25) (KI 6)),
                     i_ 6 (.mv (T 26))])
                   (.seq
                    (.ops [i_ 27 (.mv (T 6)),
                      i_ 28 (.ib .geq (T 27) (KI 8))])
                    (.cond (T 28)
                     (.seq
                      (.ops [i_ 29 (.mv (T 6)),
                        i_ 30 (.ib .sub (T 29) (KI 8)),
                        i_ 6 (.mv (T 30))])
                      (.ops [i_ 31 (.mv (T 4)),
                        i_ 32 (.mv (T 5)),
                        i_ 33 (.mv (T 6)),
                        i_ 34 (.ib .shr (T 32) (T 33)),
                        i_ 35 (.conv .u8 (T 34)),
                        i_ 36 (.bslice 5 [(.int .u8 0)] 1 1 [(0, (1, (T 35)))]),
                        i_ 37 (.append 5 1 1 (T 31) (T 36)),
                        i_ 4 (.mv (T 37))]))
                     .skip))))))))
             (.ops [i_ 38 (.ib .add (T 11) (KI 1)),
               i_ 11 (.mv (T 38))])))))))
       (.seq
        (.seq
         (.ops [i_ 39 (.mv (T 6)),
           i_ 40 (.ib .geq (T 39) (KI 6)),
           i_ 41 (.mv (T 40)),
           ig 42 41 false (.mv (T 5)),
           ig 43 41 false (.mv (T 6)),
           ig 44 41 false (.ib .shl (.const (.int .u64 1)) (T 43)),
           ig 45 41 false (.ib .sub (T 44) (.const (.int .u64 1))),
           ig 46 41 false (.ib .and (T 42) (T 45)),
           ig 47 41 false (.ib .neq (T 46) (.const (.int .u64 0))),
           i_ 48 (.pick (T 41) (KB true) (T 47))])
         (.cond (T 48)
          (.seq
           (.ops [i_ 2 (.mv (.const (.slice none 0 0))),
             i_ 3 (.mv (KI 4))])
           .ret)
          .skip))
        (.seq
         (.ops [i_ 49 (.mv (T 4)),
           i_ 2 (.mv (T 49)),
           i_ 3 (.mv (KI 0))])
         .ret))))))
def m119 : MF := ⟨50, [(.tmp 2), (.tmp 3)], c119⟩
theorem r119 : resF Tryd.prog Tryd.f119 = some m119 := by kernel_rfl
theorem k119 : Callable Tryd.prog 119 := ⟨_, Tryd.func119, by kernel_rfl, by kernel_rfl⟩

def c124 : MC :=
   (.seq
    (.ops [i_ 2 (.alloc 154 [(.int .i64 0), (.int .i64 0)])])
    (.seq
     (.seq
      (.ops [i_ 3 (.mv (T 0))])
      (.block 0
       (.seq
        (.ops [i_ 5 (.sb .eql (T 3) (KS [47, 97, 117, 116, 104, 111, 114, 105, 122, 101])),
          i_ 4 (.mv (T 5))])
        (.cond (T 4)
         (.seq
          (.ops [i_ 6 (.build [(.int .i64 0), (.int .i64 0)] [(0, (1, (KI 1)))]),
            n_ (.st 2 (T 2) (T 6))])
          .ret)
         (.seq
          (.ops [i_ 8 (.sb .eql (T 3) (KS [47, 116, 111, 107, 101, 110])),
            i_ 7 (.mv (T 8))])
          (.cond (T 7)
           (.seq
            (.ops [i_ 9 (.build [(.int .i64 0), (.int .i64 0)] [(0, (1, (KI 2)))]),
              n_ (.st 2 (T 2) (T 9))])
            .ret)
           (.seq
            (.ops [i_ 11 (.sb .eql (T 3) (KS [47, 105, 110, 116, 114, 111, 115, 112, 101, 99, 116])),
              i_ 10 (.mv (T 11))])
            (.cond (T 10)
             (.seq
              (.ops [i_ 12 (.build [(.int .i64 0), (.int .i64 0)] [(0, (1, (KI 3)))]),
                n_ (.st 2 (T 2) (T 12))])
              .ret)
             (.seq
              (.ops [i_ 14 (.sb .eql (T 3) (KS [47, 114, 101, 118, 111, 107, 101])),
                i_ 13 (.mv (T 14))])
              (.cond (T 13)
               (.seq
                (.ops [i_ 15 (.build [(.int .i64 0), (.int .i64 0)] [(0, (1, (KI 4)))]),
                  n_ (.st 2 (T 2) (T 15))])
                .ret)
               (.seq
                (.ops [i_ 17 (.sb .eql (T 3) (KS [47, 99, 111, 110, 115, 101, 110, 116])),
                  i_ 16 (.mv (T 17))])
                (.cond (T 16)
                 (.seq
                  (.ops [i_ 18 (.build [(.int .i64 0), (.int .i64 0)] [(0, (1, (KI 5)))]),
                    n_ (.st 2 (T 2) (T 18))])
                  .ret)
                 (.seq
                  (.ops [i_ 20 (.sb .eql (T 3) (KS [47, 119, 105, 116, 104, 100, 114, 97, 119])),
                    i_ 19 (.mv (T 20))])
                  (.cond (T 19)
                   (.seq
                    (.ops [i_ 21 (.build [(.int .i64 0), (.int .i64 0)] [(0, (1, (KI 6)))]),
                      n_ (.st 2 (T 2) (T 21))])
                    .ret)
                   (.seq
                    (.ops [i_ 23 (.sb .eql (T 3) (KS [47, 99, 108, 105, 101, 110, 116, 115])),
                      i_ 22 (.mv (T 23))])
                    (.cond (T 22)
                     (.seq
                      (.ops [i_ 24 (.build [(.int .i64 0), (.int .i64 0)] [(0, (1, (KI 7)))]),
                        n_ (.st 2 (T 2) (T 24))])
                      .ret)
                     (.seq
                      (.ops [i_ 26 (.sb .eql (T 3) (KS [47, 99, 108, 105, 101, 110, 116, 115, 47, 114, 101, 109, 111, 118, 101])),
                        i_ 25 (.mv (T 26))])
                      (.cond (T 25)
                       (.seq
                        (.ops [i_ 27 (.build [(.int .i64 0), (.int .i64 0)] [(0, (1, (KI 8)))]),
                          n_ (.st 2 (T 2) (T 27))])
                        .ret)
                       (.seq
                        (.ops [i_ 29 (.sb .eql (T 3) (KS [47, 116, 117, 112, 108, 101, 115])),
                          i_ 28 (.mv (T 29))])
                        (.cond (T 28)
                         (.seq
                          (.ops [i_ 30 (.build [(.int .i64 0), (.int .i64 0)] [(0, (1, (KI 9))), (1, (1, (KI 10)))]),
                            n_ (.st 2 (T 2) (T 30))])
                          .ret)
                         (.seq
                          (.ops [i_ 32 (.sb .eql (T 3) (KS [47, 99, 111, 110, 102, 105, 103])),
                            i_ 31 (.mv (T 32))])
                          (.cond (T 31)
                           (.seq
                            (.ops [i_ 33 (.build [(.int .i64 0), (.int .i64 0)] [(0, (1, (KI 15))), (1, (1, (KI 16)))]),
                              n_ (.st 2 (T 2) (T 33))])
                            .ret)
                           (.seq
                            (.ops [i_ 35 (.sb .eql (T 3) (KS [47, 99, 111, 108, 108, 101, 99, 116])),
                              i_ 34 (.mv (T 35))])
                            (.cond (T 34)
                             (.seq
                              (.ops [i_ 36 (.build [(.int .i64 0), (.int .i64 0)] [(0, (1, (KI 17)))]),
                                n_ (.st 2 (T 2) (T 36))])
                              .ret)
                             .skip))))))))))))))))))))))))
     (.seq
      (.ops [i_ 37 (.mv (T 0)),
        i_ 38 (.call 166 [(T 37)]),
        i_ 39 (.build [(.int .i64 0), (.int .i64 0)] [(1, (1, (T 38)))]),
        n_ (.st 2 (T 2) (T 39))])
      .ret)))
def m124 : MF := ⟨40, [(.cell 2 2)], c124⟩
theorem r124 : resF Tryd.prog Tryd.f124 = some m124 := by kernel_rfl
theorem k124 : Callable Tryd.prog 124 := ⟨_, Tryd.func124, by kernel_rfl, by kernel_rfl⟩

def c166 : MC :=
   (.seq
    (.ops [i_ 2 (.mv (KI 0))])
    (.seq
     (.seq
      (.ops [i_ 3 (.mv (T 0))])
      (.block 0
       (.seq
        (.ops [i_ 5 (.sb .eql (T 3) (KS [47, 99, 104, 101, 99, 107])),
          i_ 4 (.mv (T 5))])
        (.cond (T 4)
         (.seq
          (.ops [i_ 2 (.mv (KI 11))])
          .ret)
         (.seq
          (.ops [i_ 7 (.sb .eql (T 3) (KS [47, 101, 120, 112, 97, 110, 100])),
            i_ 6 (.mv (T 7))])
          (.cond (T 6)
           (.seq
            (.ops [i_ 2 (.mv (KI 12))])
            .ret)
           (.seq
            (.ops [i_ 9 (.sb .eql (T 3) (KS [47, 108, 111, 111, 107, 117, 112])),
              i_ 8 (.mv (T 9))])
            (.cond (T 8)
             (.seq
              (.ops [i_ 2 (.mv (KI 13))])
              .ret)
             (.seq
              (.ops [i_ 11 (.sb .eql (T 3) (KS [47, 119, 97, 116, 99, 104])),
                i_ 10 (.mv (T 11))])
              (.cond (T 10)
               (.seq
                (.ops [i_ 2 (.mv (KI 14))])
                .ret)
               (.seq
                (.ops [i_ 13 (.sb .eql (T 3) (KS [47, 104, 101, 97, 108, 116, 104])),
                  i_ 12 (.mv (T 13))])
                (.cond (T 12)
                 (.seq
                  (.ops [i_ 2 (.mv (KI 18))])
                  .ret)
                 .skip))))))))))))
     (.seq
      (.ops [i_ 2 (.mv (KI 0))])
      .ret)))
def m166 : MF := ⟨14, [(.tmp 2)], c166⟩
theorem r166 : resF Tryd.prog Tryd.f166 = some m166 := by kernel_rfl
theorem k166 : Callable Tryd.prog 166 := ⟨_, Tryd.func166, by kernel_rfl, by kernel_rfl⟩

end Go.Proofs.YtkhgmmejgikgnaaDoor

/- Functions of the program, resolved: made by a program of ours; each is checked by the kernel. -/
namespace Go.Proofs.YtkhgmmejgikgnaaDoor
def c72 : MC :=
   (.seq
    (.ops [i_ 4 (.mv (KS []))])
    (.seq
     (.seq
      (.ops [i_ 11 (.mv (T 0)),
        i_ 12 (.lenV (T 11))])
      (.block 0
       (.seq
        (.ops [i_ 14 (.ib .eql (T 12) (KI 0)),
          i_ 13 (.mv (T 14))])
        (.cond (T 13)
         (.seq
          (.ops [i_ 4 (.mv (KS []))])
          .ret)
         (.seq
          (.ops [i_ 16 (.ib .eql (T 12) (KI 1)),
            i_ 15 (.mv (T 16))])
          (.cond (T 15)
           (.seq
            (.ops [i_ 17 (.mv (T 0)),
              i_ 18 (.iaddr 1 (T 17) (KI 0)),
              i_ 19 (.ld1 (T 18)),
              i_ 4 (.mv (T 19))])
            .ret)
           .skip))))))
     (.seq
      (.ops [i_ 5 (.mv (KI 0))])
      (.seq
       (.seq
        (.ops [i_ 20 (.mv (T 1)),
          i_ 21 (.lenS (T 20)),
          i_ 22 (.ib .gtr (T 21) (KI 0))])
        (.cond (T 22)
         (.seq
          (.seq
           (.ops [i_ 23 (.mv (T 1)),
             i_ 24 (.lenS (T 23)),
             i_ 25 (.mv (T 0)),
             i_ 26 (.lenV (T 25)),
             i_ 27 (.ib .sub (T 26) (KI 1)),
             i_ 28 (.ib .quo (KI 9223372036854775807) (T 27)),
             i_ 29 (.ib .geq (T 24) (T 28))])
           (.cond (T 29)
            (.ops [i_ 30 (.raw ⟨(some 30), (.makeInterface 9 (KS [115, 116, 114, 105, 110, 103, 115, 58, 32, 74, 111, 105, 110, 32, 111, 117, 116, 112, 117, 116, 32, 108, 101, 110, 103, 116, 104, 32, 111, 118, 101, 114, 102, 108, 111, 119])), 20, "strings.go:479", ⟨[]⟩, none⟩),
              n_ (.raw ⟨none, (.panic (T 30)), 0, "strings.go:479", ⟨[⟨0, .data⟩]⟩, none⟩)])
            .skip))
          (.ops [i_ 31 (.mv (T 5)),
            i_ 32 (.mv (T 1)),
            i_ 33 (.lenS (T 32)),
            i_ 34 (.mv (T 0)),
            i_ 35 (.lenV (T 34)),
            i_ 36 (.ib .sub (T 35) (KI 1)),
            i_ 37 (.ib .mul (T 33) (T 36)),
            i_ 38 (.ib .add (T 31) (T 37)),
            i_ 5 (.mv (T 38))]))
         .skip))
       (.seq
        (.seq
         (.ops [i_ 39 (.mv (T 0)),
           i_ 40 (.lenV (T 39)),
           i_ 41 (.mv (KI 0))])
         (.block 1
          (.loop [(42, 56), (7, 8), (5, 6), (41, 42)]
           (.seq
            (.ops [i_ 42 (.ib .lss (T 41) (T 40))])
            (.seq
             (.cond (T 42)
              .skip
              (.exit 1))
             (.seq
              (.block 2
               (.seq
                (.ops [i_ 43 (.iaddr 1 (T 39) (T 41)),
                  i_ 44 (.ld1 (T 43)),
                  i_ 7 (.mv (T 44))])
                (.seq
                 (.seq
                  (.ops [i_ 45 (.mv (T 7)),
                    i_ 46 (.lenS (T 45)),
                    i_ 47 (.mv (T 5)),
                    i_ 48 (.ib .sub (KI 9223372036854775807) (T 47)),
                    i_ 49 (.ib .gtr (T 46) (T 48))])
                  (.cond (T 49)
                   (.ops [i_ 50 (.raw ⟨(some 50), (.makeInterface 9 (KS [115, 116, 114, 105, 110, 103, 115, 58, 32, 74, 111, 105, 110, 32, 111, 117, 116, 112, 117, 116, 32, 108, 101, 110, 103, 116, 104, 32, 111, 118, 101, 114, 102, 108, 111, 119])), 20, "strings.go:485", ⟨[]⟩, none⟩),
                     n_ (.raw ⟨none, (.panic (T 50)), 0, "strings.go:485", ⟨[⟨0, .data⟩]⟩, none⟩)])
                   .skip))
                 (.ops [i_ 51 (.mv (T 5)),
                   i_ 52 (.mv (T 7)),
                   i_ 53 (.lenS (T 52)),
                   i_ 54 (.ib .add (T 51) (T 53)),
                   i_ 5 (.mv (T 54))]))))
              (.ops [i_ 55 (.ib .add (T 41) (KI 1)),
                i_ 41 (.mv (T 55))])))))))
        (.seq
         (.ops [i_ 8 (.raw ⟨(some 8), (.alloc 99), 0, "strings.go:490", ⟨[]⟩, none⟩)])
         (.seq
          (.ops [i_ 56 (.mv (T 5)),
            i_ 57 (.call 113 [(T 8), (T 56)])])
          (.seq
           (.ops [i_ 58 (.mv (T 0)),
             i_ 59 (.iaddr 1 (T 58) (KI 0)),
             i_ 60 (.ld1 (T 59)),
             i_ 61 (.call 114 [(T 8), (T 60)])])
           (.seq
            (.seq
             (.ops [i_ 62 (.mv (T 0)),
               i_ 63 (.slV 1 (T 62) (some (KI 1)) none),
               i_ 64 (.lenV (T 63)),
               i_ 65 (.mv (KI 0))])
             (.block 3
              (.loop [(66, 74), (10, 11), (65, 66)]
               (.seq
                (.ops [i_ 66 (.ib .lss (T 65) (T 64))])
                (.seq
                 (.cond (T 66)
                  .skip
                  (.exit 3))
                 (.seq
                  (.block 4
                   (.seq
                    (.ops [i_ 67 (.iaddr 1 (T 63) (T 65)),
                      i_ 68 (.ld1 (T 67)),
                      i_ 10 (.mv (T 68))])
                    (.seq
                     (.ops [i_ 69 (.mv (T 1)),
                       i_ 70 (.call 114 [(T 8), (T 69)])])
                     (.ops [i_ 71 (.mv (T 10)),
                       i_ 72 (.call 114 [(T 8), (T 71)])]))))
                  (.ops [i_ 73 (.ib .add (T 65) (KI 1)),
                    i_ 65 (.mv (T 73))])))))))
            (.seq
             (.ops [i_ 74 (.call 65 [(T 8)]),
               i_ 4 (.mv (T 74))])
             .ret))))))))))
def m72 : MF := ⟨75, [(.tmp 4)], c72⟩
theorem r72 : resF Tryd.prog Tryd.f72 = some m72 := by kernel_rfl
theorem k72 : Callable Tryd.prog 72 := ⟨_, Tryd.func72, by kernel_rfl, by kernel_rfl⟩

def c123 : MC :=
   (.seq
    (.ops [i_ 4 (.mv (KI 0))])
    (.seq
     (.seq
      (.ops [i_ 6 (.mv (T 0)),
        i_ 7 (.lenV (T 6)),
        i_ 8 (.mv (KI 0))])
      (.block 0
       (.loop [(9, 19), (5, 6), (4, 5), (8, 9)]
        (.seq
         (.ops [i_ 9 (.ib .lss (T 8) (T 7))])
         (.seq
          (.cond (T 9)
           .skip
           (.exit 0))
          (.seq
           (.block 1
            (.seq
             (.ops [i_ 10 (.mv (T 8)),
               i_ 5 (.mv (T 10))])
             (.seq
              (.ops [i_ 11 (.mv (T 1)),
                i_ 12 (.mv (T 0)),
                i_ 13 (.mv (T 5)),
                i_ 14 (.iaddr 1 (T 12) (T 13)),
                i_ 15 (.ld1 (T 14)),
                i_ 16 (.callv (T 11) [(T 15)])])
              (.cond (T 16)
               (.seq
                (.ops [i_ 17 (.mv (T 5)),
                  i_ 4 (.mv (T 17))])
                .ret)
               .skip))))
           (.ops [i_ 18 (.ib .add (T 8) (KI 1)),
             i_ 8 (.mv (T 18))])))))))
     (.seq
      (.ops [i_ 4 (.mv (KI (-1)))])
      .ret)))
def m123 : MF := ⟨19, [(.tmp 4)], c123⟩
theorem r123 : resF Tryd.prog Tryd.f123 = some m123 := by kernel_rfl
theorem k123 : Callable Tryd.prog 123 := ⟨_, Tryd.func123, by kernel_rfl, by kernel_rfl⟩

end Go.Proofs.YtkhgmmejgikgnaaDoor

/- Functions of the program, resolved: made by a program of ours; each is checked by the kernel. -/
namespace Go.Proofs.YtkhgmmejgikgnaaDoor
def c4 : MC :=
   (.seq
    (.ops [i_ 6 (.mv (KB false))])
    (.seq
     (.ops [i_ 16 (.mv (T 0)),
       i_ 17 (.call 19 [(T 16), (KI 1), (KI 2100)]),
       i_ 18 (.mv (T 1)),
       i_ 19 (.call 19 [(T 18), (KI 1), (KI 40)]),
       i_ 20 (.mv (T 2)),
       i_ 21 (.call 19 [(T 20), (KI 0), (KI 8200)]),
       i_ 0 (.mv (T 17)),
       i_ 1 (.mv (T 19)),
       i_ 2 (.mv (T 21))])
     (.seq
      (.ops [i_ 22 (.mv (T 0)),
        i_ 23 (.mkslice 5 1 1 [(.int .u8 0)] (T 22) (T 22)),
        i_ 7 (.mv (T 23))])
      (.seq
       (.seq
        (.ops [i_ 8 (.mv (KI 0))])
        (.block 0
         (.loop [(24, 29), (29, 32), (8, 9)]
          (.seq
           (.seq
            (.ops [i_ 24 (.mv (T 8)),
              i_ 25 (.mv (T 0)),
              i_ 26 (.ib .lss (T 24) (T 25))])
            (.cond (T 26)
             .skip
             (.exit 0)))
           (.seq
            (.block 1
             (.ops [i_ 29 (.mv (T 7)),
               i_ 30 (.mv (T 8)),
               i_ 31 (.iaddr 1 (T 29) (T 30)),
               n_ (.st 1 (T 31) (KU 47))]))
            (.ops [i_ 27 (.mv (T 8)),
              i_ 28 (.ib .add (T 27) (KI 1)),
              i_ 8 (.mv (T 28))]))))))
       (.seq
        (.ops [i_ 32 (.mv (T 7)),
          i_ 33 (.b2s (T 32)),
          i_ 34 (.sb .add (KS [71, 69, 84, 32]) (T 33)),
          i_ 35 (.sb .add (T 34) (KS [32, 72, 84, 84, 80, 47, 49, 46, 49, 13, 10, 104, 111, 115, 116, 58, 32, 97, 13, 10])),
          i_ 9 (.mv (T 35))])
        (.seq
         (.seq
          (.ops [i_ 10 (.mv (KI 2))])
          (.block 2
           (.loop [(36, 41), (41, 43), (9, 11)]
            (.seq
             (.seq
              (.ops [i_ 36 (.mv (T 10)),
                i_ 37 (.mv (T 1)),
                i_ 38 (.ib .lss (T 36) (T 37))])
              (.cond (T 38)
               .skip
               (.exit 2)))
             (.seq
              (.block 3
               (.ops [i_ 41 (.mv (T 9)),
                 i_ 42 (.sb .add (T 41) (KS [120, 58, 32, 121, 13, 10])),
                 i_ 9 (.mv (T 42))]))
              (.ops [i_ 39 (.mv (T 10)),
                i_ 40 (.ib .add (T 39) (KI 1)),
                i_ 10 (.mv (T 40))]))))))
         (.seq
          (.ops [i_ 11 (.mv (KS []))])
          (.seq
           (.seq
            (.ops [i_ 43 (.mv (T 2)),
              i_ 12 (.mv (T 43))])
            (.block 4
             (.loop [(44, 52), (52, 60), (11, 13)]
              (.seq
               (.seq
                (.ops [i_ 44 (.mv (T 12)),
                  i_ 45 (.ib .gtr (T 44) (KI 0)),
                  i_ 46 (.mv (T 45)),
                  ig 47 46 false (.mv (T 11)),
                  ig 48 46 false (.sb .eql (T 47) (KS [])),
                  i_ 49 (.pick (T 46) (KB true) (T 48))])
                (.cond (T 49)
                 .skip
                 (.exit 4)))
               (.seq
                (.block 5
                 (.ops [i_ 52 (.mv (T 12)),
                   i_ 53 (.ib .rem (T 52) (KI 10)),
                   i_ 54 (.mv (T 12)),
                   i_ 55 (.ib .rem (T 54) (KI 10)),
                   i_ 56 (.ib .add (T 55) (KI 1)),
                   i_ 57 (.slS (KS [48, 49, 50, 51, 52, 53, 54, 55, 56, 57]) (some (T 53)) (some (T 56))),
                   i_ 58 (.mv (T 11)),
                   i_ 59 (.sb .add (T 57) (T 58)),
                   i_ 11 (.mv (T 59))]))
                (.ops [i_ 50 (.mv (T 12)),
                  i_ 51 (.ib .quo (T 50) (KI 10)),
                  i_ 12 (.mv (T 51))]))))))
           (.seq
            (.ops [i_ 60 (.mv (T 9)),
              i_ 61 (.sb .add (T 60) (KS [99, 111, 110, 116, 101, 110, 116, 45, 108, 101, 110, 103, 116, 104, 58, 32])),
              i_ 62 (.mv (T 11)),
              i_ 63 (.sb .add (T 61) (T 62)),
              i_ 64 (.sb .add (T 63) (KS [13, 10, 13, 10])),
              i_ 9 (.mv (T 64))])
            (.seq
             (.ops [i_ 65 (.mv (T 9)),
               i_ 66 (.s2b 5 (T 65)),
               i_ 67 (.mv (T 2)),
               i_ 68 (.raw ⟨(some 68), (.call ⟨(.builtin .append), ⟨[(T 66), (T 67)]⟩, ⟨[33, 3]⟩⟩), 33, "law.go:95", ⟨[⟨1, .data⟩, ⟨2, .data⟩]⟩, none⟩),
               i_ 13 (.mv (T 68))])
             (.seq
              (.ops [i_ 70 (.mv (T 13)),
                i_ 71 (.call 20 [(T 70)]),
                i_ 69 (.mv (T 71)),
                i_ 72 (.ext (T 69) 0),
                i_ 73 (.ext (T 69) 1),
                i_ 14 (.alloc 35 [(.string ⟨⟨[]⟩⟩), (.string ⟨⟨[]⟩⟩), (.slice none 0 0), (.slice none 0 0), (.slice none 0 0)]),
                n_ (.st 5 (T 14) (T 72)),
                i_ 15 (.mv (T 73))])
              (.seq
               (.seq
                (.ops [i_ 74 (.mv (T 1)),
                  i_ 75 (.ib .lss (T 74) (KI 2))])
                (.cond (T 75)
                 (.ops [i_ 1 (.mv (KI 2))])
                 .skip))
               (.seq
                (.seq
                 (.ops [i_ 76 (.mv (T 0)),
                   i_ 77 (.ib .add (T 76) (KI 13)),
                   i_ 78 (.ib .gtr (T 77) (KI 2048)),
                   i_ 79 (.mv (T 78)),
                   ig 80 79 false (.mv (T 1)),
                   ig 81 79 false (.ib .gtr (T 80) (KI 32)),
                   i_ 82 (.pick (T 79) (KB true) (T 81)),
                   i_ 83 (.mv (T 82)),
                   ig 84 83 false (.mv (T 2)),
                   ig 85 83 false (.ib .gtr (T 84) (KI 8192)),
                   i_ 86 (.pick (T 83) (KB true) (T 85))])
                 (.cond (T 86)
                  (.seq
                   (.ops [i_ 87 (.mv (T 15)),
                     i_ 88 (.ib .eql (T 87) (KI 5)),
                     i_ 89 (.mv (T 88)),
                     ig 90 89 true (.call 21 []),
                     i_ 91 (.pick (T 89) (T 90) (KB false)),
                     i_ 6 (.mv (T 91))])
                   .ret)
                  .skip))
                (.seq
                 (.ops [i_ 92 (.mv (T 15)),
                   i_ 93 (.ib .eql (T 92) (KI 0)),
                   i_ 94 (.mv (T 93)),
                   ig 95 94 true (.call 21 []),
                   i_ 96 (.pick (T 94) (T 95) (KB false)),
                   i_ 6 (.mv (T 96))])
                 .ret))))))))))))))
def m4 : MF := ⟨97, [(.tmp 6)], c4⟩
theorem r4 : resF Tryd.prog Tryd.f4 = some m4 := by kernel_rfl
theorem k4 : Callable Tryd.prog 4 := ⟨_, Tryd.func4, by kernel_rfl, by kernel_rfl⟩

def c20 : MC :=
   (.seq
    (.ops [i_ 2 (.alloc 35 [(.string ⟨⟨[]⟩⟩), (.string ⟨⟨[]⟩⟩), (.slice none 0 0), (.slice none 0 0), (.slice none 0 0)]),
      i_ 3 (.mv (KI 0))])
    (.seq
     (.ops [i_ 15 (.mv (T 0)),
       i_ 16 (.bslice 5 [(.int .u8 0)] 4 1 [(0, (1, (KU 13))), (1, (1, (KU 10))), (2, (1, (KU 13))), (3, (1, (KU 10)))]),
       i_ 17 (.raw ⟨(some 17), (.convert 33 33 (T 16)), 33, "http.go:126", ⟨[⟨1, .data⟩]⟩, none⟩),
       i_ 18 (.call 56 [(T 15), (T 17)]),
       i_ 14 (.mv (T 18)),
       i_ 19 (.ext (T 14) 0),
       i_ 20 (.ext (T 14) 1),
       i_ 21 (.ext (T 14) 2),
       i_ 4 (.mv (T 19)),
       i_ 5 (.mv (T 20)),
       i_ 6 (.mv (T 21))])
     (.seq
      (.block 0
       (.seq
        (.ops [i_ 23 (.mv (T 6)),
          i_ 24 (.not (T 23)),
          i_ 25 (.mv (T 24)),
          ig 26 25 true (.mv (T 0)),
          ig 27 25 true (.lenV (T 26)),
          ig 28 25 true (.ib .leq (T 27) (KI 4099)),
          i_ 29 (.pick (T 25) (T 28) (KB false)),
          i_ 22 (.mv (T 29))])
        (.cond (T 22)
         (.seq
          (.ops [i_ 30 (.build [(.string ⟨⟨[]⟩⟩), (.string ⟨⟨[]⟩⟩), (.slice none 0 0), (.slice none 0 0), (.slice none 0 0)] []),
            n_ (.st 5 (T 2) (T 30)),
            i_ 3 (.mv (KI 3))])
          .ret)
         (.seq
          (.ops [i_ 32 (.mv (T 6)),
            i_ 33 (.not (T 32)),
            i_ 34 (.mv (T 33)),
            ig 35 34 false (.mv (T 4)),
            ig 36 34 false (.lenV (T 35)),
            ig 37 34 false (.ib .gtr (T 36) (KI 4096)),
            i_ 38 (.pick (T 34) (KB true) (T 37)),
            i_ 31 (.mv (T 38))])
          (.cond (T 31)
           (.seq
            (.ops [i_ 39 (.build [(.string ⟨⟨[]⟩⟩), (.string ⟨⟨[]⟩⟩), (.slice none 0 0), (.slice none 0 0), (.slice none 0 0)] []),
              n_ (.st 5 (T 2) (T 39)),
              i_ 3 (.mv (KI 5))])
            .ret)
           .skip)))))
      (.seq
       (.ops [i_ 40 (.mv (T 4)),
         i_ 41 (.b2s (T 40)),
         i_ 42 (.call 57 [(T 41), (KS [13, 10])]),
         i_ 7 (.mv (T 42))])
       (.seq
        (.seq
         (.ops [i_ 43 (.mv (T 7)),
           i_ 44 (.call 58 [(T 43)])])
         (.cond (T 44)
          (.seq
           (.ops [i_ 45 (.build [(.string ⟨⟨[]⟩⟩), (.string ⟨⟨[]⟩⟩), (.slice none 0 0), (.slice none 0 0), (.slice none 0 0)] []),
             n_ (.st 5 (T 2) (T 45)),
             i_ 3 (.mv (KI 5))])
           .ret)
          .skip))
        (.seq
         (.ops [i_ 8 (.alloc 35 [(.string ⟨⟨[]⟩⟩), (.string ⟨⟨[]⟩⟩), (.slice none 0 0), (.slice none 0 0), (.slice none 0 0)])])
         (.seq
          (.ops [i_ 46 (.mv (T 7)),
            i_ 47 (.iaddr 1 (T 46) (KI 0)),
            i_ 48 (.ld1 (T 47)),
            i_ 49 (.call 59 [(T 8), (T 48)]),
            i_ 9 (.mv (T 49))])
          (.seq
           (.seq
            (.ops [i_ 50 (.mv (T 7)),
              i_ 51 (.slV 1 (T 50) (some (KI 1)) none),
              i_ 52 (.lenV (T 51)),
              i_ 53 (.mv (KI 0))])
            (.block 1
             (.loop [(54, 63), (11, 12), (9, 10), (53, 54)]
              (.seq
               (.ops [i_ 54 (.ib .lss (T 53) (T 52))])
               (.seq
                (.cond (T 54)
                 .skip
                 (.exit 1))
                (.seq
                 (.block 2
                  (.seq
                   (.ops [i_ 55 (.iaddr 1 (T 51) (T 53)),
                     i_ 56 (.ld1 (T 55)),
                     i_ 11 (.mv (T 56))])
                   (.ops [i_ 57 (.mv (T 9)),
                     i_ 58 (.mv (T 57)),
                     ig 59 58 true (.mv (T 11)),
                     ig 60 58 true (.call 60 [(T 8), (T 59)]),
                     i_ 61 (.pick (T 58) (T 60) (KB false)),
                     i_ 9 (.mv (T 61))])))
                 (.ops [i_ 62 (.ib .add (T 53) (KI 1)),
                   i_ 53 (.mv (T 62))])))))))
           (.seq
            (.ops [i_ 64 (.call 61 [(T 8)]),
              i_ 63 (.mv (T 64)),
              i_ 65 (.ext (T 63) 0),
              i_ 66 (.ext (T 63) 1),
              i_ 12 (.mv (T 65)),
              i_ 13 (.mv (T 66))])
            (.seq
             (.block 3
              (.seq
               (.ops [i_ 68 (.mv (T 9)),
                 i_ 69 (.not (T 68)),
                 i_ 70 (.mv (T 69)),
                 ig 71 70 false (.mv (T 13)),
                 ig 72 70 false (.not (T 71)),
                 i_ 73 (.pick (T 70) (KB true) (T 72)),
                 i_ 67 (.mv (T 73))])
               (.cond (T 67)
                (.seq
                 (.ops [i_ 74 (.build [(.string ⟨⟨[]⟩⟩), (.string ⟨⟨[]⟩⟩), (.slice none 0 0), (.slice none 0 0), (.slice none 0 0)] []),
                   n_ (.st 5 (T 2) (T 74)),
                   i_ 3 (.mv (KI 4))])
                 .ret)
                (.seq
                 (.ops [i_ 76 (.mv (T 12)),
                   i_ 77 (.ib .gtr (T 76) (KI 8192)),
                   i_ 75 (.mv (T 77))])
                 (.cond (T 75)
                  (.seq
                   (.ops [i_ 78 (.build [(.string ⟨⟨[]⟩⟩), (.string ⟨⟨[]⟩⟩), (.slice none 0 0), (.slice none 0 0), (.slice none 0 0)] []),
                     n_ (.st 5 (T 2) (T 78)),
                     i_ 3 (.mv (KI 5))])
                   .ret)
                  (.seq
                   (.ops [i_ 80 (.mv (T 5)),
                     i_ 81 (.lenV (T 80)),
                     i_ 82 (.mv (T 12)),
                     i_ 83 (.ib .lss (T 81) (T 82)),
                     i_ 79 (.mv (T 83))])
                   (.cond (T 79)
                    (.seq
                     (.ops [i_ 84 (.build [(.string ⟨⟨[]⟩⟩), (.string ⟨⟨[]⟩⟩), (.slice none 0 0), (.slice none 0 0), (.slice none 0 0)] []),
                       n_ (.st 5 (T 2) (T 84)),
                       i_ 3 (.mv (KI 3))])
                     .ret)
                    (.seq
                     (.ops [i_ 86 (.mv (T 5)),
                       i_ 87 (.lenV (T 86)),
                       i_ 88 (.mv (T 12)),
                       i_ 89 (.ib .gtr (T 87) (T 88)),
                       i_ 85 (.mv (T 89))])
                     (.cond (T 85)
                      (.seq
                       (.ops [i_ 90 (.build [(.string ⟨⟨[]⟩⟩), (.string ⟨⟨[]⟩⟩), (.slice none 0 0), (.slice none 0 0), (.slice none 0 0)] []),
                         n_ (.st 5 (T 2) (T 90)),
                         i_ 3 (.mv (KI 6))])
                       .ret)
                      .skip)))))))))
             (.seq
              (.ops [i_ 91 (.mv (T 5)),
                i_ 92 (.call 62 [(T 91)]),
                i_ 93 (.faddr 4 (T 8)),
                n_ (.st 1 (T 93) (T 92))])
              (.seq
               (.ops [i_ 94 (.ldN 5 (T 8)),
                 n_ (.st 5 (T 2) (T 94)),
                 i_ 3 (.mv (KI 0))])
               .ret))))))))))))
def m20 : MF := ⟨95, [(.cell 2 5), (.tmp 3)], c20⟩
theorem r20 : resF Tryd.prog Tryd.f20 = some m20 := by kernel_rfl
theorem k20 : Callable Tryd.prog 20 := ⟨_, Tryd.func20, by kernel_rfl, by kernel_rfl⟩

def c21 : MC :=
   (.seq
    (.ops [i_ 0 (.mv (KB false))])
    (.seq
     (.ops [i_ 4 (.bslice 5 [(.int .u8 0)] 36 1 [(0, (1, (KU 71))), (1, (1, (KU 69))), (2, (1, (KU 84))), (3, (1, (KU 32))), (4, (1, (KU 47))), (5, (1, (KU 97))), (6, (1, (KU 37))), (7, (1, (KU 50))), (8, (1, (KU 48))), (9, (1, (KU 98))), (10, (1, (KU 63))), (11, (1, (KU 99))), (12, (1, (KU 61))), (13, (1, (KU 100))), (14, (1, (KU 32))), (15, (1, (KU 72))), (16, (1, (KU 84))), (17, (1, (KU 84))), (18, (1, (KU 80))), (19, (1, (KU 47))), (20, (1, (KU 49))), (21, (1, (KU 46))), (22, (1, (KU 49))), (23, (1, (KU 13))), (24, (1, (KU 10))), (25, (1, (KU 72))), (26, (1, (KU 111))), (27, (1, (KU 115))), (28, (1, (KU 116))), (29, (1, (KU 58))), (30, (1, (KU 32))), (31, (1, (KU 120))), (32, (1, (KU 13))), (33, (1, (KU 10))), (34, (1, (KU 13))), (35, (1, (KU 10)))]),
       i_ 5 (.raw ⟨(some 5), (.convert 33 33 (T 4)), 33, "law.go:19", ⟨[⟨0, .data⟩]⟩, none⟩),
       i_ 6 (.call 20 [(T 5)]),
       i_ 3 (.mv (T 6)),
       i_ 7 (.ext (T 3) 0),
       i_ 8 (.ext (T 3) 1),
       i_ 1 (.alloc 35 [(.string ⟨⟨[]⟩⟩), (.string ⟨⟨[]⟩⟩), (.slice none 0 0), (.slice none 0 0), (.slice none 0 0)]),
       n_ (.st 5 (T 1) (T 7)),
       i_ 2 (.mv (T 8))])
     (.seq
      (.ops [i_ 9 (.mv (T 2)),
        i_ 10 (.ib .eql (T 9) (KI 0)),
        i_ 11 (.mv (T 10)),
        ig 12 11 true (.faddr 1 (T 1)),
        ig 13 11 true (.ld1 (T 12)),
        ig 14 11 true (.sb .eql (T 13) (KS [47, 97, 32, 98])),
        i_ 15 (.pick (T 11) (T 14) (KB false)),
        i_ 16 (.mv (T 15)),
        ig 17 16 true (.faddr 2 (T 1)),
        ig 18 16 true (.ld1 (T 17)),
        ig 19 16 true (.lenV (T 18)),
        ig 20 16 true (.ib .eql (T 19) (KI 1)),
        i_ 21 (.pick (T 16) (T 20) (KB false)),
        i_ 0 (.mv (T 21))])
      .ret)))
def m21 : MF := ⟨22, [(.tmp 0)], c21⟩
theorem r21 : resF Tryd.prog Tryd.f21 = some m21 := by kernel_rfl
theorem k21 : Callable Tryd.prog 21 := ⟨_, Tryd.func21, by kernel_rfl, by kernel_rfl⟩

def c58 : MC :=
   (.seq
    (.ops [i_ 2 (.mv (KB false))])
    (.seq
     (.seq
      (.ops [i_ 5 (.mv (T 0)),
        i_ 6 (.lenV (T 5)),
        i_ 7 (.mv (KI 0))])
      (.block 0
       (.loop [(8, 15), (4, 5), (2, 3), (7, 8)]
        (.seq
         (.ops [i_ 8 (.ib .lss (T 7) (T 6))])
         (.seq
          (.cond (T 8)
           .skip
           (.exit 0))
          (.seq
           (.block 1
            (.seq
             (.ops [i_ 9 (.iaddr 1 (T 5) (T 7)),
               i_ 10 (.ld1 (T 9)),
               i_ 4 (.mv (T 10))])
             (.seq
              (.ops [i_ 11 (.mv (T 4)),
                i_ 12 (.lenS (T 11)),
                i_ 13 (.ib .gtr (T 12) (KI 2048))])
              (.cond (T 13)
               (.seq
                (.ops [i_ 2 (.mv (KB true))])
                .ret)
               .skip))))
           (.ops [i_ 14 (.ib .add (T 7) (KI 1)),
             i_ 7 (.mv (T 14))])))))))
     (.seq
      (.ops [i_ 15 (.mv (T 0)),
        i_ 16 (.lenV (T 15)),
        i_ 17 (.ib .gtr (T 16) (KI 33)),
        i_ 2 (.mv (T 17))])
      .ret)))
def m58 : MF := ⟨18, [(.tmp 2)], c58⟩
theorem r58 : resF Tryd.prog Tryd.f58 = some m58 := by kernel_rfl
theorem k58 : Callable Tryd.prog 58 := ⟨_, Tryd.func58, by kernel_rfl, by kernel_rfl⟩

def c59 : MC :=
   (.seq
    (.ops [i_ 4 (.mv (KB false))])
    (.seq
     (.ops [i_ 12 (.mv (T 1)),
       i_ 13 (.call 57 [(T 12), (KS [32])]),
       i_ 5 (.mv (T 13))])
     (.seq
      (.seq
       (.ops [i_ 14 (.mv (T 5)),
         i_ 15 (.lenV (T 14)),
         i_ 16 (.ib .neq (T 15) (KI 3)),
         i_ 17 (.mv (T 16)),
         ig 18 17 false (.mv (T 5)),
         ig 19 17 false (.iaddr 1 (T 18) (KI 2)),
         ig 20 17 false (.ld1 (T 19)),
         ig 21 17 false (.sb .neq (T 20) (KS [72, 84, 84, 80, 47, 49, 46, 49])),
         i_ 22 (.pick (T 17) (KB true) (T 21)),
         i_ 23 (.mv (T 22)),
         ig 24 23 false (.mv (T 5)),
         ig 25 23 false (.iaddr 1 (T 24) (KI 0)),
         ig 26 23 false (.ld1 (T 25)),
         ig 27 23 false (.call 99 [(T 26), (KI 16), (FN 100)]),
         ig 28 23 false (.not (T 27)),
         i_ 29 (.pick (T 23) (KB true) (T 28)),
         i_ 30 (.mv (T 29)),
         ig 31 30 false (.mv (T 5)),
         ig 32 30 false (.iaddr 1 (T 31) (KI 1)),
         ig 33 30 false (.ld1 (T 32)),
         ig 34 30 false (.call 99 [(T 33), (KI 2048), (FN 101)]),
         ig 35 30 false (.not (T 34)),
         i_ 36 (.pick (T 30) (KB true) (T 35)),
         i_ 37 (.mv (T 36)),
         ig 38 37 false (.mv (T 5)),
         ig 39 37 false (.iaddr 1 (T 38) (KI 1)),
         ig 40 37 false (.ld1 (T 39)),
         ig 41 37 false (.idx (T 40) (KI 0)),
         ig 42 37 false (.ib .neq (T 41) (KU 47)),
         i_ 43 (.pick (T 37) (KB true) (T 42))])
       (.cond (T 43)
        (.seq
         (.ops [i_ 4 (.mv (KB false))])
         .ret)
        .skip))
      (.seq
       (.ops [i_ 45 (.mv (T 5)),
         i_ 46 (.iaddr 1 (T 45) (KI 1)),
         i_ 47 (.ld1 (T 46)),
         i_ 48 (.call 54 [(T 47), (KS [63])]),
         i_ 44 (.mv (T 48)),
         i_ 49 (.ext (T 44) 0),
         i_ 50 (.ext (T 44) 1),
         i_ 51 (.ext (T 44) 2),
         i_ 6 (.mv (T 49)),
         i_ 7 (.mv (T 50)),
         i_ 8 (.mv (T 51))])
       (.seq
        (.ops [i_ 53 (.mv (T 6)),
          i_ 54 (.call 22 [(T 53), (KB false)]),
          i_ 52 (.mv (T 54)),
          i_ 55 (.ext (T 52) 0),
          i_ 56 (.ext (T 52) 1),
          i_ 6 (.mv (T 55)),
          i_ 9 (.mv (T 56))])
        (.seq
         (.ops [i_ 58 (.mv (T 7)),
           i_ 59 (.call 15 [(T 58)]),
           i_ 57 (.mv (T 59)),
           i_ 60 (.ext (T 57) 0),
           i_ 61 (.ext (T 57) 1),
           i_ 10 (.mv (T 60)),
           i_ 11 (.mv (T 61))])
         (.seq
          (.ops [i_ 62 (.mv (T 0)),
            i_ 63 (.mv (T 0)),
            i_ 64 (.mv (T 0)),
            i_ 65 (.mv (T 5)),
            i_ 66 (.iaddr 1 (T 65) (KI 0)),
            i_ 67 (.ld1 (T 66)),
            i_ 68 (.mv (T 6)),
            i_ 69 (.mv (T 10)),
            i_ 70 (.nilck (T 62)),
            i_ 71 (.faddr 0 (T 70)),
            n_ (.st 1 (T 71) (T 67)),
            i_ 72 (.nilck (T 63)),
            i_ 73 (.faddr 1 (T 72)),
            n_ (.st 1 (T 73) (T 68)),
            i_ 74 (.nilck (T 64)),
            i_ 75 (.faddr 2 (T 74)),
            n_ (.st 1 (T 75) (T 69))])
          (.seq
           (.ops [i_ 76 (.mv (T 9)),
             i_ 77 (.ib .eql (T 76) (KI 0)),
             i_ 78 (.mv (T 77)),
             ig 79 78 true (.mv (T 11)),
             ig 80 78 true (.ib .eql (T 79) (KI 0)),
             i_ 81 (.pick (T 78) (T 80) (KB false)),
             i_ 4 (.mv (T 81))])
           .ret))))))))
def m59 : MF := ⟨82, [(.tmp 4)], c59⟩
theorem r59 : resF Tryd.prog Tryd.f59 = some m59 := by kernel_rfl
theorem k59 : Callable Tryd.prog 59 := ⟨_, Tryd.func59, by kernel_rfl, by kernel_rfl⟩

def c60 : MC :=
   (.seq
    (.ops [i_ 4 (.mv (KB false))])
    (.seq
     (.ops [i_ 9 (.mv (T 1)),
       i_ 10 (.call 54 [(T 9), (KS [58])]),
       i_ 8 (.mv (T 10)),
       i_ 11 (.ext (T 8) 0),
       i_ 12 (.ext (T 8) 1),
       i_ 13 (.ext (T 8) 2),
       i_ 5 (.mv (T 11)),
       i_ 6 (.mv (T 12)),
       i_ 7 (.mv (T 13))])
     (.seq
      (.seq
       (.ops [i_ 14 (.mv (T 7)),
         i_ 15 (.not (T 14)),
         i_ 16 (.mv (T 15)),
         ig 17 16 false (.mv (T 5)),
         ig 18 16 false (.call 99 [(T 17), (KI 40), (FN 102)]),
         ig 19 16 false (.not (T 18)),
         i_ 20 (.pick (T 16) (KB true) (T 19)),
         i_ 21 (.mv (T 20)),
         ig 22 21 false (.mv (T 6)),
         ig 23 21 false (.sb .neq (T 22) (KS [])),
         ig 24 21 false (.mv (T 23)),
         ig 25 24 true (.mv (T 6)),
         ig 26 24 true (.call 99 [(T 25), (KI 2048), (FN 103)]),
         ig 27 24 true (.not (T 26)),
         ig 28 21 false (.pick (T 24) (T 27) (KB false)),
         i_ 29 (.pick (T 21) (KB true) (T 28))])
       (.cond (T 29)
        (.seq
         (.ops [i_ 4 (.mv (KB false))])
         .ret)
        .skip))
      (.seq
       (.dops <|
         .op 0 (i_ 30 (.mv (T 0))) <|
         .op 1 (i_ 31 (.mv (T 0))) <|
         .op 2 (i_ 32 (.nilck (T 31))) <|
         .op 3 (i_ 33 (.faddr 3 (T 32))) <|
         .op 4 (i_ 34 (.ld1 (T 33))) <|
         .op 5 (i_ 35 (.mv (T 5))) <|
         .op 7 (i_ 37 (.mv (T 6))) <|
         .op 6 (i_ 36 (.call 104 [(T 35)])) <|
         .op 8 (i_ 38 (.call 105 [(T 37), (KS [32, 9])])) <|
         .op 9 (i_ 39 (.build [(.string ⟨⟨[]⟩⟩), (.string ⟨⟨[]⟩⟩)] [(0, (1, (T 36))), (1, (1, (T 38)))])) <|
         .op 10 (i_ 40 (.bslice 71 [(.string ⟨⟨[]⟩⟩), (.string ⟨⟨[]⟩⟩)] 1 2 [(0, (2, (T 39)))])) <|
         .op 11 (id_ 41 (.append 71 2 32 (T 34) (T 40)) [4]) <|
         .op 12 (i_ 42 (.nilck (T 30))) <|
         .op 13 (i_ 43 (.faddr 3 (T 42))) <|
         .op 14 (nd_ (.st 1 (T 43) (T 41)) [4]) <|
         .nil)
       (.seq
        (.ops [i_ 4 (.mv (KB true))])
        .ret)))))
def m60 : MF := ⟨44, [(.tmp 4)], c60⟩
theorem r60 : resF Tryd.prog Tryd.f60 = some m60 := by kernel_rfl
theorem k60 : Callable Tryd.prog 60 := ⟨_, Tryd.func60, by kernel_rfl, by kernel_rfl⟩

def c61 : MC :=
   (.seq
    (.ops [i_ 2 (.mv (KI 0)),
      i_ 3 (.mv (KB false))])
    (.seq
     (.seq
      (.ops [i_ 8 (.mv (T 0)),
        i_ 9 (.call 106 [(T 8), (KS [104, 111, 115, 116])]),
        i_ 10 (.ib .neq (T 9) (KI 1)),
        i_ 11 (.mv (T 10)),
        ig 12 11 false (.mv (T 0)),
        ig 13 11 false (.call 106 [(T 12), (KS [116, 114, 97, 110, 115, 102, 101, 114, 45, 101, 110, 99, 111, 100, 105, 110, 103])]),
        ig 14 11 false (.ib .gtr (T 13) (KI 0)),
        i_ 15 (.pick (T 11) (KB true) (T 14)),
        i_ 16 (.mv (T 15)),
        ig 17 16 false (.mv (T 0)),
        ig 18 16 false (.call 106 [(T 17), (KS [99, 111, 110, 116, 101, 110, 116, 45, 108, 101, 110, 103, 116, 104])]),
        ig 19 16 false (.ib .gtr (T 18) (KI 1)),
        i_ 20 (.pick (T 16) (KB true) (T 19))])
      (.cond (T 20)
       (.seq
        (.ops [i_ 2 (.mv (KI 0)),
          i_ 3 (.mv (KB false))])
        .ret)
       .skip))
     (.seq
      (.ops [i_ 22 (.mv (T 0)),
        i_ 23 (.nilck (T 22)),
        i_ 24 (.ldN 5 (T 23)),
        i_ 25 (.call 81 [(T 24), (KS [99, 111, 110, 116, 101, 110, 116, 45, 108, 101, 110, 103, 116, 104])]),
        i_ 21 (.mv (T 25)),
        i_ 26 (.ext (T 21) 0),
        i_ 27 (.ext (T 21) 1),
        i_ 4 (.mv (T 26)),
        i_ 5 (.mv (T 27))])
      (.seq
       (.seq
        (.ops [i_ 28 (.mv (T 5)),
          i_ 29 (.not (T 28))])
        (.cond (T 29)
         (.seq
          (.ops [i_ 2 (.mv (KI 0)),
            i_ 3 (.mv (KB true))])
          .ret)
         .skip))
       (.seq
        (.ops [i_ 31 (.mv (T 4)),
          i_ 32 (.call 107 [(T 31)]),
          i_ 30 (.mv (T 32)),
          i_ 33 (.ext (T 30) 0),
          i_ 34 (.ext (T 30) 1),
          i_ 6 (.mv (T 33)),
          i_ 7 (.mv (T 34))])
        (.seq
         (.ops [i_ 35 (.mv (T 6)),
           i_ 36 (.mv (T 7)),
           i_ 37 (.raw ⟨(some 37), (.binOp .eql 101 (T 36) (.const .nilIface) 101), 4, "http.go:111", ⟨[⟨1, .data⟩]⟩, none⟩),
           i_ 38 (.mv (T 37)),
           ig 39 38 true (.mv (T 4)),
           ig 40 38 true (.call 99 [(T 39), (KI 9), (FN 108)]),
           i_ 41 (.pick (T 38) (T 40) (KB false)),
           i_ 2 (.mv (T 35)),
           i_ 3 (.mv (T 41))])
         .ret))))))
def m61 : MF := ⟨42, [(.tmp 2), (.tmp 3)], c61⟩
theorem r61 : resF Tryd.prog Tryd.f61 = some m61 := by kernel_rfl
theorem k61 : Callable Tryd.prog 61 := ⟨_, Tryd.func61, by kernel_rfl, by kernel_rfl⟩

def c99 : MC :=
   (.seq
    (.ops [i_ 6 (.mv (KB false))])
    (.seq
     (.seq
      (.ops [i_ 8 (.mv (T 0)),
        i_ 9 (.lenS (T 8)),
        i_ 10 (.mv (KI 0))])
      (.block 0
       (.loop [(11, 20), (7, 8), (6, 7), (10, 11)]
        (.seq
         (.ops [i_ 11 (.ib .lss (T 10) (T 9))])
         (.seq
          (.cond (T 11)
           .skip
           (.exit 0))
          (.seq
           (.block 1
            (.seq
             (.ops [i_ 12 (.mv (T 10)),
               i_ 7 (.mv (T 12))])
             (.seq
              (.ops [i_ 13 (.mv (T 2)),
                i_ 14 (.mv (T 0)),
                i_ 15 (.mv (T 7)),
                i_ 16 (.idx (T 14) (T 15)),
                i_ 17 (.callv (T 13) [(T 16)]),
                i_ 18 (.not (T 17))])
              (.cond (T 18)
               (.seq
                (.ops [i_ 6 (.mv (KB false))])
                .ret)
               .skip))))
           (.ops [i_ 19 (.ib .add (T 10) (KI 1)),
             i_ 10 (.mv (T 19))])))))))
     (.seq
      (.ops [i_ 20 (.mv (T 0)),
        i_ 21 (.lenS (T 20)),
        i_ 22 (.ib .geq (T 21) (KI 1)),
        i_ 23 (.mv (T 22)),
        ig 24 23 true (.mv (T 0)),
        ig 25 23 true (.lenS (T 24)),
        ig 26 23 true (.mv (T 1)),
        ig 27 23 true (.ib .leq (T 25) (T 26)),
        i_ 28 (.pick (T 23) (T 27) (KB false)),
        i_ 6 (.mv (T 28))])
      .ret)))
def m99 : MF := ⟨29, [(.tmp 6)], c99⟩
theorem r99 : resF Tryd.prog Tryd.f99 = some m99 := by kernel_rfl
theorem k99 : Callable Tryd.prog 99 := ⟨_, Tryd.func99, by kernel_rfl, by kernel_rfl⟩

def c100 : MC :=
   (.seq
    (.ops [i_ 2 (.mv (KB false))])
    (.seq
     (.ops [i_ 3 (.mv (T 0)),
       i_ 4 (.ib .geq (T 3) (KU 65)),
       i_ 5 (.mv (T 4)),
       ig 6 5 true (.mv (T 0)),
       ig 7 5 true (.ib .leq (T 6) (KU 90)),
       i_ 8 (.pick (T 5) (T 7) (KB false)),
       i_ 2 (.mv (T 8))])
     .ret))
def m100 : MF := ⟨9, [(.tmp 2)], c100⟩
theorem r100 : resF Tryd.prog Tryd.f100 = some m100 := by kernel_rfl
theorem k100 : Callable Tryd.prog 100 := ⟨_, Tryd.func100, by kernel_rfl, by kernel_rfl⟩

def c101 : MC :=
   (.seq
    (.ops [i_ 2 (.mv (KB false))])
    (.seq
     (.ops [i_ 3 (.mv (T 0)),
       i_ 4 (.ib .geq (T 3) (KU 33)),
       i_ 5 (.mv (T 4)),
       ig 6 5 true (.mv (T 0)),
       ig 7 5 true (.ib .leq (T 6) (KU 126)),
       i_ 8 (.pick (T 5) (T 7) (KB false)),
       i_ 2 (.mv (T 8))])
     .ret))
def m101 : MF := ⟨9, [(.tmp 2)], c101⟩
theorem r101 : resF Tryd.prog Tryd.f101 = some m101 := by kernel_rfl
theorem k101 : Callable Tryd.prog 101 := ⟨_, Tryd.func101, by kernel_rfl, by kernel_rfl⟩

def c102 : MC :=
   (.seq
    (.ops [i_ 2 (.mv (KB false))])
    (.seq
     (.ops [i_ 3 (.mv (T 0)),
       i_ 4 (.call 100 [(T 3)]),
       i_ 5 (.mv (T 4)),
       ig 6 5 false (.mv (T 0)),
       ig 7 5 false (.ib .geq (T 6) (KU 97)),
       ig 8 5 false (.mv (T 7)),
       ig 9 8 true (.mv (T 0)),
       ig 10 8 true (.ib .leq (T 9) (KU 122)),
       ig 11 5 false (.pick (T 8) (T 10) (KB false)),
       i_ 12 (.pick (T 5) (KB true) (T 11)),
       i_ 13 (.mv (T 12)),
       ig 14 13 false (.mv (T 0)),
       ig 15 13 false (.call 108 [(T 14)]),
       i_ 16 (.pick (T 13) (KB true) (T 15)),
       i_ 17 (.mv (T 16)),
       ig 18 17 false (.mv (T 0)),
       ig 19 17 false (.ib .eql (T 18) (KU 45)),
       i_ 20 (.pick (T 17) (KB true) (T 19)),
       i_ 2 (.mv (T 20))])
     .ret))
def m102 : MF := ⟨21, [(.tmp 2)], c102⟩
theorem r102 : resF Tryd.prog Tryd.f102 = some m102 := by kernel_rfl
theorem k102 : Callable Tryd.prog 102 := ⟨_, Tryd.func102, by kernel_rfl, by kernel_rfl⟩

def c103 : MC :=
   (.seq
    (.ops [i_ 2 (.mv (KB false))])
    (.seq
     (.ops [i_ 3 (.mv (T 0)),
       i_ 4 (.ib .geq (T 3) (KU 32)),
       i_ 5 (.mv (T 4)),
       ig 6 5 true (.mv (T 0)),
       ig 7 5 true (.ib .leq (T 6) (KU 126)),
       i_ 8 (.pick (T 5) (T 7) (KB false)),
       i_ 9 (.mv (T 8)),
       ig 10 9 false (.mv (T 0)),
       ig 11 9 false (.ib .eql (T 10) (KU 9)),
       i_ 12 (.pick (T 9) (KB true) (T 11)),
       i_ 2 (.mv (T 12))])
     .ret))
def m103 : MF := ⟨13, [(.tmp 2)], c103⟩
theorem r103 : resF Tryd.prog Tryd.f103 = some m103 := by kernel_rfl
theorem k103 : Callable Tryd.prog 103 := ⟨_, Tryd.func103, by kernel_rfl, by kernel_rfl⟩

def c104 : MC :=
   (.seq
    (.ops [i_ 2 (.mv (KS []))])
    (.seq
     (.ops [i_ 6 (.mv (T 0)),
       i_ 7 (.s2b 5 (T 6)),
       i_ 3 (.mv (T 7))])
     (.seq
      (.seq
       (.ops [i_ 8 (.mv (T 3)),
         i_ 9 (.lenV (T 8)),
         i_ 10 (.mv (KI 0))])
       (.block 0
        (.loop [(11, 24), (4, 6), (10, 11)]
         (.seq
          (.ops [i_ 11 (.ib .lss (T 10) (T 9))])
          (.seq
           (.cond (T 11)
            .skip
            (.exit 0))
           (.seq
            (.block 1
             (.seq
              (.ops [i_ 12 (.mv (T 10)),
                i_ 13 (.iaddr 1 (T 8) (T 10)),
                i_ 14 (.ld1 (T 13)),
                i_ 4 (.mv (T 12)),
                i_ 5 (.mv (T 14))])
              (.seq
               (.ops [i_ 15 (.mv (T 5)),
                 i_ 16 (.call 100 [(T 15)])])
               (.cond (T 16)
                (.ops [i_ 17 (.mv (T 3)),
                  i_ 18 (.mv (T 4)),
                  i_ 19 (.mv (T 5)),
                  i_ 20 (.ib .add (T 19) (KU 97)),
                  i_ 21 (.ib .sub (T 20) (KU 65)),
                  i_ 22 (.iaddr 1 (T 17) (T 18)),
                  n_ (.st 1 (T 22) (T 21))])
                .skip))))
            (.ops [i_ 23 (.ib .add (T 10) (KI 1)),
              i_ 10 (.mv (T 23))])))))))
      (.seq
       (.ops [i_ 24 (.mv (T 3)),
         i_ 25 (.b2s (T 24)),
         i_ 2 (.mv (T 25))])
       .ret))))
def m104 : MF := ⟨26, [(.tmp 2)], c104⟩
theorem r104 : resF Tryd.prog Tryd.f104 = some m104 := by kernel_rfl
theorem k104 : Callable Tryd.prog 104 := ⟨_, Tryd.func104, by kernel_rfl, by kernel_rfl⟩

def c108 : MC :=
   (.seq
    (.ops [i_ 2 (.mv (KB false))])
    (.seq
     (.ops [i_ 3 (.mv (T 0)),
       i_ 4 (.ib .geq (T 3) (KU 48)),
       i_ 5 (.mv (T 4)),
       ig 6 5 true (.mv (T 0)),
       ig 7 5 true (.ib .leq (T 6) (KU 57)),
       i_ 8 (.pick (T 5) (T 7) (KB false)),
       i_ 2 (.mv (T 8))])
     .ret))
def m108 : MF := ⟨9, [(.tmp 2)], c108⟩
theorem r108 : resF Tryd.prog Tryd.f108 = some m108 := by kernel_rfl
theorem k108 : Callable Tryd.prog 108 := ⟨_, Tryd.func108, by kernel_rfl, by kernel_rfl⟩

end Go.Proofs.YtkhgmmejgikgnaaDoor

/- Functions of the program, resolved: made by a program of ours; each is checked by the kernel. -/
namespace Go.Proofs.YtkhgmmejgikgnaaDoor
def c12 : MC :=
   (.seq
    (.ops [i_ 4 (.mv (KB false))])
    (.seq
     (.ops [i_ 10 (.mv (T 0)),
       i_ 11 (.call 19 [(T 10), (KI 0), (KI 40)]),
       i_ 0 (.mv (T 11))])
     (.seq
      (.ops [i_ 5 (.mv (KS [])),
        i_ 6 (.mv (KS []))])
      (.seq
       (.seq
        (.ops [i_ 7 (.mv (KI 0))])
        (.block 0
         (.loop [(12, 17), (17, 35), (5, 8)]
          (.seq
           (.seq
            (.ops [i_ 12 (.mv (T 7)),
              i_ 13 (.mv (T 0)),
              i_ 14 (.ib .lss (T 12) (T 13))])
            (.cond (T 14)
             .skip
             (.exit 0)))
           (.seq
            (.block 1
             (.seq
              (.ops [i_ 17 (.mv (T 7)),
                i_ 18 (.ib .lss (T 17) (KI 62)),
                i_ 19 (.mv (T 18)),
                ig 20 19 true (.mv (T 1)),
                ig 21 19 true (.mv (T 7)),
                ig 22 19 true (.conv .u64 (T 21)),
                ig 23 19 true (.ib .shr (T 20) (T 22)),
                ig 24 19 true (.ib .and (T 23) (KI 1)),
                ig 25 19 true (.ib .eql (T 24) (KI 1)),
                i_ 26 (.pick (T 19) (T 25) (KB false))])
              (.cond (T 26)
               (.ops [i_ 27 (.mv (T 5)),
                 i_ 28 (.sb .add (T 27) (KS [123, 34, 97, 34, 58])),
                 i_ 29 (.mv (T 6)),
                 i_ 30 (.sb .add (KS [125]) (T 29)),
                 i_ 5 (.mv (T 28)),
                 i_ 6 (.mv (T 30))])
               (.ops [i_ 31 (.mv (T 5)),
                 i_ 32 (.sb .add (T 31) (KS [91])),
                 i_ 33 (.mv (T 6)),
                 i_ 34 (.sb .add (KS [93]) (T 33)),
                 i_ 5 (.mv (T 32)),
                 i_ 6 (.mv (T 34))]))))
            (.ops [i_ 15 (.mv (T 7)),
              i_ 16 (.ib .add (T 15) (KI 1)),
              i_ 7 (.mv (T 16))]))))))
       (.seq
        (.ops [i_ 36 (.mv (T 5)),
          i_ 37 (.sb .add (T 36) (KS [49])),
          i_ 38 (.mv (T 6)),
          i_ 39 (.sb .add (T 37) (T 38)),
          i_ 40 (.call 45 [(T 39)]),
          i_ 35 (.mv (T 40)),
          i_ 41 (.ext (T 35) 0),
          i_ 42 (.ext (T 35) 1),
          i_ 8 (.alloc 77 [(.int .i64 0), (.bool false), (.int .i64 0), (.string ⟨⟨[]⟩⟩), (.slice none 0 0), (.slice none 0 0)]),
          n_ (.st 6 (T 8) (T 41)),
          i_ 9 (.mv (T 42))])
        (.seq
         (.ops [i_ 43 (.mv (T 9)),
           i_ 44 (.ib .eql (T 43) (KI 0)),
           i_ 45 (.mv (T 0)),
           i_ 46 (.ib .leq (T 45) (KI 15)),
           i_ 47 (.bb .eql (T 44) (T 46)),
           i_ 48 (.mv (T 47)),
           ig 49 48 true (.mv (T 0)),
           ig 50 48 true (.ib .eql (T 49) (KI 0)),
           ig 51 48 true (.mv (T 50)),
           ig 52 51 false (.mv (T 9)),
           ig 53 51 false (.ib .neq (T 52) (KI 0)),
           ig 54 48 true (.pick (T 51) (KB true) (T 53)),
           ig 55 48 true (.mv (T 54)),
           ig 56 55 false (.mv (T 5)),
           ig 57 55 false (.sb .add (T 56) (KS [49])),
           ig 58 55 false (.mv (T 6)),
           ig 59 55 false (.sb .add (T 57) (T 58)),
           ig 60 55 false (.call 47 [(T 59)]),
           ig 61 55 false (.call 46 [(T 60)]),
           ig 62 48 true (.pick (T 55) (KB true) (T 61)),
           i_ 63 (.pick (T 48) (T 62) (KB false)),
           i_ 64 (.mv (T 63)),
           ig 65 64 true (.call 48 []),
           i_ 66 (.pick (T 64) (T 65) (KB false)),
           i_ 4 (.mv (T 66))])
         .ret))))))
def m12 : MF := ⟨67, [(.tmp 4)], c12⟩
theorem r12 : resF Tryd.prog Tryd.f12 = some m12 := by kernel_rfl
theorem k12 : Callable Tryd.prog 12 := ⟨_, Tryd.func12, by kernel_rfl, by kernel_rfl⟩

def c13 : MC :=
   (.seq
    (.ops [i_ 2 (.box 77 (T 0)),
      i_ 4 (.mv (KB false))])
    (.seq
     (.ops [i_ 15 (.ldN 6 (T 2)),
       i_ 16 (.call 49 [(T 15), (KI 18)]),
       i_ 17 (.mv (T 1)),
       i_ 18 (.call 14 [(T 17), (KI 300)]),
       n_ (.st 6 (T 2) (T 16)),
       i_ 1 (.mv (T 18))])
     (.seq
      (.ops [i_ 20 (.ldN 6 (T 2)),
        i_ 21 (.call 50 [(T 20)]),
        i_ 19 (.mv (T 21)),
        i_ 22 (.ext (T 19) 0),
        i_ 23 (.ext (T 19) 1),
        i_ 5 (.mv (T 22)),
        i_ 6 (.mv (T 23))])
      (.seq
       (.seq
        (.ops [i_ 24 (.mv (T 6)),
          i_ 25 (.ib .eql (T 24) (KI 0))])
        (.cond (T 25)
         (.seq
          (.ops [i_ 27 (.mv (T 5)),
            i_ 28 (.call 45 [(T 27)]),
            i_ 26 (.mv (T 28)),
            i_ 29 (.ext (T 26) 0),
            i_ 30 (.ext (T 26) 1),
            i_ 7 (.alloc 77 [(.int .i64 0), (.bool false), (.int .i64 0), (.string ⟨⟨[]⟩⟩), (.slice none 0 0), (.slice none 0 0)]),
            n_ (.st 6 (T 7) (T 29)),
            i_ 8 (.mv (T 30))])
          (.seq
           (.ops [i_ 31 (.mv (T 8)),
             i_ 32 (.ib .neq (T 31) (KI 0)),
             i_ 33 (.mv (T 32)),
             ig 34 33 false (.ldN 6 (T 2)),
             ig 35 33 false (.ldN 6 (T 7)),
             ig 36 33 false (.call 51 [(T 34), (T 35)]),
             ig 37 33 false (.not (T 36)),
             i_ 38 (.pick (T 33) (KB true) (T 37)),
             i_ 39 (.mv (T 38)),
             ig 40 39 false (.ldN 6 (T 2)),
             ig 41 39 false (.ldN 6 (T 7)),
             ig 42 39 false (.call 52 [(T 40), (T 41)]),
             ig 43 39 false (.not (T 42)),
             i_ 44 (.pick (T 39) (KB true) (T 43))])
           (.cond (T 44)
            (.seq
             (.ops [i_ 4 (.mv (KB false))])
             .ret)
            .skip)))
         .skip))
       (.seq
        (.ops [i_ 46 (.mv (T 1)),
          i_ 47 (.call 45 [(T 46)]),
          i_ 45 (.mv (T 47)),
          i_ 48 (.ext (T 45) 0),
          i_ 49 (.ext (T 45) 1),
          i_ 9 (.alloc 77 [(.int .i64 0), (.bool false), (.int .i64 0), (.string ⟨⟨[]⟩⟩), (.slice none 0 0), (.slice none 0 0)]),
          n_ (.st 6 (T 9) (T 48)),
          i_ 10 (.mv (T 49))])
        (.seq
         (.seq
          (.ops [i_ 50 (.mv (T 10)),
            i_ 51 (.ib .neq (T 50) (KI 0))])
          (.cond (T 51)
           (.seq
            (.ops [i_ 52 (.ldN 6 (T 9)),
              i_ 53 (.build [(.int .i64 0), (.bool false), (.int .i64 0), (.string ⟨⟨[]⟩⟩), (.slice none 0 0), (.slice none 0 0)] []),
              i_ 54 (.call 51 [(T 52), (T 53)]),
              i_ 55 (.mv (T 54)),
              ig 56 55 true (.call 48 []),
              i_ 57 (.pick (T 55) (T 56) (KB false)),
              i_ 4 (.mv (T 57))])
            .ret)
           .skip))
         (.seq
          (.ops [i_ 59 (.ldN 6 (T 9)),
            i_ 60 (.call 50 [(T 59)]),
            i_ 58 (.mv (T 60)),
            i_ 61 (.ext (T 58) 0),
            i_ 62 (.ext (T 58) 1),
            i_ 11 (.mv (T 61)),
            i_ 12 (.mv (T 62))])
          (.seq
           (.ops [i_ 64 (.mv (T 11)),
             i_ 65 (.call 45 [(T 64)]),
             i_ 63 (.mv (T 65)),
             i_ 66 (.ext (T 63) 0),
             i_ 67 (.ext (T 63) 1),
             i_ 13 (.alloc 77 [(.int .i64 0), (.bool false), (.int .i64 0), (.string ⟨⟨[]⟩⟩), (.slice none 0 0), (.slice none 0 0)]),
             n_ (.st 6 (T 13) (T 66)),
             i_ 14 (.mv (T 67))])
           (.seq
            (.ops [i_ 68 (.mv (T 12)),
              i_ 69 (.ib .eql (T 68) (KI 0)),
              i_ 70 (.mv (T 69)),
              ig 71 70 true (.mv (T 14)),
              ig 72 70 true (.ib .eql (T 71) (KI 0)),
              i_ 73 (.pick (T 70) (T 72) (KB false)),
              i_ 74 (.mv (T 73)),
              ig 75 74 true (.ldN 6 (T 9)),
              ig 76 74 true (.ldN 6 (T 13)),
              ig 77 74 true (.call 51 [(T 75), (T 76)]),
              i_ 78 (.pick (T 74) (T 77) (KB false)),
              i_ 79 (.mv (T 78)),
              ig 80 79 true (.call 48 []),
              i_ 81 (.pick (T 79) (T 80) (KB false)),
              i_ 4 (.mv (T 81))])
            .ret)))))))))
def m13 : MF := ⟨82, [(.tmp 4)], c13⟩
theorem r13 : resF Tryd.prog Tryd.f13 = some m13 := by kernel_rfl
theorem k13 : Callable Tryd.prog 13 := ⟨_, Tryd.func13, by kernel_rfl, by kernel_rfl⟩

def c45 : MC :=
   (.seq
    (.ops [i_ 2 (.alloc 77 [(.int .i64 0), (.bool false), (.int .i64 0), (.string ⟨⟨[]⟩⟩), (.slice none 0 0), (.slice none 0 0)]),
      i_ 3 (.mv (KI 0))])
    (.seq
     (.seq
      (.ops [i_ 6 (.mv (T 0)),
        i_ 7 (.lenS (T 6)),
        i_ 8 (.ib .gtr (T 7) (KI 65536))])
      (.cond (T 8)
       (.seq
        (.ops [i_ 9 (.build [(.int .i64 0), (.bool false), (.int .i64 0), (.string ⟨⟨[]⟩⟩), (.slice none 0 0), (.slice none 0 0)] []),
          n_ (.st 6 (T 2) (T 9)),
          i_ 3 (.mv (KI 5))])
        .ret)
       .skip))
     (.seq
      (.ops [i_ 10 (.mv (T 0)),
        i_ 11 (.mv (T 0)),
        i_ 12 (.call 86 [(T 11)]),
        i_ 13 (.build [(.string ⟨⟨[]⟩⟩), (.int .i64 0), (.bool false)] [(0, (1, (T 10))), (2, (1, (T 12)))]),
        i_ 14 (.box 123 (T 13)),
        i_ 4 (.mv (T 14))])
      (.seq
       (.seq
        (.ops [i_ 15 (.mv (T 4)),
          i_ 16 (.nilck (T 15)),
          i_ 17 (.faddr 2 (T 16)),
          i_ 18 (.ld1 (T 17)),
          i_ 19 (.not (T 18))])
        (.cond (T 19)
         (.seq
          (.ops [i_ 20 (.build [(.int .i64 0), (.bool false), (.int .i64 0), (.string ⟨⟨[]⟩⟩), (.slice none 0 0), (.slice none 0 0)] []),
            n_ (.st 6 (T 2) (T 20)),
            i_ 3 (.mv (KI 4))])
          .ret)
         .skip))
       (.seq
        (.ops [i_ 21 (.mv (T 4)),
          i_ 22 (.call 87 [(T 21), (KI 16)]),
          i_ 5 (.alloc 77 [(.int .i64 0), (.bool false), (.int .i64 0), (.string ⟨⟨[]⟩⟩), (.slice none 0 0), (.slice none 0 0)]),
          n_ (.st 6 (T 5) (T 22))])
        (.seq
         (.ops [i_ 23 (.mv (T 4)),
           i_ 24 (.call 88 [(T 23)])])
         (.seq
          (.seq
           (.ops [i_ 25 (.mv (T 4)),
             i_ 26 (.nilck (T 25)),
             i_ 27 (.faddr 2 (T 26)),
             i_ 28 (.ld1 (T 27)),
             i_ 29 (.not (T 28)),
             i_ 30 (.mv (T 29)),
             ig 31 30 false (.mv (T 4)),
             ig 32 30 false (.nilck (T 31)),
             ig 33 30 false (.faddr 1 (T 32)),
             ig 34 30 false (.ld1 (T 33)),
             ig 35 30 false (.mv (T 0)),
             ig 36 30 false (.lenS (T 35)),
             ig 37 30 false (.ib .lss (T 34) (T 36)),
             i_ 38 (.pick (T 30) (KB true) (T 37))])
           (.cond (T 38)
            (.seq
             (.ops [i_ 39 (.build [(.int .i64 0), (.bool false), (.int .i64 0), (.string ⟨⟨[]⟩⟩), (.slice none 0 0), (.slice none 0 0)] []),
               n_ (.st 6 (T 2) (T 39)),
               i_ 3 (.mv (KI 4))])
             .ret)
            .skip))
          (.seq
           (.ops [i_ 40 (.ldN 6 (T 5)),
             n_ (.st 6 (T 2) (T 40)),
             i_ 3 (.mv (KI 0))])
           .ret))))))))
def m45 : MF := ⟨41, [(.cell 2 6), (.tmp 3)], c45⟩
theorem r45 : resF Tryd.prog Tryd.f45 = some m45 := by kernel_rfl
theorem k45 : Callable Tryd.prog 45 := ⟨_, Tryd.func45, by kernel_rfl, by kernel_rfl⟩

def c47 : MC :=
   (.seq
    (.ops [i_ 2 (.alloc 77 [(.int .i64 0), (.bool false), (.int .i64 0), (.string ⟨⟨[]⟩⟩), (.slice none 0 0), (.slice none 0 0)])])
    (.seq
     (.ops [i_ 6 (.mv (T 0)),
       i_ 7 (.call 45 [(T 6)]),
       i_ 5 (.mv (T 7)),
       i_ 8 (.ext (T 5) 0),
       i_ 9 (.ext (T 5) 1),
       i_ 3 (.alloc 77 [(.int .i64 0), (.bool false), (.int .i64 0), (.string ⟨⟨[]⟩⟩), (.slice none 0 0), (.slice none 0 0)]),
       n_ (.st 6 (T 3) (T 8)),
       i_ 4 (.mv (T 9))])
     (.seq
      (.ops [i_ 10 (.ldN 6 (T 3)),
        n_ (.st 6 (T 2) (T 10))])
      .ret)))
def m47 : MF := ⟨11, [(.cell 2 6)], c47⟩
theorem r47 : resF Tryd.prog Tryd.f47 = some m47 := by kernel_rfl
theorem k47 : Callable Tryd.prog 47 := ⟨_, Tryd.func47, by kernel_rfl, by kernel_rfl⟩

def c48 : MC :=
   (.seq
    (.ops [i_ 0 (.mv (KB false))])
    (.seq
     (.ops [i_ 6 (.call 45 [(KS [91, 49, 93])]),
       i_ 5 (.mv (T 6)),
       i_ 7 (.ext (T 5) 0),
       i_ 8 (.ext (T 5) 1),
       i_ 1 (.alloc 77 [(.int .i64 0), (.bool false), (.int .i64 0), (.string ⟨⟨[]⟩⟩), (.slice none 0 0), (.slice none 0 0)]),
       n_ (.st 6 (T 1) (T 7)),
       i_ 2 (.mv (T 8))])
     (.seq
      (.ops [i_ 10 (.build [(.int .i64 0), (.bool false), (.int .i64 0), (.string ⟨⟨[]⟩⟩), (.slice none 0 0), (.slice none 0 0)] [(0, (1, (KI 2))), (2, (1, (KI 1)))]),
        i_ 11 (.bslice 77 [(.int .i64 0), (.bool false), (.int .i64 0), (.string ⟨⟨[]⟩⟩), (.slice none 0 0), (.slice none 0 0)] 1 6 [(0, (6, (T 10)))]),
        i_ 12 (.build [(.int .i64 0), (.bool false), (.int .i64 0), (.string ⟨⟨[]⟩⟩), (.slice none 0 0), (.slice none 0 0)] [(0, (1, (KI 4))), (4, (1, (T 11)))]),
        i_ 13 (.call 50 [(T 12)]),
        i_ 9 (.mv (T 13)),
        i_ 14 (.ext (T 9) 0),
        i_ 15 (.ext (T 9) 1),
        i_ 3 (.mv (T 14)),
        i_ 4 (.mv (T 15))])
      (.seq
       (.ops [i_ 16 (.mv (T 2)),
         i_ 17 (.ib .eql (T 16) (KI 0)),
         i_ 18 (.mv (T 17)),
         ig 19 18 true (.mv (T 4)),
         ig 20 18 true (.ib .eql (T 19) (KI 0)),
         i_ 21 (.pick (T 18) (T 20) (KB false)),
         i_ 22 (.mv (T 21)),
         ig 23 22 true (.faddr 0 (T 1)),
         ig 24 22 true (.ld1 (T 23)),
         ig 25 22 true (.ib .eql (T 24) (KI 4)),
         i_ 26 (.pick (T 22) (T 25) (KB false)),
         i_ 27 (.mv (T 26)),
         ig 28 27 true (.mv (T 3)),
         ig 29 27 true (.sb .eql (T 28) (KS [91, 49, 93])),
         i_ 30 (.pick (T 27) (T 29) (KB false)),
         i_ 0 (.mv (T 30))])
       .ret))))
def m48 : MF := ⟨31, [(.tmp 0)], c48⟩
theorem r48 : resF Tryd.prog Tryd.f48 = some m48 := by kernel_rfl
theorem k48 : Callable Tryd.prog 48 := ⟨_, Tryd.func48, by kernel_rfl, by kernel_rfl⟩

def c49 : MC :=
   (.seq
    (.ops [i_ 2 (.box 77 (T 0)),
      i_ 4 (.alloc 77 [(.int .i64 0), (.bool false), (.int .i64 0), (.string ⟨⟨[]⟩⟩), (.slice none 0 0), (.slice none 0 0)])])
    (.seq
     (.ops [i_ 7 (.faddr 3 (T 2)),
       i_ 8 (.ld1 (T 7)),
       i_ 9 (.call 14 [(T 8), (KI 60)]),
       i_ 10 (.faddr 3 (T 2)),
       n_ (.st 1 (T 10) (T 9))])
     (.seq
      (.ops [i_ 11 (.faddr 5 (T 2)),
        i_ 12 (.ld1 (T 11)),
        i_ 13 (.call 90 [(T 12), (KI 6), (KI 20)]),
        i_ 14 (.faddr 5 (T 2)),
        n_ (.st 1 (T 14) (T 13))])
      (.seq
       (.ops [i_ 5 (.mv (.const (.slice none 0 0)))])
       (.seq
        (.seq
         (.ops [i_ 6 (.mv (KI 0))])
         (.block 0
          (.loop [(15, 30), (30, 41), (5, 7)]
           (.seq
            (.seq
             (.ops [i_ 15 (.mv (T 6)),
               i_ 16 (.faddr 4 (T 2)),
               i_ 17 (.ld1 (T 16)),
               i_ 18 (.lenV (T 17)),
               i_ 19 (.ib .lss (T 15) (T 18)),
               i_ 20 (.mv (T 19)),
               ig 21 20 true (.mv (T 6)),
               ig 22 20 true (.ib .lss (T 21) (KI 6)),
               i_ 23 (.pick (T 20) (T 22) (KB false)),
               i_ 24 (.mv (T 23)),
               ig 25 24 true (.mv (T 1)),
               ig 26 24 true (.ib .gtr (T 25) (KI 0)),
               i_ 27 (.pick (T 24) (T 26) (KB false))])
             (.cond (T 27)
              .skip
              (.exit 0)))
            (.seq
             (.block 1
              (.ops [i_ 30 (.mv (T 5)),
                i_ 31 (.faddr 4 (T 2)),
                i_ 32 (.ld1 (T 31)),
                i_ 33 (.mv (T 6)),
                i_ 34 (.iaddr 6 (T 32) (T 33)),
                i_ 35 (.ldN 6 (T 34)),
                i_ 36 (.mv (T 1)),
                i_ 37 (.ib .sub (T 36) (KI 1)),
                i_ 38 (.call 49 [(T 35), (T 37)]),
                i_ 39 (.bslice 77 [(.int .i64 0), (.bool false), (.int .i64 0), (.string ⟨⟨[]⟩⟩), (.slice none 0 0), (.slice none 0 0)] 1 6 [(0, (6, (T 38)))]),
                i_ 40 (.append 77 6 88 (T 30) (T 39)),
                i_ 5 (.mv (T 40))]))
             (.ops [i_ 28 (.mv (T 6)),
               i_ 29 (.ib .add (T 28) (KI 1)),
               i_ 6 (.mv (T 29))]))))))
        (.seq
         (.ops [i_ 41 (.mv (T 5)),
           i_ 42 (.faddr 4 (T 2)),
           n_ (.st 1 (T 42) (T 41))])
         (.seq
          (.ops [i_ 43 (.ldN 6 (T 2)),
            n_ (.st 6 (T 4) (T 43))])
          .ret)))))))
def m49 : MF := ⟨44, [(.cell 4 6)], c49⟩
theorem r49 : resF Tryd.prog Tryd.f49 = some m49 := by kernel_rfl
theorem k49 : Callable Tryd.prog 49 := ⟨_, Tryd.func49, by kernel_rfl, by kernel_rfl⟩

def c51 : MC :=
   (.seq
    (.ops [i_ 2 (.box 77 (T 0)),
      i_ 3 (.box 77 (T 1)),
      i_ 4 (.mv (KB false))])
    (.seq
     (.seq
      (.ops [i_ 6 (.faddr 0 (T 2)),
        i_ 7 (.ld1 (T 6)),
        i_ 8 (.faddr 0 (T 3)),
        i_ 9 (.ld1 (T 8)),
        i_ 10 (.ib .neq (T 7) (T 9)),
        i_ 11 (.mv (T 10)),
        ig 12 11 false (.faddr 1 (T 2)),
        ig 13 11 false (.ld1 (T 12)),
        ig 14 11 false (.faddr 1 (T 3)),
        ig 15 11 false (.ld1 (T 14)),
        ig 16 11 false (.bb .neq (T 13) (T 15)),
        i_ 17 (.pick (T 11) (KB true) (T 16)),
        i_ 18 (.mv (T 17)),
        ig 19 18 false (.faddr 2 (T 2)),
        ig 20 18 false (.ld1 (T 19)),
        ig 21 18 false (.faddr 2 (T 3)),
        ig 22 18 false (.ld1 (T 21)),
        ig 23 18 false (.ib .neq (T 20) (T 22)),
        i_ 24 (.pick (T 18) (KB true) (T 23)),
        i_ 25 (.mv (T 24)),
        ig 26 25 false (.faddr 3 (T 2)),
        ig 27 25 false (.ld1 (T 26)),
        ig 28 25 false (.faddr 3 (T 3)),
        ig 29 25 false (.ld1 (T 28)),
        ig 30 25 false (.sb .neq (T 27) (T 29)),
        i_ 31 (.pick (T 25) (KB true) (T 30)),
        i_ 32 (.mv (T 31)),
        ig 33 32 false (.faddr 5 (T 2)),
        ig 34 32 false (.ld1 (T 33)),
        ig 35 32 false (.faddr 5 (T 3)),
        ig 36 32 false (.ld1 (T 35)),
        ig 37 32 false (.call 93 [(T 34), (T 36)]),
        ig 38 32 false (.not (T 37)),
        i_ 39 (.pick (T 32) (KB true) (T 38)),
        i_ 40 (.mv (T 39)),
        ig 41 40 false (.faddr 4 (T 2)),
        ig 42 40 false (.ld1 (T 41)),
        ig 43 40 false (.lenV (T 42)),
        ig 44 40 false (.faddr 4 (T 3)),
        ig 45 40 false (.ld1 (T 44)),
        ig 46 40 false (.lenV (T 45)),
        ig 47 40 false (.ib .neq (T 43) (T 46)),
        i_ 48 (.pick (T 40) (KB true) (T 47))])
      (.cond (T 48)
       (.seq
        (.ops [i_ 4 (.mv (KB false))])
        .ret)
       .skip))
     (.seq
      (.seq
       (.ops [i_ 5 (.mv (KI 0))])
       (.block 0
        (.loop [(49, 56), (56, 68), (4, 6)]
         (.seq
          (.seq
           (.ops [i_ 49 (.mv (T 5)),
             i_ 50 (.faddr 4 (T 2)),
             i_ 51 (.ld1 (T 50)),
             i_ 52 (.lenV (T 51)),
             i_ 53 (.ib .lss (T 49) (T 52))])
           (.cond (T 53)
            .skip
            (.exit 0)))
          (.seq
           (.block 1
            (.seq
             (.dops <|
               .op 0 (i_ 56 (.faddr 4 (T 2))) <|
               .op 1 (i_ 57 (.ld1 (T 56))) <|
               .op 2 (i_ 58 (.mv (T 5))) <|
               .op 3 (i_ 59 (.iaddr 6 (T 57) (T 58))) <|
               .op 4 (i_ 60 (.ldN 6 (T 59))) <|
               .op 5 (i_ 61 (.faddr 4 (T 3))) <|
               .op 6 (i_ 62 (.ld1 (T 61))) <|
               .op 7 (i_ 63 (.mv (T 5))) <|
               .op 8 (i_ 64 (.iaddr 6 (T 62) (T 63))) <|
               .op 9 (i_ 65 (.ldN 6 (T 64))) <|
               .op 10 (id_ 66 (.call 51 [(T 60), (T 65)]) [6, 9, 1, 4]) <|
               .op 11 (i_ 67 (.not (T 66))) <|
               .nil)
             (.cond (T 67)
              (.seq
               (.ops [i_ 4 (.mv (KB false))])
               .ret)
              .skip)))
           (.ops [i_ 54 (.mv (T 5)),
             i_ 55 (.ib .add (T 54) (KI 1)),
             i_ 5 (.mv (T 55))]))))))
      (.seq
       (.ops [i_ 4 (.mv (KB true))])
       .ret))))
def m51 : MF := ⟨68, [(.tmp 4)], c51⟩
theorem r51 : resF Tryd.prog Tryd.f51 = some m51 := by kernel_rfl
theorem k51 : Callable Tryd.prog 51 := ⟨_, Tryd.func51, by kernel_rfl, by kernel_rfl⟩

def c52 : MC :=
   (.seq
    (.ops [i_ 2 (.box 77 (T 0)),
      i_ 3 (.box 77 (T 1)),
      i_ 4 (.mv (KB false))])
    (.seq
     (.seq
      (.ops [i_ 5 (.faddr 0 (T 2)),
        i_ 6 (.ld1 (T 5)),
        i_ 7 (.faddr 0 (T 3)),
        i_ 8 (.ld1 (T 7)),
        i_ 9 (.ib .neq (T 6) (T 8)),
        i_ 10 (.mv (T 9)),
        ig 11 10 false (.faddr 1 (T 2)),
        ig 12 10 false (.ld1 (T 11)),
        ig 13 10 false (.faddr 1 (T 3)),
        ig 14 10 false (.ld1 (T 13)),
        ig 15 10 false (.bb .neq (T 12) (T 14)),
        i_ 16 (.pick (T 10) (KB true) (T 15)),
        i_ 17 (.mv (T 16)),
        ig 18 17 false (.faddr 2 (T 2)),
        ig 19 17 false (.ld1 (T 18)),
        ig 20 17 false (.faddr 2 (T 3)),
        ig 21 17 false (.ld1 (T 20)),
        ig 22 17 false (.ib .neq (T 19) (T 21)),
        i_ 23 (.pick (T 17) (KB true) (T 22)),
        i_ 24 (.mv (T 23)),
        ig 25 24 false (.faddr 3 (T 2)),
        ig 26 24 false (.ld1 (T 25)),
        ig 27 24 false (.faddr 3 (T 3)),
        ig 28 24 false (.ld1 (T 27)),
        ig 29 24 false (.sb .neq (T 26) (T 28)),
        i_ 30 (.pick (T 24) (KB true) (T 29))])
      (.cond (T 30)
       (.seq
        (.ops [i_ 4 (.mv (KB false))])
        .ret)
       .skip))
     (.seq
      (.ops [i_ 31 (.faddr 5 (T 2)),
        i_ 32 (.ld1 (T 31)),
        i_ 33 (.faddr 5 (T 3)),
        i_ 34 (.ld1 (T 33)),
        i_ 35 (.call 94 [(T 32), (T 34)]),
        i_ 36 (.mv (T 35)),
        ig 37 36 true (.faddr 4 (T 2)),
        ig 38 36 true (.ld1 (T 37)),
        ig 39 36 true (.faddr 4 (T 3)),
        ig 40 36 true (.ld1 (T 39)),
        ig 41 36 true (.call 95 [(T 38), (T 40), (FN 52)]),
        i_ 42 (.pick (T 36) (T 41) (KB false)),
        i_ 4 (.mv (T 42))])
      .ret)))
def m52 : MF := ⟨43, [(.tmp 4)], c52⟩
theorem r52 : resF Tryd.prog Tryd.f52 = some m52 := by kernel_rfl
theorem k52 : Callable Tryd.prog 52 := ⟨_, Tryd.func52, by kernel_rfl, by kernel_rfl⟩

def c87 : MC :=
   (.seq
    (.ops [i_ 4 (.alloc 77 [(.int .i64 0), (.bool false), (.int .i64 0), (.string ⟨⟨[]⟩⟩), (.slice none 0 0), (.slice none 0 0)])])
    (.seq
     (.ops [i_ 6 (.mv (T 0)),
       i_ 7 (.call 88 [(T 6)])])
     (.seq
      (.seq
       (.dops <|
         .op 0 (i_ 8 (.mv (T 1))) <|
         .op 1 (i_ 9 (.ib .eql (T 8) (KI 0))) <|
         .op 2 (i_ 10 (.mv (T 9))) <|
         .op 3 (ig 11 10 false (.mv (T 0))) <|
         .op 4 (ig 12 10 false (.nilck (T 11))) <|
         .op 5 (ig 13 10 false (.faddr 1 (T 12))) <|
         .op 6 (ig 14 10 false (.ld1 (T 13))) <|
         .op 7 (ig 15 10 false (.mv (T 0))) <|
         .op 8 (ig 16 10 false (.nilck (T 15))) <|
         .op 9 (ig 17 10 false (.faddr 0 (T 16))) <|
         .op 10 (ig 18 10 false (.ld1 (T 17))) <|
         .op 11 (ig 19 10 false (.lenS (T 18))) <|
         .op 12 (ig 20 10 false (.ib .eql (T 14) (T 19))) <|
         .op 13 (i_ 21 (.pick (T 10) (KB true) (T 20))) <|
         .nil)
       (.cond (T 21)
        (.seq
         (.ops [i_ 22 (.mv (T 0)),
           i_ 23 (.call 126 [(T 22)])])
         (.seq
          (.ops [i_ 24 (.build [(.int .i64 0), (.bool false), (.int .i64 0), (.string ⟨⟨[]⟩⟩), (.slice none 0 0), (.slice none 0 0)] []),
            n_ (.st 6 (T 4) (T 24))])
          .ret))
        .skip))
      (.seq
       (.seq
        (.dops <|
          .op 0 (i_ 25 (.mv (T 0))) <|
          .op 1 (i_ 26 (.nilck (T 25))) <|
          .op 2 (i_ 27 (.faddr 0 (T 26))) <|
          .op 3 (i_ 28 (.ld1 (T 27))) <|
          .op 4 (i_ 29 (.mv (T 0))) <|
          .op 5 (i_ 30 (.nilck (T 29))) <|
          .op 6 (i_ 31 (.faddr 1 (T 30))) <|
          .op 7 (i_ 32 (.ld1 (T 31))) <|
          .op 8 (i_ 33 (.idx (T 28) (T 32))) <|
          .op 9 (i_ 5 (.mv (T 33))) <|
          .nil)
        (.block 0
         (.seq
          (.ops [i_ 35 (.mv (T 0)),
            i_ 36 (.call 127 [(T 35), (KS [110, 117, 108, 108])]),
            i_ 34 (.mv (T 36))])
          (.cond (T 34)
           (.seq
            (.ops [i_ 37 (.build [(.int .i64 0), (.bool false), (.int .i64 0), (.string ⟨⟨[]⟩⟩), (.slice none 0 0), (.slice none 0 0)] []),
              n_ (.st 6 (T 4) (T 37))])
            .ret)
           (.seq
            (.ops [i_ 39 (.mv (T 0)),
              i_ 40 (.call 127 [(T 39), (KS [116, 114, 117, 101])]),
              i_ 38 (.mv (T 40))])
            (.cond (T 38)
             (.seq
              (.ops [i_ 41 (.build [(.int .i64 0), (.bool false), (.int .i64 0), (.string ⟨⟨[]⟩⟩), (.slice none 0 0), (.slice none 0 0)] [(0, (1, (KI 1))), (1, (1, (KB true)))]),
                n_ (.st 6 (T 4) (T 41))])
              .ret)
             (.seq
              (.ops [i_ 43 (.mv (T 0)),
                i_ 44 (.call 127 [(T 43), (KS [102, 97, 108, 115, 101])]),
                i_ 42 (.mv (T 44))])
              (.cond (T 42)
               (.seq
                (.ops [i_ 45 (.build [(.int .i64 0), (.bool false), (.int .i64 0), (.string ⟨⟨[]⟩⟩), (.slice none 0 0), (.slice none 0 0)] [(0, (1, (KI 1)))]),
                  n_ (.st 6 (T 4) (T 45))])
                .ret)
               (.seq
                (.ops [i_ 47 (.mv (T 5)),
                  i_ 48 (.ib .eql (T 47) (KU 34)),
                  i_ 46 (.mv (T 48))])
                (.cond (T 46)
                 (.seq
                  (.ops [i_ 49 (.mv (T 0)),
                    i_ 50 (.call 128 [(T 49)]),
                    i_ 51 (.build [(.int .i64 0), (.bool false), (.int .i64 0), (.string ⟨⟨[]⟩⟩), (.slice none 0 0), (.slice none 0 0)] [(0, (1, (KI 3))), (3, (1, (T 50)))]),
                    n_ (.st 6 (T 4) (T 51))])
                  .ret)
                 (.seq
                  (.ops [i_ 53 (.mv (T 0)),
                    i_ 54 (.call 127 [(T 53), (KS [91])]),
                    i_ 52 (.mv (T 54))])
                  (.cond (T 52)
                   (.seq
                    (.ops [i_ 55 (.mv (T 0)),
                      i_ 56 (.mv (T 1)),
                      i_ 57 (.call 129 [(T 55), (T 56)]),
                      n_ (.st 6 (T 4) (T 57))])
                    .ret)
                   (.seq
                    (.ops [i_ 59 (.mv (T 0)),
                      i_ 60 (.call 127 [(T 59), (KS [123])]),
                      i_ 58 (.mv (T 60))])
                    (.cond (T 58)
                     (.seq
                      (.ops [i_ 61 (.mv (T 0)),
                        i_ 62 (.mv (T 1)),
                        i_ 63 (.call 130 [(T 61), (T 62)]),
                        n_ (.st 6 (T 4) (T 63))])
                      .ret)
                     .skip))))))))))))))
       (.seq
        (.ops [i_ 64 (.mv (T 0)),
          i_ 65 (.call 131 [(T 64)]),
          n_ (.st 6 (T 4) (T 65))])
        .ret)))))
def m87 : MF := ⟨66, [(.cell 4 6)], c87⟩
theorem r87 : resF Tryd.prog Tryd.f87 = some m87 := by kernel_rfl
theorem k87 : Callable Tryd.prog 87 := ⟨_, Tryd.func87, by kernel_rfl, by kernel_rfl⟩

def c88 : MC :=
   (.block 0
    (.loop [(2, 32)]
     (.seq
      (.seq
       (.dops <|
         .op 0 (i_ 2 (.mv (T 0))) <|
         .op 1 (i_ 3 (.nilck (T 2))) <|
         .op 2 (i_ 4 (.faddr 1 (T 3))) <|
         .op 3 (i_ 5 (.ld1 (T 4))) <|
         .op 4 (i_ 6 (.mv (T 0))) <|
         .op 5 (i_ 7 (.nilck (T 6))) <|
         .op 6 (i_ 8 (.faddr 0 (T 7))) <|
         .op 7 (i_ 9 (.ld1 (T 8))) <|
         .op 8 (i_ 10 (.lenS (T 9))) <|
         .op 9 (i_ 11 (.ib .lss (T 5) (T 10))) <|
         .op 10 (i_ 12 (.mv (T 11))) <|
         .op 11 (ig 13 12 true (.mv (T 0))) <|
         .op 12 (ig 14 12 true (.nilck (T 13))) <|
         .op 13 (ig 15 12 true (.faddr 0 (T 14))) <|
         .op 14 (ig 16 12 true (.ld1 (T 15))) <|
         .op 15 (ig 17 12 true (.mv (T 0))) <|
         .op 16 (ig 18 12 true (.nilck (T 17))) <|
         .op 17 (ig 19 12 true (.faddr 1 (T 18))) <|
         .op 18 (ig 20 12 true (.ld1 (T 19))) <|
         .op 19 (ig 21 12 true (.idx (T 16) (T 20))) <|
         .op 20 (igd 22 12 true (.call 110 [(KS [32, 9, 10, 13]), (T 21)]) [14, 3, 7, 18]) <|
         .op 21 (ig 23 12 true (.ib .geq (T 22) (KI 0))) <|
         .op 22 (i_ 24 (.pick (T 12) (T 23) (KB false))) <|
         .nil)
       (.cond (T 24)
        .skip
        (.exit 0)))
      (.block 1
       (.ops [i_ 25 (.mv (T 0)),
         i_ 26 (.nilck (T 25)),
         i_ 27 (.faddr 1 (T 26)),
         i_ 28 (.ld1 (T 27)),
         i_ 29 (.ib .add (T 28) (KI 1)),
         i_ 30 (.nilck (T 25)),
         i_ 31 (.faddr 1 (T 30)),
         n_ (.st 1 (T 31) (T 29))])))))
def m88 : MF := ⟨32, [], c88⟩
theorem r88 : resF Tryd.prog Tryd.f88 = some m88 := by kernel_rfl
theorem k88 : Callable Tryd.prog 88 := ⟨_, Tryd.func88, by kernel_rfl, by kernel_rfl⟩

def c90 : MC :=
   (.seq
    (.ops [i_ 6 (.mv (.const (.slice none 0 0)))])
    (.seq
     (.ops [i_ 7 (.mv (.const (.slice none 0 0)))])
     (.seq
      (.seq
       (.ops [i_ 8 (.mv (KI 0))])
       (.block 0
        (.loop [(9, 20), (20, 29), (7, 9)]
         (.seq
          (.seq
           (.ops [i_ 9 (.mv (T 8)),
             i_ 10 (.mv (T 0)),
             i_ 11 (.lenV (T 10)),
             i_ 12 (.ib .lss (T 9) (T 11)),
             i_ 13 (.mv (T 12)),
             ig 14 13 true (.mv (T 8)),
             ig 15 13 true (.mv (T 1)),
             ig 16 13 true (.ib .lss (T 14) (T 15)),
             i_ 17 (.pick (T 13) (T 16) (KB false))])
           (.cond (T 17)
            .skip
            (.exit 0)))
          (.seq
           (.block 1
            (.ops [i_ 20 (.mv (T 7)),
              i_ 21 (.mv (T 0)),
              i_ 22 (.mv (T 8)),
              i_ 23 (.iaddr 1 (T 21) (T 22)),
              i_ 24 (.ld1 (T 23)),
              i_ 25 (.mv (T 2)),
              i_ 26 (.call 14 [(T 24), (T 25)]),
              i_ 27 (.bslice 9 [(.string ⟨⟨[]⟩⟩)] 1 1 [(0, (1, (T 26)))]),
              i_ 28 (.append 9 1 16 (T 20) (T 27)),
              i_ 7 (.mv (T 28))]))
           (.ops [i_ 18 (.mv (T 8)),
             i_ 19 (.ib .add (T 18) (KI 1)),
             i_ 8 (.mv (T 19))]))))))
      (.seq
       (.ops [i_ 29 (.mv (T 7)),
         i_ 6 (.mv (T 29))])
       .ret))))
def m90 : MF := ⟨30, [(.tmp 6)], c90⟩
theorem r90 : resF Tryd.prog Tryd.f90 = some m90 := by kernel_rfl
theorem k90 : Callable Tryd.prog 90 := ⟨_, Tryd.func90, by kernel_rfl, by kernel_rfl⟩

def c93 : MC :=
   (.seq
    (.ops [i_ 4 (.mv (KB false))])
    (.seq
     (.seq
      (.ops [i_ 6 (.mv (T 0)),
        i_ 7 (.lenV (T 6)),
        i_ 8 (.mv (T 1)),
        i_ 9 (.lenV (T 8)),
        i_ 10 (.ib .neq (T 7) (T 9))])
      (.cond (T 10)
       (.seq
        (.ops [i_ 4 (.mv (KB false))])
        .ret)
       .skip))
     (.seq
      (.seq
       (.ops [i_ 5 (.mv (KI 0))])
       (.block 0
        (.loop [(11, 17), (17, 26), (4, 6)]
         (.seq
          (.seq
           (.ops [i_ 11 (.mv (T 5)),
             i_ 12 (.mv (T 0)),
             i_ 13 (.lenV (T 12)),
             i_ 14 (.ib .lss (T 11) (T 13))])
           (.cond (T 14)
            .skip
            (.exit 0)))
          (.seq
           (.block 1
            (.seq
             (.dops <|
               .op 0 (i_ 17 (.mv (T 0))) <|
               .op 1 (i_ 18 (.mv (T 5))) <|
               .op 2 (i_ 19 (.iaddr 1 (T 17) (T 18))) <|
               .op 3 (i_ 20 (.ld1 (T 19))) <|
               .op 4 (i_ 21 (.mv (T 1))) <|
               .op 5 (i_ 22 (.mv (T 5))) <|
               .op 6 (i_ 23 (.iaddr 1 (T 21) (T 22))) <|
               .op 7 (i_ 24 (.ld1 (T 23))) <|
               .op 8 (i_ 25 (.sb .neq (T 20) (T 24))) <|
               .nil)
             (.cond (T 25)
              (.seq
               (.ops [i_ 4 (.mv (KB false))])
               .ret)
              .skip)))
           (.ops [i_ 15 (.mv (T 5)),
             i_ 16 (.ib .add (T 15) (KI 1)),
             i_ 5 (.mv (T 16))]))))))
      (.seq
       (.ops [i_ 4 (.mv (KB true))])
       .ret))))
def m93 : MF := ⟨26, [(.tmp 4)], c93⟩
theorem r93 : resF Tryd.prog Tryd.f93 = some m93 := by kernel_rfl
theorem k93 : Callable Tryd.prog 93 := ⟨_, Tryd.func93, by kernel_rfl, by kernel_rfl⟩

def c95 : MC :=
   (.seq
    (.ops [i_ 6 (.mv (KB false))])
    (.seq
     (.seq
      (.ops [i_ 10 (.mv (T 0)),
        i_ 11 (.lenV (T 10)),
        i_ 12 (.mv (T 1)),
        i_ 13 (.lenV (T 12)),
        i_ 14 (.ib .neq (T 11) (T 13))])
      (.cond (T 14)
       (.seq
        (.ops [i_ 6 (.mv (KB false))])
        .ret)
       .skip))
     (.seq
      (.seq
       (.ops [i_ 15 (.mv (T 0)),
         i_ 16 (.lenV (T 15)),
         i_ 17 (.mv (KI 0))])
       (.block 0
        (.loop [(18, 32), (8, 10), (7, 8), (6, 7), (17, 18)]
         (.seq
          (.ops [i_ 18 (.ib .lss (T 17) (T 16))])
          (.seq
           (.cond (T 18)
            .skip
            (.exit 0))
           (.seq
            (.block 1
             (.seq
              (.ops [i_ 19 (.mv (T 17)),
                i_ 20 (.iaddr 6 (T 15) (T 17)),
                i_ 21 (.ldN 6 (T 20)),
                i_ 8 (.alloc 77 [(.int .i64 0), (.bool false), (.int .i64 0), (.string ⟨⟨[]⟩⟩), (.slice none 0 0), (.slice none 0 0)]),
                i_ 7 (.mv (T 19)),
                n_ (.st 6 (T 8) (T 21))])
              (.seq
               (.ops [i_ 22 (.mv (T 1)),
                 i_ 23 (.mv (T 7)),
                 i_ 24 (.iaddr 6 (T 22) (T 23)),
                 i_ 25 (.ldN 6 (T 24)),
                 i_ 9 (.alloc 77 [(.int .i64 0), (.bool false), (.int .i64 0), (.string ⟨⟨[]⟩⟩), (.slice none 0 0), (.slice none 0 0)]),
                 n_ (.st 6 (T 9) (T 25))])
               (.seq
                (.ops [i_ 26 (.mv (T 2)),
                  i_ 27 (.ldN 6 (T 8)),
                  i_ 28 (.ldN 6 (T 9)),
                  i_ 29 (.callv (T 26) [(T 27), (T 28)]),
                  i_ 30 (.not (T 29))])
                (.cond (T 30)
                 (.seq
                  (.ops [i_ 6 (.mv (KB false))])
                  .ret)
                 .skip)))))
            (.ops [i_ 31 (.ib .add (T 17) (KI 1)),
              i_ 17 (.mv (T 31))])))))))
      (.seq
       (.ops [i_ 6 (.mv (KB true))])
       .ret))))
def m95 : MF := ⟨32, [(.tmp 6)], c95⟩
theorem r95 : resF Tryd.prog Tryd.f95 = some m95 := by kernel_rfl
theorem k95 : Callable Tryd.prog 95 := ⟨_, Tryd.func95, by kernel_rfl, by kernel_rfl⟩

def c126 : MC :=
   (.ops [i_ 2 (.mv (T 0)),
     i_ 3 (.nilck (T 2)),
     i_ 4 (.faddr 2 (T 3)),
     n_ (.st 1 (T 4) (KB false))])
def m126 : MF := ⟨5, [], c126⟩
theorem r126 : resF Tryd.prog Tryd.f126 = some m126 := by kernel_rfl
theorem k126 : Callable Tryd.prog 126 := ⟨_, Tryd.func126, by kernel_rfl, by kernel_rfl⟩

def c127 : MC :=
   (.seq
    (.ops [i_ 4 (.mv (KB false))])
    (.seq
     (.seq
      (.dops <|
        .op 0 (i_ 5 (.mv (T 0))) <|
        .op 1 (i_ 6 (.nilck (T 5))) <|
        .op 2 (i_ 7 (.faddr 0 (T 6))) <|
        .op 3 (i_ 8 (.ld1 (T 7))) <|
        .op 4 (i_ 9 (.mv (T 0))) <|
        .op 5 (i_ 10 (.nilck (T 9))) <|
        .op 6 (i_ 11 (.faddr 1 (T 10))) <|
        .op 7 (i_ 12 (.ld1 (T 11))) <|
        .op 8 (i_ 13 (.slS (T 8) (some (T 12)) none)) <|
        .op 9 (i_ 14 (.mv (T 1))) <|
        .op 10 (id_ 15 (.call 82 [(T 13), (T 14)]) [3, 7]) <|
        .op 11 (i_ 16 (.not (T 15))) <|
        .nil)
      (.cond (T 16)
       (.seq
        (.ops [i_ 4 (.mv (KB false))])
        .ret)
       .skip))
     (.seq
      (.ops [i_ 17 (.mv (T 0)),
        i_ 18 (.nilck (T 17)),
        i_ 19 (.faddr 1 (T 18)),
        i_ 20 (.ld1 (T 19)),
        i_ 21 (.mv (T 1)),
        i_ 22 (.lenS (T 21)),
        i_ 23 (.ib .add (T 20) (T 22)),
        i_ 24 (.nilck (T 17)),
        i_ 25 (.faddr 1 (T 24)),
        n_ (.st 1 (T 25) (T 23))])
      (.seq
       (.ops [i_ 4 (.mv (KB true))])
       .ret))))
def m127 : MF := ⟨26, [(.tmp 4)], c127⟩
theorem r127 : resF Tryd.prog Tryd.f127 = some m127 := by kernel_rfl
theorem k127 : Callable Tryd.prog 127 := ⟨_, Tryd.func127, by kernel_rfl, by kernel_rfl⟩

def c128 : MC :=
   (.seq
    (.ops [i_ 2 (.mv (KS []))])
    (.seq
     (.ops [i_ 3 (.raw ⟨(some 3), (.alloc 99), 0, "json.go:250", ⟨[]⟩, none⟩)])
     (.seq
      (.seq
       (.ops [i_ 5 (.mv (T 0)),
         i_ 6 (.call 127 [(T 5), (KS [34])]),
         i_ 7 (.not (T 6))])
       (.cond (T 7)
        (.ops [i_ 8 (.mv (T 0)),
          i_ 9 (.call 126 [(T 8)])])
        .skip))
      (.seq
       (.block 0
        (.loop [(10, 57), (4, 5), (58, 61), (57, 58), (2, 3), (61, 65)]
         (.seq
          (.seq
           (.ops [i_ 10 (.mv (T 0)),
             i_ 11 (.nilck (T 10)),
             i_ 12 (.faddr 2 (T 11)),
             i_ 13 (.ld1 (T 12))])
           (.cond (T 13)
            .skip
            (.exit 0)))
          (.block 1
           (.seq
            (.seq
             (.dops <|
               .op 0 (i_ 14 (.mv (T 0))) <|
               .op 1 (i_ 15 (.nilck (T 14))) <|
               .op 2 (i_ 16 (.faddr 1 (T 15))) <|
               .op 3 (i_ 17 (.ld1 (T 16))) <|
               .op 4 (i_ 18 (.mv (T 0))) <|
               .op 5 (i_ 19 (.nilck (T 18))) <|
               .op 6 (i_ 20 (.faddr 0 (T 19))) <|
               .op 7 (i_ 21 (.ld1 (T 20))) <|
               .op 8 (i_ 22 (.lenS (T 21))) <|
               .op 9 (i_ 23 (.ib .eql (T 17) (T 22))) <|
               .op 10 (i_ 24 (.mv (T 23))) <|
               .op 11 (ig 25 24 false (.mv (T 0))) <|
               .op 12 (ig 26 24 false (.nilck (T 25))) <|
               .op 13 (ig 27 24 false (.faddr 0 (T 26))) <|
               .op 14 (ig 28 24 false (.ld1 (T 27))) <|
               .op 15 (ig 29 24 false (.mv (T 0))) <|
               .op 16 (ig 30 24 false (.nilck (T 29))) <|
               .op 17 (ig 31 24 false (.faddr 1 (T 30))) <|
               .op 18 (ig 32 24 false (.ld1 (T 31))) <|
               .op 19 (ig 33 24 false (.idx (T 28) (T 32))) <|
               .op 20 (ig 34 24 false (.ib .lss (T 33) (KU 32))) <|
               .op 21 (i_ 35 (.pick (T 24) (KB true) (T 34))) <|
               .nil)
             (.cond (T 35)
              (.seq
               (.ops [i_ 36 (.mv (T 0)),
                 i_ 37 (.call 126 [(T 36)])])
               (.exit 0))
              .skip))
            (.seq
             (.dops <|
               .op 0 (i_ 38 (.mv (T 0))) <|
               .op 1 (i_ 39 (.nilck (T 38))) <|
               .op 2 (i_ 40 (.faddr 0 (T 39))) <|
               .op 3 (i_ 41 (.ld1 (T 40))) <|
               .op 4 (i_ 42 (.mv (T 0))) <|
               .op 5 (i_ 43 (.nilck (T 42))) <|
               .op 6 (i_ 44 (.faddr 1 (T 43))) <|
               .op 7 (i_ 45 (.ld1 (T 44))) <|
               .op 8 (i_ 46 (.idx (T 41) (T 45))) <|
               .op 9 (i_ 4 (.mv (T 46))) <|
               .nil)
             (.seq
              (.ops [i_ 47 (.mv (T 0)),
                i_ 48 (.nilck (T 47)),
                i_ 49 (.faddr 1 (T 48)),
                i_ 50 (.ld1 (T 49)),
                i_ 51 (.ib .add (T 50) (KI 1)),
                i_ 52 (.nilck (T 47)),
                i_ 53 (.faddr 1 (T 52)),
                n_ (.st 1 (T 53) (T 51))])
              (.seq
               (.ops [i_ 54 (.mv (T 4))])
               (.block 2
                (.seq
                 (.ops [i_ 58 (.ib .eql (T 54) (KU 34)),
                   i_ 57 (.mv (T 58))])
                 (.cond (T 57)
                  (.seq
                   (.ops [i_ 59 (.call 65 [(T 3)]),
                     i_ 2 (.mv (T 59))])
                   .ret)
                  (.seq
                   (.ops [i_ 61 (.ib .eql (T 54) (KU 92)),
                     i_ 60 (.mv (T 61))])
                   (.cond (T 60)
                    (.ops [i_ 62 (.mv (T 0)),
                      i_ 63 (.call 167 [(T 62)]),
                      i_ 64 (.call 114 [(T 3), (T 63)])])
                    (.ops [i_ 55 (.mv (T 4)),
                      i_ 56 (.call 63 [(T 3), (T 55)])]))))))))))))))
       (.seq
        (.ops [i_ 2 (.mv (KS []))])
        .ret)))))
def m128 : MF := ⟨65, [(.tmp 2)], c128⟩
theorem r128 : resF Tryd.prog Tryd.f128 = some m128 := by kernel_rfl
theorem k128 : Callable Tryd.prog 128 := ⟨_, Tryd.func128, by kernel_rfl, by kernel_rfl⟩

def c129 : MC :=
   (.seq
    (.ops [i_ 4 (.alloc 77 [(.int .i64 0), (.bool false), (.int .i64 0), (.string ⟨⟨[]⟩⟩), (.slice none 0 0), (.slice none 0 0)])])
    (.seq
     (.ops [i_ 6 (.build [(.int .i64 0), (.bool false), (.int .i64 0), (.string ⟨⟨[]⟩⟩), (.slice none 0 0), (.slice none 0 0)] [(0, (1, (KI 4)))]),
       i_ 5 (.alloc 77 [(.int .i64 0), (.bool false), (.int .i64 0), (.string ⟨⟨[]⟩⟩), (.slice none 0 0), (.slice none 0 0)]),
       n_ (.st 6 (T 5) (T 6))])
     (.seq
      (.block 0
       (.loop [(7, 23)]
        (.seq
         (.seq
          (.ops [i_ 7 (.mv (T 0)),
            i_ 8 (.faddr 4 (T 5)),
            i_ 9 (.ld1 (T 8)),
            i_ 10 (.lenV (T 9)),
            i_ 11 (.ib .eql (T 10) (KI 0)),
            i_ 12 (.call 168 [(T 7), (KS [93]), (T 11)]),
            i_ 13 (.not (T 12))])
          (.cond (T 13)
           .skip
           (.exit 0)))
         (.block 1
          (.dops <|
            .op 0 (i_ 14 (.faddr 4 (T 5))) <|
            .op 1 (i_ 15 (.ld1 (T 14))) <|
            .op 2 (i_ 16 (.mv (T 0))) <|
            .op 3 (i_ 17 (.mv (T 1))) <|
            .op 4 (i_ 18 (.ib .sub (T 17) (KI 1))) <|
            .op 5 (i_ 19 (.call 87 [(T 16), (T 18)])) <|
            .op 6 (i_ 20 (.bslice 77 [(.int .i64 0), (.bool false), (.int .i64 0), (.string ⟨⟨[]⟩⟩), (.slice none 0 0), (.slice none 0 0)] 1 6 [(0, (6, (T 19)))])) <|
            .op 7 (id_ 21 (.append 77 6 88 (T 15) (T 20)) [1]) <|
            .op 8 (i_ 22 (.faddr 4 (T 5))) <|
            .op 9 (nd_ (.st 1 (T 22) (T 21)) [1]) <|
            .nil)))))
      (.seq
       (.ops [i_ 23 (.ldN 6 (T 5)),
         n_ (.st 6 (T 4) (T 23))])
       .ret))))
def m129 : MF := ⟨24, [(.cell 4 6)], c129⟩
theorem r129 : resF Tryd.prog Tryd.f129 = some m129 := by kernel_rfl
theorem k129 : Callable Tryd.prog 129 := ⟨_, Tryd.func129, by kernel_rfl, by kernel_rfl⟩

def c130 : MC :=
   (.seq
    (.ops [i_ 4 (.alloc 77 [(.int .i64 0), (.bool false), (.int .i64 0), (.string ⟨⟨[]⟩⟩), (.slice none 0 0), (.slice none 0 0)])])
    (.seq
     (.ops [i_ 7 (.build [(.int .i64 0), (.bool false), (.int .i64 0), (.string ⟨⟨[]⟩⟩), (.slice none 0 0), (.slice none 0 0)] [(0, (1, (KI 5)))]),
       i_ 5 (.alloc 77 [(.int .i64 0), (.bool false), (.int .i64 0), (.string ⟨⟨[]⟩⟩), (.slice none 0 0), (.slice none 0 0)]),
       n_ (.st 6 (T 5) (T 7))])
     (.seq
      (.block 0
       (.loop [(8, 48), (6, 7)]
        (.seq
         (.seq
          (.ops [i_ 8 (.mv (T 0)),
            i_ 9 (.faddr 4 (T 5)),
            i_ 10 (.ld1 (T 9)),
            i_ 11 (.lenV (T 10)),
            i_ 12 (.ib .eql (T 11) (KI 0)),
            i_ 13 (.call 168 [(T 8), (KS [125]), (T 12)]),
            i_ 14 (.not (T 13))])
          (.cond (T 14)
           .skip
           (.exit 0)))
         (.block 1
          (.seq
           (.ops [i_ 15 (.mv (T 0)),
             i_ 16 (.call 88 [(T 15)])])
           (.seq
            (.ops [i_ 17 (.mv (T 0)),
              i_ 18 (.call 128 [(T 17)]),
              i_ 6 (.mv (T 18))])
            (.seq
             (.ops [i_ 19 (.mv (T 0)),
               i_ 20 (.call 88 [(T 19)])])
             (.seq
              (.seq
               (.ops [i_ 21 (.mv (T 0)),
                 i_ 22 (.call 127 [(T 21), (KS [58])]),
                 i_ 23 (.not (T 22)),
                 i_ 24 (.mv (T 23)),
                 ig 25 24 false (.faddr 5 (T 5)),
                 ig 26 24 false (.ld1 (T 25)),
                 ig 27 24 false (.mv (T 6)),
                 ig 28 24 false (.call 169 [(T 26), (T 27)]),
                 i_ 29 (.pick (T 24) (KB true) (T 28))])
               (.cond (T 29)
                (.seq
                 (.ops [i_ 30 (.mv (T 0)),
                   i_ 31 (.call 126 [(T 30)])])
                 (.seq
                  (.ops [i_ 32 (.build [(.int .i64 0), (.bool false), (.int .i64 0), (.string ⟨⟨[]⟩⟩), (.slice none 0 0), (.slice none 0 0)] []),
                    n_ (.st 6 (T 4) (T 32))])
                  .ret))
                .skip))
              (.seq
               (.ops [i_ 33 (.faddr 5 (T 5)),
                 i_ 34 (.ld1 (T 33)),
                 i_ 35 (.mv (T 6)),
                 i_ 36 (.bslice 9 [(.string ⟨⟨[]⟩⟩)] 1 1 [(0, (1, (T 35)))]),
                 i_ 37 (.append 9 1 16 (T 34) (T 36)),
                 i_ 38 (.faddr 5 (T 5)),
                 n_ (.st 1 (T 38) (T 37))])
               (.dops <|
                 .op 0 (i_ 39 (.faddr 4 (T 5))) <|
                 .op 1 (i_ 40 (.ld1 (T 39))) <|
                 .op 2 (i_ 41 (.mv (T 0))) <|
                 .op 3 (i_ 42 (.mv (T 1))) <|
                 .op 4 (i_ 43 (.ib .sub (T 42) (KI 1))) <|
                 .op 5 (i_ 44 (.call 87 [(T 41), (T 43)])) <|
                 .op 6 (i_ 45 (.bslice 77 [(.int .i64 0), (.bool false), (.int .i64 0), (.string ⟨⟨[]⟩⟩), (.slice none 0 0), (.slice none 0 0)] 1 6 [(0, (6, (T 44)))])) <|
                 .op 7 (id_ 46 (.append 77 6 88 (T 40) (T 45)) [1]) <|
                 .op 8 (i_ 47 (.faddr 4 (T 5))) <|
                 .op 9 (nd_ (.st 1 (T 47) (T 46)) [1]) <|
                 .nil))))))))))
      (.seq
       (.ops [i_ 48 (.ldN 6 (T 5)),
         n_ (.st 6 (T 4) (T 48))])
       .ret))))
def m130 : MF := ⟨49, [(.cell 4 6)], c130⟩
theorem r130 : resF Tryd.prog Tryd.f130 = some m130 := by kernel_rfl
theorem k130 : Callable Tryd.prog 130 := ⟨_, Tryd.func130, by kernel_rfl, by kernel_rfl⟩

def c131 : MC :=
   (.seq
    (.ops [i_ 2 (.alloc 77 [(.int .i64 0), (.bool false), (.int .i64 0), (.string ⟨⟨[]⟩⟩), (.slice none 0 0), (.slice none 0 0)])])
    (.seq
     (.ops [i_ 7 (.mv (T 0)),
       i_ 8 (.nilck (T 7)),
       i_ 9 (.faddr 1 (T 8)),
       i_ 10 (.ld1 (T 9)),
       i_ 3 (.mv (T 10))])
     (.seq
      (.ops [i_ 11 (.mv (T 0)),
        i_ 12 (.call 127 [(T 11), (KS [45])])])
      (.seq
       (.block 0
        (.loop [(13, 54)]
         (.seq
          (.seq
           (.dops <|
             .op 0 (i_ 13 (.mv (T 0))) <|
             .op 1 (i_ 14 (.nilck (T 13))) <|
             .op 2 (i_ 15 (.faddr 1 (T 14))) <|
             .op 3 (i_ 16 (.ld1 (T 15))) <|
             .op 4 (i_ 17 (.mv (T 0))) <|
             .op 5 (i_ 18 (.nilck (T 17))) <|
             .op 6 (i_ 19 (.faddr 0 (T 18))) <|
             .op 7 (i_ 20 (.ld1 (T 19))) <|
             .op 8 (i_ 21 (.lenS (T 20))) <|
             .op 9 (i_ 22 (.ib .lss (T 16) (T 21))) <|
             .op 10 (i_ 23 (.mv (T 22))) <|
             .op 11 (ig 24 23 true (.mv (T 0))) <|
             .op 12 (ig 25 23 true (.nilck (T 24))) <|
             .op 13 (ig 26 23 true (.faddr 0 (T 25))) <|
             .op 14 (ig 27 23 true (.ld1 (T 26))) <|
             .op 15 (ig 28 23 true (.mv (T 0))) <|
             .op 16 (ig 29 23 true (.nilck (T 28))) <|
             .op 17 (ig 30 23 true (.faddr 1 (T 29))) <|
             .op 18 (ig 31 23 true (.ld1 (T 30))) <|
             .op 19 (ig 32 23 true (.idx (T 27) (T 31))) <|
             .op 20 (ig 33 23 true (.ib .geq (T 32) (KU 48))) <|
             .op 21 (i_ 34 (.pick (T 23) (T 33) (KB false))) <|
             .op 22 (i_ 35 (.mv (T 34))) <|
             .op 23 (ig 36 35 true (.mv (T 0))) <|
             .op 24 (ig 37 35 true (.nilck (T 36))) <|
             .op 25 (ig 38 35 true (.faddr 0 (T 37))) <|
             .op 26 (ig 39 35 true (.ld1 (T 38))) <|
             .op 27 (ig 40 35 true (.mv (T 0))) <|
             .op 28 (ig 41 35 true (.nilck (T 40))) <|
             .op 29 (ig 42 35 true (.faddr 1 (T 41))) <|
             .op 30 (ig 43 35 true (.ld1 (T 42))) <|
             .op 31 (ig 44 35 true (.idx (T 39) (T 43))) <|
             .op 32 (ig 45 35 true (.ib .leq (T 44) (KU 57))) <|
             .op 33 (i_ 46 (.pick (T 35) (T 45) (KB false))) <|
             .nil)
           (.cond (T 46)
            .skip
            (.exit 0)))
          (.block 1
           (.ops [i_ 47 (.mv (T 0)),
             i_ 48 (.nilck (T 47)),
             i_ 49 (.faddr 1 (T 48)),
             i_ 50 (.ld1 (T 49)),
             i_ 51 (.ib .add (T 50) (KI 1)),
             i_ 52 (.nilck (T 47)),
             i_ 53 (.faddr 1 (T 52)),
             n_ (.st 1 (T 53) (T 51))])))))
       (.seq
        (.dops <|
          .op 0 (i_ 54 (.mv (T 0))) <|
          .op 1 (i_ 55 (.nilck (T 54))) <|
          .op 2 (i_ 56 (.faddr 0 (T 55))) <|
          .op 3 (i_ 57 (.ld1 (T 56))) <|
          .op 4 (i_ 58 (.mv (T 3))) <|
          .op 5 (i_ 59 (.mv (T 0))) <|
          .op 6 (i_ 60 (.nilck (T 59))) <|
          .op 7 (i_ 61 (.faddr 1 (T 60))) <|
          .op 8 (i_ 62 (.ld1 (T 61))) <|
          .op 9 (i_ 63 (.slS (T 57) (some (T 58)) (some (T 62)))) <|
          .op 10 (i_ 4 (.mv (T 63))) <|
          .nil)
        (.seq
         (.ops [i_ 65 (.mv (T 4)),
           i_ 66 (.call 170 [(T 65), (KI 10), (KI 64)]),
           i_ 64 (.mv (T 66)),
           i_ 67 (.ext (T 64) 0),
           i_ 68 (.ext (T 64) 1),
           i_ 5 (.mv (T 67)),
           i_ 6 (.mv (T 68))])
         (.seq
          (.seq
           (.ops [i_ 69 (.mv (T 6)),
             i_ 70 (.raw ⟨(some 70), (.binOp .neq 101 (T 69) (.const .nilIface) 101), 4, "json.go:241", ⟨[⟨0, .data⟩]⟩, none⟩),
             i_ 71 (.mv (T 70)),
             ig 72 71 false (.mv (T 5)),
             ig 73 71 false (.call 137 [(T 72), (KI 10)]),
             ig 74 71 false (.mv (T 4)),
             ig 75 71 false (.sb .neq (T 73) (T 74)),
             i_ 76 (.pick (T 71) (KB true) (T 75)),
             i_ 77 (.mv (T 76)),
             ig 78 77 false (.mv (T 5)),
             ig 79 77 false (.ib .lss (T 78) (KI (-9007199254740992))),
             i_ 80 (.pick (T 77) (KB true) (T 79)),
             i_ 81 (.mv (T 80)),
             ig 82 81 false (.mv (T 5)),
             ig 83 81 false (.ib .gtr (T 82) (KI 9007199254740992)),
             i_ 84 (.pick (T 81) (KB true) (T 83))])
           (.cond (T 84)
            (.seq
             (.ops [i_ 85 (.mv (T 0)),
               i_ 86 (.call 126 [(T 85)])])
             (.seq
              (.ops [i_ 87 (.build [(.int .i64 0), (.bool false), (.int .i64 0), (.string ⟨⟨[]⟩⟩), (.slice none 0 0), (.slice none 0 0)] []),
                n_ (.st 6 (T 2) (T 87))])
              .ret))
            .skip))
          (.seq
           (.ops [i_ 88 (.mv (T 5)),
             i_ 89 (.build [(.int .i64 0), (.bool false), (.int .i64 0), (.string ⟨⟨[]⟩⟩), (.slice none 0 0), (.slice none 0 0)] [(0, (1, (KI 2))), (2, (1, (T 88)))]),
             n_ (.st 6 (T 2) (T 89))])
           .ret))))))))
def m131 : MF := ⟨90, [(.cell 2 6)], c131⟩
theorem r131 : resF Tryd.prog Tryd.f131 = some m131 := by kernel_rfl
theorem k131 : Callable Tryd.prog 131 := ⟨_, Tryd.func131, by kernel_rfl, by kernel_rfl⟩

def c167 : MC :=
   (.seq
    (.ops [i_ 2 (.mv (KS []))])
    (.seq
     (.seq
      (.dops <|
        .op 0 (i_ 4 (.mv (T 0))) <|
        .op 1 (i_ 5 (.nilck (T 4))) <|
        .op 2 (i_ 6 (.faddr 1 (T 5))) <|
        .op 3 (i_ 7 (.ld1 (T 6))) <|
        .op 4 (i_ 8 (.mv (T 0))) <|
        .op 5 (i_ 9 (.nilck (T 8))) <|
        .op 6 (i_ 10 (.faddr 0 (T 9))) <|
        .op 7 (i_ 11 (.ld1 (T 10))) <|
        .op 8 (i_ 12 (.lenS (T 11))) <|
        .op 9 (i_ 13 (.ib .eql (T 7) (T 12))) <|
        .nil)
      (.cond (T 13)
       (.seq
        (.ops [i_ 14 (.mv (T 0)),
          i_ 15 (.call 126 [(T 14)])])
        (.seq
         (.ops [i_ 2 (.mv (KS []))])
         .ret))
       .skip))
     (.seq
      (.dops <|
        .op 0 (i_ 16 (.mv (T 0))) <|
        .op 1 (i_ 17 (.nilck (T 16))) <|
        .op 2 (i_ 18 (.faddr 0 (T 17))) <|
        .op 3 (i_ 19 (.ld1 (T 18))) <|
        .op 4 (i_ 20 (.mv (T 0))) <|
        .op 5 (i_ 21 (.nilck (T 20))) <|
        .op 6 (i_ 22 (.faddr 1 (T 21))) <|
        .op 7 (i_ 23 (.ld1 (T 22))) <|
        .op 8 (i_ 24 (.idx (T 19) (T 23))) <|
        .op 9 (i_ 3 (.mv (T 24))) <|
        .nil)
      (.seq
       (.ops [i_ 25 (.mv (T 0)),
         i_ 26 (.nilck (T 25)),
         i_ 27 (.faddr 1 (T 26)),
         i_ 28 (.ld1 (T 27)),
         i_ 29 (.ib .add (T 28) (KI 1)),
         i_ 30 (.nilck (T 25)),
         i_ 31 (.faddr 1 (T 30)),
         n_ (.st 1 (T 31) (T 29))])
       (.seq
        (.seq
         (.ops [i_ 32 (.mv (T 3))])
         (.block 0
          (.seq
           (.seq
            (.ops [i_ 34 (.ib .eql (T 32) (KU 34)),
              i_ 33 (.mv (T 34))])
            (.cond (T 33)
             .skip
             (.seq
              (.ops [i_ 35 (.ib .eql (T 32) (KU 92)),
                i_ 33 (.mv (T 35))])
              (.cond (T 33)
               .skip
               (.ops [i_ 36 (.ib .eql (T 32) (KU 47)),
                 i_ 33 (.mv (T 36))])))))
           (.cond (T 33)
            (.seq
             (.ops [i_ 37 (.mv (T 3)),
               i_ 38 (.conv .i32 (T 37)),
               i_ 39 (.i2s (T 38)),
               i_ 2 (.mv (T 39))])
             .ret)
            (.seq
             (.ops [i_ 41 (.ib .eql (T 32) (KU 98)),
               i_ 40 (.mv (T 41))])
             (.cond (T 40)
              (.seq
               (.ops [i_ 2 (.mv (KS [8]))])
               .ret)
              (.seq
               (.ops [i_ 43 (.ib .eql (T 32) (KU 102)),
                 i_ 42 (.mv (T 43))])
               (.cond (T 42)
                (.seq
                 (.ops [i_ 2 (.mv (KS [12]))])
                 .ret)
                (.seq
                 (.ops [i_ 45 (.ib .eql (T 32) (KU 110)),
                   i_ 44 (.mv (T 45))])
                 (.cond (T 44)
                  (.seq
                   (.ops [i_ 2 (.mv (KS [10]))])
                   .ret)
                  (.seq
                   (.ops [i_ 47 (.ib .eql (T 32) (KU 114)),
                     i_ 46 (.mv (T 47))])
                   (.cond (T 46)
                    (.seq
                     (.ops [i_ 2 (.mv (KS [13]))])
                     .ret)
                    (.seq
                     (.ops [i_ 49 (.ib .eql (T 32) (KU 116)),
                       i_ 48 (.mv (T 49))])
                     (.cond (T 48)
                      (.seq
                       (.ops [i_ 2 (.mv (KS [9]))])
                       .ret)
                      (.seq
                       (.ops [i_ 51 (.ib .eql (T 32) (KU 117)),
                         i_ 50 (.mv (T 51))])
                       (.cond (T 50)
                        (.seq
                         (.ops [i_ 52 (.mv (T 0)),
                           i_ 53 (.call 195 [(T 52)]),
                           i_ 2 (.mv (T 53))])
                         .ret)
                        .skip))))))))))))))))
        (.seq
         (.ops [i_ 54 (.mv (T 0)),
           i_ 55 (.call 126 [(T 54)])])
         (.seq
          (.ops [i_ 2 (.mv (KS []))])
          .ret)))))))
def m167 : MF := ⟨56, [(.tmp 2)], c167⟩
theorem r167 : resF Tryd.prog Tryd.f167 = some m167 := by kernel_rfl
theorem k167 : Callable Tryd.prog 167 := ⟨_, Tryd.func167, by kernel_rfl, by kernel_rfl⟩

def c168 : MC :=
   (.seq
    (.ops [i_ 6 (.mv (KB false))])
    (.seq
     (.ops [i_ 7 (.mv (T 0)),
       i_ 8 (.call 88 [(T 7)])])
     (.seq
      (.block 0
       (.seq
        (.ops [i_ 10 (.mv (T 0)),
          i_ 11 (.nilck (T 10)),
          i_ 12 (.faddr 2 (T 11)),
          i_ 13 (.ld1 (T 12)),
          i_ 14 (.not (T 13)),
          i_ 15 (.mv (T 14)),
          ig 16 15 false (.mv (T 0)),
          ig 17 15 false (.mv (T 1)),
          ig 18 15 false (.call 127 [(T 16), (T 17)]),
          i_ 19 (.pick (T 15) (KB true) (T 18)),
          i_ 9 (.mv (T 19))])
        (.cond (T 9)
         (.seq
          (.ops [i_ 6 (.mv (KB true))])
          .ret)
         (.seq
          (.ops [i_ 21 (.mv (T 2)),
            i_ 22 (.not (T 21)),
            i_ 23 (.mv (T 22)),
            ig 24 23 true (.mv (T 0)),
            ig 25 23 true (.call 127 [(T 24), (KS [44])]),
            ig 26 23 true (.not (T 25)),
            i_ 27 (.pick (T 23) (T 26) (KB false)),
            i_ 20 (.mv (T 27))])
          (.cond (T 20)
           (.seq
            (.ops [i_ 28 (.mv (T 0)),
              i_ 29 (.call 126 [(T 28)])])
            (.seq
             (.ops [i_ 6 (.mv (KB true))])
             .ret))
           .skip)))))
      (.seq
       (.ops [i_ 6 (.mv (KB false))])
       .ret))))
def m168 : MF := ⟨30, [(.tmp 6)], c168⟩
theorem r168 : resF Tryd.prog Tryd.f168 = some m168 := by kernel_rfl
theorem k168 : Callable Tryd.prog 168 := ⟨_, Tryd.func168, by kernel_rfl, by kernel_rfl⟩

def c195 : MC :=
   (.seq
    (.ops [i_ 2 (.mv (KS []))])
    (.seq
     (.ops [i_ 5 (.mv (T 0)),
       i_ 6 (.call 209 [(T 5)]),
       i_ 3 (.mv (T 6))])
     (.seq
      (.seq
       (.ops [i_ 7 (.mv (T 3)),
         i_ 8 (.ib .geq (T 7) (.const (.int .i32 55296))),
         i_ 9 (.mv (T 8)),
         ig 10 9 true (.mv (T 3)),
         ig 11 9 true (.ib .lss (T 10) (.const (.int .i32 56320))),
         i_ 12 (.pick (T 9) (T 11) (KB false)),
         i_ 13 (.mv (T 12)),
         ig 14 13 true (.mv (T 0)),
         ig 15 13 true (.call 127 [(T 14), (KS [92, 117])]),
         i_ 16 (.pick (T 13) (T 15) (KB false))])
       (.cond (T 16)
        (.seq
         (.seq
          (.ops [i_ 17 (.mv (T 0)),
            i_ 18 (.call 209 [(T 17)]),
            i_ 4 (.mv (T 18))])
          (.seq
           (.ops [i_ 19 (.mv (T 4)),
             i_ 20 (.ib .geq (T 19) (.const (.int .i32 56320))),
             i_ 21 (.mv (T 20)),
             ig 22 21 true (.mv (T 4)),
             ig 23 21 true (.ib .lss (T 22) (.const (.int .i32 57344))),
             i_ 24 (.pick (T 21) (T 23) (KB false))])
           (.cond (T 24)
            (.seq
             (.ops [i_ 25 (.mv (T 3)),
               i_ 26 (.ib .sub (T 25) (.const (.int .i32 55296))),
               i_ 27 (.ib .shl (T 26) (.const (.int .u64 10))),
               i_ 28 (.ib .add (.const (.int .i32 65536)) (T 27)),
               i_ 29 (.mv (T 4)),
               i_ 30 (.ib .sub (T 29) (.const (.int .i32 56320))),
               i_ 31 (.ib .add (T 28) (T 30)),
               i_ 32 (.i2s (T 31)),
               i_ 2 (.mv (T 32))])
             .ret)
            .skip)))
         (.ops [i_ 3 (.mv (.const (.int .i32 (-1))))]))
        .skip))
      (.seq
       (.seq
        (.ops [i_ 33 (.mv (T 3)),
          i_ 34 (.ib .lss (T 33) (.const (.int .i32 0))),
          i_ 35 (.mv (T 34)),
          ig 36 35 false (.mv (T 3)),
          ig 37 35 false (.ib .geq (T 36) (.const (.int .i32 55296))),
          ig 38 35 false (.mv (T 37)),
          ig 39 38 true (.mv (T 3)),
          ig 40 38 true (.ib .lss (T 39) (.const (.int .i32 57344))),
          ig 41 35 false (.pick (T 38) (T 40) (KB false)),
          i_ 42 (.pick (T 35) (KB true) (T 41))])
        (.cond (T 42)
         (.seq
          (.ops [i_ 43 (.mv (T 0)),
            i_ 44 (.call 126 [(T 43)])])
          (.seq
           (.ops [i_ 2 (.mv (KS []))])
           .ret))
         .skip))
       (.seq
        (.ops [i_ 45 (.mv (T 3)),
          i_ 46 (.i2s (T 45)),
          i_ 2 (.mv (T 46))])
        .ret)))))
def m195 : MF := ⟨47, [(.tmp 2)], c195⟩
theorem r195 : resF Tryd.prog Tryd.f195 = some m195 := by kernel_rfl
theorem k195 : Callable Tryd.prog 195 := ⟨_, Tryd.func195, by kernel_rfl, by kernel_rfl⟩

def c209 : MC :=
   (.seq
    (.ops [i_ 2 (.mv (.const (.int .i32 0)))])
    (.seq
     (.seq
      (.dops <|
        .op 0 (i_ 7 (.mv (T 0))) <|
        .op 1 (i_ 8 (.nilck (T 7))) <|
        .op 2 (i_ 9 (.faddr 0 (T 8))) <|
        .op 3 (i_ 10 (.ld1 (T 9))) <|
        .op 4 (i_ 11 (.lenS (T 10))) <|
        .op 5 (i_ 12 (.mv (T 0))) <|
        .op 6 (i_ 13 (.nilck (T 12))) <|
        .op 7 (i_ 14 (.faddr 1 (T 13))) <|
        .op 8 (i_ 15 (.ld1 (T 14))) <|
        .op 9 (i_ 16 (.ib .sub (T 11) (T 15))) <|
        .op 10 (i_ 17 (.ib .lss (T 16) (KI 4))) <|
        .nil)
      (.cond (T 17)
       (.seq
        (.ops [i_ 2 (.mv (.const (.int .i32 (-1))))])
        .ret)
       .skip))
     (.seq
      (.ops [i_ 3 (.mv (.const (.int .i32 0)))])
      (.seq
       (.seq
        (.dops <|
          .op 0 (i_ 18 (.mv (T 0))) <|
          .op 1 (i_ 19 (.nilck (T 18))) <|
          .op 2 (i_ 20 (.faddr 0 (T 19))) <|
          .op 3 (i_ 21 (.ld1 (T 20))) <|
          .op 4 (i_ 22 (.mv (T 0))) <|
          .op 5 (i_ 23 (.nilck (T 22))) <|
          .op 6 (i_ 24 (.faddr 1 (T 23))) <|
          .op 7 (i_ 25 (.ld1 (T 24))) <|
          .op 8 (i_ 26 (.mv (T 0))) <|
          .op 9 (i_ 27 (.nilck (T 26))) <|
          .op 10 (i_ 28 (.faddr 1 (T 27))) <|
          .op 11 (i_ 29 (.ld1 (T 28))) <|
          .op 12 (i_ 30 (.ib .add (T 29) (KI 4))) <|
          .op 13 (i_ 31 (.slS (T 21) (some (T 25)) (some (T 30)))) <|
          .op 16 (i_ 34 (.mv (KI 0))) <|
          .op 14 (id_ 32 (.s2b 5 (T 31)) [3, 7, 11]) <|
          .op 15 (i_ 33 (.lenV (T 32))) <|
          .nil)
        (.block 0
         (.loop [(35, 56), (5, 7), (2, 4), (34, 35)]
          (.seq
           (.ops [i_ 35 (.ib .lss (T 34) (T 33))])
           (.seq
            (.cond (T 35)
             .skip
             (.exit 0))
            (.seq
             (.block 1
              (.seq
               (.ops [i_ 36 (.iaddr 1 (T 32) (T 34)),
                 i_ 37 (.ld1 (T 36)),
                 i_ 5 (.mv (T 37))])
               (.seq
                (.seq
                 (.ops [i_ 38 (.mv (T 5)),
                   i_ 39 (.ib .geq (T 38) (KU 65)),
                   i_ 40 (.mv (T 39)),
                   ig 41 40 true (.mv (T 5)),
                   ig 42 40 true (.ib .leq (T 41) (KU 70)),
                   i_ 43 (.pick (T 40) (T 42) (KB false))])
                 (.cond (T 43)
                  (.ops [i_ 44 (.mv (T 5)),
                    i_ 45 (.ib .add (T 44) (KU 32)),
                    i_ 5 (.mv (T 45))])
                  .skip))
                (.seq
                 (.ops [i_ 46 (.mv (T 5)),
                   i_ 47 (.call 110 [(KS [48, 49, 50, 51, 52, 53, 54, 55, 56, 57, 97, 98, 99, 100, 101, 102]), (T 46)]),
                   i_ 6 (.mv (T 47))])
                 (.seq
                  (.seq
                   (.ops [i_ 48 (.mv (T 6)),
                     i_ 49 (.ib .lss (T 48) (KI 0))])
                   (.cond (T 49)
                    (.seq
                     (.ops [i_ 2 (.mv (.const (.int .i32 (-1))))])
                     .ret)
                    .skip))
                  (.ops [i_ 50 (.mv (T 3)),
                    i_ 51 (.ib .shl (T 50) (.const (.int .u64 4))),
                    i_ 52 (.mv (T 6)),
                    i_ 53 (.conv .i32 (T 52)),
                    i_ 54 (.ib .or (T 51) (T 53)),
                    i_ 3 (.mv (T 54))]))))))
             (.ops [i_ 55 (.ib .add (T 34) (KI 1)),
               i_ 34 (.mv (T 55))])))))))
       (.seq
        (.ops [i_ 56 (.mv (T 0)),
          i_ 57 (.nilck (T 56)),
          i_ 58 (.faddr 1 (T 57)),
          i_ 59 (.ld1 (T 58)),
          i_ 60 (.ib .add (T 59) (KI 4)),
          i_ 61 (.nilck (T 56)),
          i_ 62 (.faddr 1 (T 61)),
          n_ (.st 1 (T 62) (T 60))])
        (.seq
         (.ops [i_ 63 (.mv (T 3)),
           i_ 2 (.mv (T 63))])
         .ret))))))
def m209 : MF := ⟨64, [(.tmp 2)], c209⟩
theorem r209 : resF Tryd.prog Tryd.f209 = some m209 := by kernel_rfl
theorem k209 : Callable Tryd.prog 209 := ⟨_, Tryd.func209, by kernel_rfl, by kernel_rfl⟩

end Go.Proofs.YtkhgmmejgikgnaaDoor

/- Functions of the program, resolved: made by a program of ours; each is checked by the kernel. -/
namespace Go.Proofs.YtkhgmmejgikgnaaDoor
def c46 : MC :=
   (.seq
    (.ops [i_ 1 (.box 77 (T 0)),
      i_ 2 (.mv (KB false))])
    (.seq
     (.ops [i_ 3 (.ldN 6 (T 1)),
       i_ 4 (.call 89 [(T 3), (KI 16)]),
       i_ 2 (.mv (T 4))])
     .ret))
def m46 : MF := ⟨5, [(.tmp 2)], c46⟩
theorem r46 : resF Tryd.prog Tryd.f46 = some m46 := by kernel_rfl
theorem k46 : Callable Tryd.prog 46 := ⟨_, Tryd.func46, by kernel_rfl, by kernel_rfl⟩

def c50 : MC :=
   (.seq
    (.ops [i_ 1 (.box 77 (T 0)),
      i_ 2 (.mv (KS [])),
      i_ 3 (.mv (KI 0))])
    (.seq
     (.seq
      (.ops [i_ 5 (.ldN 6 (T 1)),
        i_ 6 (.call 46 [(T 5)]),
        i_ 7 (.not (T 6))])
      (.cond (T 7)
       (.seq
        (.ops [i_ 2 (.mv (KS [])),
          i_ 3 (.mv (KI 4))])
        .ret)
       .skip))
     (.seq
      (.ops [i_ 4 (.raw ⟨(some 4), (.alloc 128), 0, "json.go:135", ⟨[]⟩, none⟩)])
      (.seq
       (.ops [i_ 8 (.ldN 6 (T 1)),
         i_ 9 (.call 91 [(T 4), (T 8)])])
       (.seq
        (.seq
         (.ops [i_ 10 (.faddr 0 (T 4)),
           i_ 11 (.call 92 [(T 10)]),
           i_ 12 (.ib .gtr (T 11) (KI 65536))])
         (.cond (T 12)
          (.seq
           (.ops [i_ 2 (.mv (KS [])),
             i_ 3 (.mv (KI 5))])
           .ret)
          .skip))
        (.seq
         (.ops [i_ 13 (.faddr 0 (T 4)),
           i_ 14 (.call 65 [(T 13)]),
           i_ 2 (.mv (T 14)),
           i_ 3 (.mv (KI 0))])
         .ret))))))
def m50 : MF := ⟨15, [(.tmp 2), (.tmp 3)], c50⟩
theorem r50 : resF Tryd.prog Tryd.f50 = some m50 := by kernel_rfl
theorem k50 : Callable Tryd.prog 50 := ⟨_, Tryd.func50, by kernel_rfl, by kernel_rfl⟩

def c89 : MC :=
   (.seq
    (.ops [i_ 2 (.box 77 (T 0)),
      i_ 3 (.box 3 (T 1)),
      i_ 4 (.mv (KB false))])
    (.seq
     (.seq
      (.ops [i_ 5 (.ld1 (T 3)),
        i_ 6 (.ib .eql (T 5) (KI 0))])
      (.cond (T 6)
       (.seq
        (.ops [i_ 4 (.mv (KB false))])
        .ret)
       .skip))
     (.seq
      (.seq
       (.ops [i_ 7 (.faddr 0 (T 2)),
         i_ 8 (.ld1 (T 7))])
       (.block 0
        (.seq
         (.ops [i_ 10 (.ib .eql (T 8) (KI 0)),
           i_ 9 (.mv (T 10))])
         (.cond (T 9)
          (.seq
           (.ops [i_ 11 (.ldN 6 (T 2)),
             i_ 12 (.call 132 [(T 11), (KB false), (KB false), (KB false), (KB false), (KB false)]),
             i_ 4 (.mv (T 12))])
           .ret)
          (.seq
           (.ops [i_ 14 (.ib .eql (T 8) (KI 1)),
             i_ 13 (.mv (T 14))])
           (.cond (T 13)
            (.seq
             (.ops [i_ 15 (.ldN 6 (T 2)),
               i_ 16 (.call 132 [(T 15), (KB true), (KB false), (KB false), (KB false), (KB false)]),
               i_ 4 (.mv (T 16))])
             .ret)
            (.seq
             (.ops [i_ 18 (.ib .eql (T 8) (KI 2)),
               i_ 17 (.mv (T 18))])
             (.cond (T 17)
              (.seq
               (.ops [i_ 19 (.ldN 6 (T 2)),
                 i_ 20 (.call 132 [(T 19), (KB false), (KB true), (KB false), (KB false), (KB false)]),
                 i_ 21 (.mv (T 20)),
                 ig 22 21 true (.faddr 2 (T 2)),
                 ig 23 21 true (.ld1 (T 22)),
                 ig 24 21 true (.ib .geq (T 23) (KI (-9007199254740992))),
                 i_ 25 (.pick (T 21) (T 24) (KB false)),
                 i_ 26 (.mv (T 25)),
                 ig 27 26 true (.faddr 2 (T 2)),
                 ig 28 26 true (.ld1 (T 27)),
                 ig 29 26 true (.ib .leq (T 28) (KI 9007199254740992)),
                 i_ 30 (.pick (T 26) (T 29) (KB false)),
                 i_ 4 (.mv (T 30))])
               .ret)
              (.seq
               (.ops [i_ 32 (.ib .eql (T 8) (KI 3)),
                 i_ 31 (.mv (T 32))])
               (.cond (T 31)
                (.seq
                 (.ops [i_ 33 (.ldN 6 (T 2)),
                   i_ 34 (.call 132 [(T 33), (KB false), (KB false), (KB true), (KB false), (KB false)]),
                   i_ 35 (.mv (T 34)),
                   ig 36 35 true (.faddr 3 (T 2)),
                   ig 37 35 true (.ld1 (T 36)),
                   ig 38 35 true (.call 86 [(T 37)]),
                   i_ 39 (.pick (T 35) (T 38) (KB false)),
                   i_ 4 (.mv (T 39))])
                 .ret)
                (.seq
                 (.ops [i_ 41 (.ib .eql (T 8) (KI 4)),
                   i_ 40 (.mv (T 41))])
                 (.cond (T 40)
                  (.seq
                   (.ops [i_ 42 (.ldN 6 (T 2)),
                     i_ 43 (.call 132 [(T 42), (KB false), (KB false), (KB false), (KB true), (KB false)]),
                     i_ 44 (.not (T 43))])
                   (.cond (T 44)
                    (.seq
                     (.ops [i_ 4 (.mv (KB false))])
                     .ret)
                    .skip))
                  (.seq
                   (.ops [i_ 46 (.ib .eql (T 8) (KI 5)),
                     i_ 45 (.mv (T 46))])
                   (.cond (T 45)
                    (.seq
                     (.ops [i_ 47 (.ldN 6 (T 2)),
                       i_ 48 (.call 132 [(T 47), (KB false), (KB false), (KB false), (KB true), (KB true)]),
                       i_ 49 (.not (T 48)),
                       i_ 50 (.mv (T 49)),
                       ig 51 50 false (.faddr 5 (T 2)),
                       ig 52 50 false (.ld1 (T 51)),
                       ig 53 50 false (.lenV (T 52)),
                       ig 54 50 false (.faddr 4 (T 2)),
                       ig 55 50 false (.ld1 (T 54)),
                       ig 56 50 false (.lenV (T 55)),
                       ig 57 50 false (.ib .neq (T 53) (T 56)),
                       i_ 58 (.pick (T 50) (KB true) (T 57)),
                       i_ 59 (.mv (T 58)),
                       ig 60 59 false (.faddr 5 (T 2)),
                       ig 61 59 false (.ld1 (T 60)),
                       ig 62 59 false (.call 133 [(T 61)]),
                       ig 63 59 false (.not (T 62)),
                       i_ 64 (.pick (T 59) (KB true) (T 63))])
                     (.cond (T 64)
                      (.seq
                       (.ops [i_ 4 (.mv (KB false))])
                       .ret)
                      .skip))
                    (.seq
                     (.ops [i_ 4 (.mv (KB false))])
                     .ret)))))))))))))))
      (.seq
       (.ops [i_ 65 (.faddr 4 (T 2)),
         i_ 66 (.ld1 (T 65)),
         i_ 67 (.mkfn 135 [(T 3)]),
         i_ 68 (.call 134 [(T 66), (T 67)]),
         i_ 69 (.not (T 68)),
         i_ 4 (.mv (T 69))])
       .ret))))
def m89 : MF := ⟨70, [(.tmp 4)], c89⟩
theorem r89 : resF Tryd.prog Tryd.f89 = some m89 := by kernel_rfl
theorem k89 : Callable Tryd.prog 89 := ⟨_, Tryd.func89, by kernel_rfl, by kernel_rfl⟩

def c91 : MC :=
   (.seq
    (.ops [i_ 3 (.box 77 (T 1))])
    (.seq
     (.ops [i_ 4 (.faddr 0 (T 3)),
       i_ 5 (.ld1 (T 4))])
     (.block 0
      (.seq
       (.ops [i_ 7 (.ib .eql (T 5) (KI 0)),
         i_ 6 (.mv (T 7))])
       (.cond (T 6)
        (.ops [i_ 8 (.mv (T 0)),
          i_ 9 (.nilck (T 8)),
          i_ 10 (.faddr 0 (T 9)),
          i_ 11 (.call 114 [(T 10), (KS [110, 117, 108, 108])])])
        (.seq
         (.ops [i_ 13 (.ib .eql (T 5) (KI 1)),
           i_ 12 (.mv (T 13))])
         (.cond (T 12)
          (.dops <|
            .op 0 (i_ 14 (.mv (T 0))) <|
            .op 1 (i_ 15 (.nilck (T 14))) <|
            .op 2 (i_ 16 (.faddr 0 (T 15))) <|
            .op 3 (i_ 17 (.faddr 1 (T 3))) <|
            .op 4 (i_ 18 (.ld1 (T 17))) <|
            .op 5 (id_ 19 (.call 136 [(T 18)]) [4]) <|
            .op 6 (id_ 20 (.call 114 [(T 16), (T 19)]) [4]) <|
            .nil)
          (.seq
           (.ops [i_ 22 (.ib .eql (T 5) (KI 2)),
             i_ 21 (.mv (T 22))])
           (.cond (T 21)
            (.dops <|
              .op 0 (i_ 23 (.mv (T 0))) <|
              .op 1 (i_ 24 (.nilck (T 23))) <|
              .op 2 (i_ 25 (.faddr 0 (T 24))) <|
              .op 3 (i_ 26 (.faddr 2 (T 3))) <|
              .op 4 (i_ 27 (.ld1 (T 26))) <|
              .op 5 (id_ 28 (.call 137 [(T 27), (KI 10)]) [4]) <|
              .op 6 (id_ 29 (.call 114 [(T 25), (T 28)]) [4]) <|
              .nil)
            (.seq
             (.ops [i_ 31 (.ib .eql (T 5) (KI 3)),
               i_ 30 (.mv (T 31))])
             (.cond (T 30)
              (.dops <|
                .op 0 (i_ 32 (.mv (T 0))) <|
                .op 1 (i_ 33 (.nilck (T 32))) <|
                .op 2 (i_ 34 (.faddr 0 (T 33))) <|
                .op 3 (i_ 35 (.faddr 3 (T 3))) <|
                .op 4 (i_ 36 (.ld1 (T 35))) <|
                .op 5 (id_ 37 (.call 138 [(T 36)]) [4]) <|
                .op 6 (id_ 38 (.call 114 [(T 34), (T 37)]) [4]) <|
                .nil)
              (.seq
               (.ops [i_ 40 (.ib .eql (T 5) (KI 4)),
                 i_ 39 (.mv (T 40))])
               (.cond (T 39)
                (.ops [i_ 41 (.mv (T 0)),
                  i_ 42 (.ldN 6 (T 3)),
                  i_ 43 (.call 139 [(T 41), (T 42), (KU 91), (KU 93)])])
                (.seq
                 (.ops [i_ 45 (.ib .eql (T 5) (KI 5)),
                   i_ 44 (.mv (T 45))])
                 (.cond (T 44)
                  (.ops [i_ 46 (.mv (T 0)),
                    i_ 47 (.ldN 6 (T 3)),
                    i_ 48 (.call 139 [(T 46), (T 47), (KU 123), (KU 125)])])
                  .skip)))))))))))))))
def m91 : MF := ⟨49, [], c91⟩
theorem r91 : resF Tryd.prog Tryd.f91 = some m91 := by kernel_rfl
theorem k91 : Callable Tryd.prog 91 := ⟨_, Tryd.func91, by kernel_rfl, by kernel_rfl⟩

def c132 : MC :=
   (.seq
    (.ops [i_ 6 (.box 77 (T 0)),
      i_ 12 (.mv (KB false))])
    (.seq
     (.ops [i_ 13 (.mv (T 1)),
       i_ 14 (.mv (T 13)),
       ig 15 14 false (.faddr 1 (T 6)),
       ig 16 14 false (.ld1 (T 15)),
       ig 17 14 false (.not (T 16)),
       i_ 18 (.pick (T 14) (KB true) (T 17)),
       i_ 19 (.mv (T 18)),
       ig 20 19 true (.mv (T 2)),
       ig 21 19 true (.mv (T 20)),
       ig 22 21 false (.faddr 2 (T 6)),
       ig 23 21 false (.ld1 (T 22)),
       ig 24 21 false (.ib .eql (T 23) (KI 0)),
       ig 25 19 true (.pick (T 21) (KB true) (T 24)),
       i_ 26 (.pick (T 19) (T 25) (KB false)),
       i_ 27 (.mv (T 26)),
       ig 28 27 true (.mv (T 3)),
       ig 29 27 true (.mv (T 28)),
       ig 30 29 false (.faddr 3 (T 6)),
       ig 31 29 false (.ld1 (T 30)),
       ig 32 29 false (.sb .eql (T 31) (KS [])),
       ig 33 27 true (.pick (T 29) (KB true) (T 32)),
       i_ 34 (.pick (T 27) (T 33) (KB false)),
       i_ 35 (.mv (T 34)),
       ig 36 35 true (.mv (T 4)),
       ig 37 35 true (.mv (T 36)),
       ig 38 37 false (.faddr 4 (T 6)),
       ig 39 37 false (.ld1 (T 38)),
       ig 40 37 false (.lenV (T 39)),
       ig 41 37 false (.ib .eql (T 40) (KI 0)),
       ig 42 35 true (.pick (T 37) (KB true) (T 41)),
       i_ 43 (.pick (T 35) (T 42) (KB false)),
       i_ 44 (.mv (T 43)),
       ig 45 44 true (.mv (T 5)),
       ig 46 44 true (.mv (T 45)),
       ig 47 46 false (.faddr 5 (T 6)),
       ig 48 46 false (.ld1 (T 47)),
       ig 49 46 false (.lenV (T 48)),
       ig 50 46 false (.ib .eql (T 49) (KI 0)),
       ig 51 44 true (.pick (T 46) (KB true) (T 50)),
       i_ 52 (.pick (T 44) (T 51) (KB false)),
       i_ 12 (.mv (T 52))])
     .ret))
def m132 : MF := ⟨53, [(.tmp 12)], c132⟩
theorem r132 : resF Tryd.prog Tryd.f132 = some m132 := by kernel_rfl
theorem k132 : Callable Tryd.prog 132 := ⟨_, Tryd.func132, by kernel_rfl, by kernel_rfl⟩

def c133 : MC :=
   (.seq
    (.ops [i_ 2 (.mv (KB false))])
    (.seq
     (.ops [i_ 6 (.raw ⟨(some 6), (.makeMap 190 none), 190, "json.go:28", ⟨[]⟩, none⟩),
       i_ 3 (.mv (T 6))])
     (.seq
      (.seq
       (.ops [i_ 7 (.mv (T 0)),
         i_ 8 (.lenV (T 7)),
         i_ 9 (.mv (KI 0))])
       (.block 0
        (.loop [(10, 24), (5, 6), (2, 3), (9, 10)]
         (.seq
          (.ops [i_ 10 (.ib .lss (T 9) (T 8))])
          (.seq
           (.cond (T 10)
            .skip
            (.exit 0))
           (.seq
            (.block 1
             (.seq
              (.ops [i_ 11 (.iaddr 1 (T 7) (T 9)),
                i_ 12 (.ld1 (T 11)),
                i_ 5 (.mv (T 12))])
              (.seq
               (.seq
                (.ops [i_ 13 (.mv (T 3)),
                  i_ 14 (.mv (T 5)),
                  i_ 15 (.raw ⟨(some 15), (.lookup 190 (T 13) (T 14) false), 4, "json.go:30", ⟨[⟨0, .data⟩, ⟨1, .data⟩]⟩, none⟩),
                  i_ 16 (.mv (T 15)),
                  ig 17 16 false (.mv (T 5)),
                  ig 18 16 false (.call 86 [(T 17)]),
                  ig 19 16 false (.not (T 18)),
                  i_ 20 (.pick (T 16) (KB true) (T 19))])
                (.cond (T 20)
                 (.seq
                  (.ops [i_ 2 (.mv (KB false))])
                  .ret)
                 .skip))
               (.ops [i_ 21 (.mv (T 3)),
                 i_ 22 (.mv (T 5)),
                 n_ (.raw ⟨none, (.mapUpdate 190 (T 21) (T 22) (KB true)), 0, "json.go:33", ⟨[⟨0, .data⟩, ⟨1, .data⟩, ⟨0, .phase⟩, ⟨1, .phase⟩]⟩, none⟩)]))))
            (.ops [i_ 23 (.ib .add (T 9) (KI 1)),
              i_ 9 (.mv (T 23))])))))))
      (.seq
       (.ops [i_ 2 (.mv (KB true))])
       .ret))))
def m133 : MF := ⟨24, [(.tmp 2)], c133⟩
theorem r133 : resF Tryd.prog Tryd.f133 = some m133 := by kernel_rfl
theorem k133 : Callable Tryd.prog 133 := ⟨_, Tryd.func133, by kernel_rfl, by kernel_rfl⟩

def c134 : MC :=
   (.seq
    (.ops [i_ 4 (.mv (KB false))])
    (.seq
     (.ops [i_ 5 (.mv (T 0)),
       i_ 6 (.mv (T 1)),
       i_ 7 (.call 171 [(T 5), (T 6)]),
       i_ 8 (.ib .geq (T 7) (KI 0)),
       i_ 4 (.mv (T 8))])
     .ret))
def m134 : MF := ⟨9, [(.tmp 4)], c134⟩
theorem r134 : resF Tryd.prog Tryd.f134 = some m134 := by kernel_rfl
theorem k134 : Callable Tryd.prog 134 := ⟨_, Tryd.func134, by kernel_rfl, by kernel_rfl⟩

def c135 : MC :=
   (.seq
    (.ops [i_ 2 (.box 77 (T 0)),
      i_ 3 (.mv (KB false))])
    (.seq
     (.ops [i_ 4 (.ldN 6 (T 2)),
       i_ 5 (.ld1 (T 1)),
       i_ 6 (.ib .sub (T 5) (KI 1)),
       i_ 7 (.call 89 [(T 4), (T 6)]),
       i_ 8 (.not (T 7)),
       i_ 3 (.mv (T 8))])
     .ret))
def m135 : MF := ⟨9, [(.tmp 3)], c135⟩
theorem r135 : resF Tryd.prog Tryd.f135 = some m135 := by kernel_rfl
theorem k135 : Callable Tryd.prog 135 := ⟨_, Tryd.func135, by kernel_rfl, by kernel_rfl⟩

def c138 : MC :=
   (.seq
    (.ops [i_ 2 (.mv (KS []))])
    (.seq
     (.ops [i_ 3 (.raw ⟨(some 3), (.alloc 99), 0, "json.go:68", ⟨[]⟩, none⟩)])
     (.seq
      (.ops [i_ 6 (.call 63 [(T 3), (KU 34)])])
      (.seq
       (.seq
        (.ops [i_ 7 (.mv (T 0)),
          i_ 8 (.lenS (T 7)),
          i_ 9 (.mv (KI 0))])
        (.block 0
         (.loop [(10, 17), (4, 6), (18, 28), (17, 18), (28, 32), (32, 36), (36, 40), (40, 56), (9, 10)]
          (.seq
           (.ops [i_ 10 (.ib .lss (T 9) (T 8))])
           (.seq
            (.cond (T 10)
             .skip
             (.exit 0))
            (.seq
             (.block 1
              (.seq
               (.ops [i_ 11 (.mv (T 9)),
                 i_ 4 (.mv (T 11))])
               (.seq
                (.ops [i_ 12 (.mv (T 0)),
                  i_ 13 (.mv (T 4)),
                  i_ 14 (.idx (T 12) (T 13)),
                  i_ 5 (.mv (T 14))])
                (.block 2
                 (.seq
                  (.ops [i_ 18 (.mv (T 5)),
                    i_ 19 (.ib .eql (T 18) (KU 34)),
                    i_ 20 (.mv (T 19)),
                    ig 21 20 false (.mv (T 5)),
                    ig 22 20 false (.ib .eql (T 21) (KU 92)),
                    i_ 23 (.pick (T 20) (KB true) (T 22)),
                    i_ 17 (.mv (T 23))])
                  (.cond (T 17)
                   (.seq
                    (.ops [i_ 24 (.call 63 [(T 3), (KU 92)])])
                    (.ops [i_ 25 (.mv (T 5)),
                      i_ 26 (.call 63 [(T 3), (T 25)])]))
                   (.seq
                    (.ops [i_ 28 (.mv (T 5)),
                      i_ 29 (.ib .eql (T 28) (KU 10)),
                      i_ 27 (.mv (T 29))])
                    (.cond (T 27)
                     (.ops [i_ 30 (.call 114 [(T 3), (KS [92, 110])])])
                     (.seq
                      (.ops [i_ 32 (.mv (T 5)),
                        i_ 33 (.ib .eql (T 32) (KU 13)),
                        i_ 31 (.mv (T 33))])
                      (.cond (T 31)
                       (.ops [i_ 34 (.call 114 [(T 3), (KS [92, 114])])])
                       (.seq
                        (.ops [i_ 36 (.mv (T 5)),
                          i_ 37 (.ib .eql (T 36) (KU 9)),
                          i_ 35 (.mv (T 37))])
                        (.cond (T 35)
                         (.ops [i_ 38 (.call 114 [(T 3), (KS [92, 116])])])
                         (.seq
                          (.ops [i_ 40 (.mv (T 5)),
                            i_ 41 (.ib .lss (T 40) (KU 32)),
                            i_ 42 (.mv (T 41)),
                            ig 43 42 false (.mv (T 5)),
                            ig 44 42 false (.ib .eql (T 43) (KU 127)),
                            i_ 45 (.pick (T 42) (KB true) (T 44)),
                            i_ 39 (.mv (T 45))])
                          (.cond (T 39)
                           (.seq
                            (.ops [i_ 46 (.call 114 [(T 3), (KS [92, 117, 48, 48])])])
                            (.seq
                             (.ops [i_ 47 (.mv (T 5)),
                               i_ 48 (.ib .shr (T 47) (.const (.int .u64 4))),
                               i_ 49 (.idx (KS [48, 49, 50, 51, 52, 53, 54, 55, 56, 57, 97, 98, 99, 100, 101, 102]) (T 48)),
                               i_ 50 (.call 63 [(T 3), (T 49)])])
                             (.ops [i_ 51 (.mv (T 5)),
                               i_ 52 (.ib .and (T 51) (KU 15)),
                               i_ 53 (.idx (KS [48, 49, 50, 51, 52, 53, 54, 55, 56, 57, 97, 98, 99, 100, 101, 102]) (T 52)),
                               i_ 54 (.call 63 [(T 3), (T 53)])])))
                           (.ops [i_ 15 (.mv (T 5)),
                             i_ 16 (.call 63 [(T 3), (T 15)])])))))))))))))))
             (.ops [i_ 55 (.ib .add (T 9) (KI 1)),
               i_ 9 (.mv (T 55))])))))))
       (.seq
        (.ops [i_ 56 (.call 63 [(T 3), (KU 34)])])
        (.seq
         (.ops [i_ 57 (.call 65 [(T 3)]),
           i_ 2 (.mv (T 57))])
         .ret))))))
def m138 : MF := ⟨58, [(.tmp 2)], c138⟩
theorem r138 : resF Tryd.prog Tryd.f138 = some m138 := by kernel_rfl
theorem k138 : Callable Tryd.prog 138 := ⟨_, Tryd.func138, by kernel_rfl, by kernel_rfl⟩

def c139 : MC :=
   (.seq
    (.ops [i_ 5 (.box 77 (T 1))])
    (.seq
     (.ops [i_ 10 (.mv (T 0)),
       i_ 11 (.nilck (T 10)),
       i_ 12 (.faddr 0 (T 11)),
       i_ 13 (.mv (T 2)),
       i_ 14 (.call 63 [(T 12), (T 13)])])
     (.seq
      (.seq
       (.ops [i_ 15 (.faddr 4 (T 5)),
         i_ 16 (.ld1 (T 15)),
         i_ 17 (.lenV (T 16)),
         i_ 18 (.mv (KI 0))])
       (.block 0
        (.loop [(19, 50), (9, 10), (8, 9), (18, 19)]
         (.seq
          (.ops [i_ 19 (.ib .lss (T 18) (T 17))])
          (.seq
           (.cond (T 19)
            .skip
            (.exit 0))
           (.seq
            (.block 1
             (.seq
              (.ops [i_ 20 (.mv (T 18)),
                i_ 21 (.iaddr 6 (T 16) (T 18)),
                i_ 22 (.ldN 6 (T 21)),
                i_ 9 (.alloc 77 [(.int .i64 0), (.bool false), (.int .i64 0), (.string ⟨⟨[]⟩⟩), (.slice none 0 0), (.slice none 0 0)]),
                i_ 8 (.mv (T 20)),
                n_ (.st 6 (T 9) (T 22))])
              (.seq
               (.seq
                (.ops [i_ 23 (.mv (T 8)),
                  i_ 24 (.ib .gtr (T 23) (KI 0))])
                (.cond (T 24)
                 (.ops [i_ 25 (.mv (T 0)),
                   i_ 26 (.nilck (T 25)),
                   i_ 27 (.faddr 0 (T 26)),
                   i_ 28 (.call 63 [(T 27), (KU 44)])])
                 .skip))
               (.seq
                (.seq
                 (.ops [i_ 29 (.faddr 0 (T 5)),
                   i_ 30 (.ld1 (T 29)),
                   i_ 31 (.ib .eql (T 30) (KI 5))])
                 (.cond (T 31)
                  (.seq
                   (.dops <|
                     .op 0 (i_ 32 (.mv (T 0))) <|
                     .op 1 (i_ 33 (.nilck (T 32))) <|
                     .op 2 (i_ 34 (.faddr 0 (T 33))) <|
                     .op 3 (i_ 35 (.faddr 5 (T 5))) <|
                     .op 4 (i_ 36 (.ld1 (T 35))) <|
                     .op 5 (i_ 37 (.mv (T 8))) <|
                     .op 6 (i_ 38 (.iaddr 1 (T 36) (T 37))) <|
                     .op 7 (i_ 39 (.ld1 (T 38))) <|
                     .op 8 (id_ 40 (.call 138 [(T 39)]) [4, 7]) <|
                     .op 9 (id_ 41 (.call 114 [(T 34), (T 40)]) [7, 4]) <|
                     .nil)
                   (.ops [i_ 42 (.mv (T 0)),
                     i_ 43 (.nilck (T 42)),
                     i_ 44 (.faddr 0 (T 43)),
                     i_ 45 (.call 63 [(T 44), (KU 58)])]))
                  .skip))
                (.ops [i_ 46 (.mv (T 0)),
                  i_ 47 (.ldN 6 (T 9)),
                  i_ 48 (.call 91 [(T 46), (T 47)])])))))
            (.ops [i_ 49 (.ib .add (T 18) (KI 1)),
              i_ 18 (.mv (T 49))])))))))
      (.ops [i_ 50 (.mv (T 0)),
        i_ 51 (.nilck (T 50)),
        i_ 52 (.faddr 0 (T 51)),
        i_ 53 (.mv (T 3)),
        i_ 54 (.call 63 [(T 52), (T 53)])]))))
def m139 : MF := ⟨55, [], c139⟩
theorem r139 : resF Tryd.prog Tryd.f139 = some m139 := by kernel_rfl
theorem k139 : Callable Tryd.prog 139 := ⟨_, Tryd.func139, by kernel_rfl, by kernel_rfl⟩

def c171 : MC :=
   (.seq
    (.ops [i_ 4 (.mv (KI 0))])
    (.seq
     (.seq
      (.ops [i_ 6 (.mv (T 0)),
        i_ 7 (.lenV (T 6)),
        i_ 8 (.mv (KI 0))])
      (.block 0
       (.loop [(9, 19), (5, 6), (4, 5), (8, 9)]
        (.seq
         (.ops [i_ 9 (.ib .lss (T 8) (T 7))])
         (.seq
          (.cond (T 9)
           .skip
           (.exit 0))
          (.seq
           (.block 1
            (.seq
             (.ops [i_ 10 (.mv (T 8)),
               i_ 5 (.mv (T 10))])
             (.seq
              (.ops [i_ 11 (.mv (T 1)),
                i_ 12 (.mv (T 0)),
                i_ 13 (.mv (T 5)),
                i_ 14 (.iaddr 6 (T 12) (T 13)),
                i_ 15 (.ldN 6 (T 14)),
                i_ 16 (.callv (T 11) [(T 15)])])
              (.cond (T 16)
               (.seq
                (.ops [i_ 17 (.mv (T 5)),
                  i_ 4 (.mv (T 17))])
                .ret)
               .skip))))
           (.ops [i_ 18 (.ib .add (T 8) (KI 1)),
             i_ 8 (.mv (T 18))])))))))
     (.seq
      (.ops [i_ 4 (.mv (KI (-1)))])
      .ret)))
def m171 : MF := ⟨19, [(.tmp 4)], c171⟩
theorem r171 : resF Tryd.prog Tryd.f171 = some m171 := by kernel_rfl
theorem k171 : Callable Tryd.prog 171 := ⟨_, Tryd.func171, by kernel_rfl, by kernel_rfl⟩

end Go.Proofs.YtkhgmmejgikgnaaDoor

/- Functions of the program, resolved: made by a program of ours; each is checked by the kernel. -/
namespace Go.Proofs.YtkhgmmejgikgnaaDoor
def c94 : MC :=
   (.seq
    (.ops [i_ 4 (.mv (KB false))])
    (.seq
     (.seq
      (.ops [i_ 6 (.mv (T 0)),
        i_ 7 (.lenV (T 6)),
        i_ 8 (.mv (T 1)),
        i_ 9 (.lenV (T 8)),
        i_ 10 (.ib .neq (T 7) (T 9))])
      (.cond (T 10)
       (.seq
        (.ops [i_ 4 (.mv (KB false))])
        .ret)
       .skip))
     (.seq
      (.seq
       (.ops [i_ 11 (.mv (T 0)),
         i_ 12 (.lenV (T 11)),
         i_ 13 (.mv (KI 0))])
       (.block 0
        (.loop [(14, 26), (5, 6), (4, 5), (13, 14)]
         (.seq
          (.ops [i_ 14 (.ib .lss (T 13) (T 12))])
          (.seq
           (.cond (T 14)
            .skip
            (.exit 0))
           (.seq
            (.block 1
             (.seq
              (.ops [i_ 15 (.mv (T 13)),
                i_ 5 (.mv (T 15))])
              (.seq
               (.dops <|
                 .op 0 (i_ 16 (.mv (T 0))) <|
                 .op 1 (i_ 17 (.mv (T 5))) <|
                 .op 2 (i_ 18 (.iaddr 1 (T 16) (T 17))) <|
                 .op 3 (i_ 19 (.ld1 (T 18))) <|
                 .op 4 (i_ 20 (.mv (T 1))) <|
                 .op 5 (i_ 21 (.mv (T 5))) <|
                 .op 6 (i_ 22 (.iaddr 1 (T 20) (T 21))) <|
                 .op 7 (i_ 23 (.ld1 (T 22))) <|
                 .op 8 (i_ 24 (.sb .neq (T 19) (T 23))) <|
                 .nil)
               (.cond (T 24)
                (.seq
                 (.ops [i_ 4 (.mv (KB false))])
                 .ret)
                .skip))))
            (.ops [i_ 25 (.ib .add (T 13) (KI 1)),
              i_ 13 (.mv (T 25))])))))))
      (.seq
       (.ops [i_ 4 (.mv (KB true))])
       .ret))))
def m94 : MF := ⟨26, [(.tmp 4)], c94⟩
theorem r94 : resF Tryd.prog Tryd.f94 = some m94 := by kernel_rfl
theorem k94 : Callable Tryd.prog 94 := ⟨_, Tryd.func94, by kernel_rfl, by kernel_rfl⟩

end Go.Proofs.YtkhgmmejgikgnaaDoor
