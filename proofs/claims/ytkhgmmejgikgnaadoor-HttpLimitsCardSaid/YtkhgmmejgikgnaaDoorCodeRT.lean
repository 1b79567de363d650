/- Functions of the program, resolved: made by a program of ours; each is checked by the kernel. -/
import Derived.Test.YtkhgmmejgikgnaaDoorPB
namespace Go.Proofs.YtkhgmmejgikgnaaDoor
def c11 : MC :=
   (.seq
    (.ops [i_ 4 (.mv (KB false))])
    (.seq
     (.ops [i_ 15 (.mv (T 0)),
       i_ 16 (.call 14 [(T 15), (KI 60)]),
       i_ 17 (.mv (T 1)),
       i_ 18 (.call 14 [(T 17), (KI 60)]),
       i_ 0 (.mv (T 16)),
       i_ 1 (.mv (T 18))])
     (.seq
      (.ops [i_ 19 (.mv (T 0)),
        i_ 20 (.call 25 [(T 19)]),
        i_ 21 (.sb .add (T 20) (KS [58])),
        i_ 22 (.mv (T 1)),
        i_ 23 (.call 25 [(T 22)]),
        i_ 24 (.sb .add (T 21) (T 23)),
        i_ 25 (.call 41 [(T 24)]),
        i_ 26 (.sb .add (KS [66, 97, 115, 105, 99, 32]) (T 25)),
        i_ 5 (.mv (T 26))])
      (.seq
       (.ops [i_ 28 (.mv (T 5)),
         i_ 29 (.call 42 [(T 28)]),
         i_ 27 (.mv (T 29)),
         i_ 30 (.ext (T 27) 0),
         i_ 31 (.ext (T 27) 1),
         i_ 32 (.ext (T 27) 2),
         i_ 6 (.mv (T 30)),
         i_ 7 (.mv (T 31)),
         i_ 8 (.mv (T 32))])
       (.seq
        (.seq
         (.ops [i_ 33 (.mv (T 8)),
           i_ 34 (.ib .neq (T 33) (KI 0)),
           i_ 35 (.mv (T 34)),
           ig 36 35 false (.mv (T 6)),
           ig 37 35 false (.mv (T 0)),
           ig 38 35 false (.sb .neq (T 36) (T 37)),
           i_ 39 (.pick (T 35) (KB true) (T 38)),
           i_ 40 (.mv (T 39)),
           ig 41 40 false (.mv (T 7)),
           ig 42 40 false (.mv (T 1)),
           ig 43 40 false (.sb .neq (T 41) (T 42)),
           i_ 44 (.pick (T 40) (KB true) (T 43))])
         (.cond (T 44)
          (.seq
           (.ops [i_ 4 (.mv (KB false))])
           .ret)
          .skip))
        (.seq
         (.ops [i_ 46 (.mv (T 5)),
           i_ 47 (.build [(.string ⟨⟨[]⟩⟩), (.string ⟨⟨[]⟩⟩)] [(0, (1, (KS [97, 117, 116, 104, 111, 114, 105, 122, 97, 116, 105, 111, 110]))), (1, (1, (T 46)))]),
           i_ 48 (.bslice 71 [(.string ⟨⟨[]⟩⟩), (.string ⟨⟨[]⟩⟩)] 1 2 [(0, (2, (T 47)))]),
           i_ 49 (.build [(.string ⟨⟨[]⟩⟩), (.string ⟨⟨[]⟩⟩), (.slice none 0 0), (.slice none 0 0), (.slice none 0 0)] [(3, (1, (T 48)))]),
           i_ 50 (.call 43 [(T 49), (.const (.slice none 0 0))]),
           i_ 45 (.mv (T 50)),
           i_ 51 (.ext (T 45) 0),
           i_ 52 (.ext (T 45) 1),
           i_ 53 (.ext (T 45) 2),
           i_ 9 (.mv (T 51)),
           i_ 10 (.mv (T 52)),
           i_ 11 (.mv (T 53))])
         (.seq
          (.ops [i_ 55 (.build [(.string ⟨⟨[]⟩⟩), (.string ⟨⟨[]⟩⟩), (.slice none 0 0), (.slice none 0 0), (.slice none 0 0)] []),
            i_ 56 (.mv (T 0)),
            i_ 57 (.build [(.string ⟨⟨[]⟩⟩), (.string ⟨⟨[]⟩⟩)] [(0, (1, (KS [99, 108, 105, 101, 110, 116, 95, 105, 100]))), (1, (1, (T 56)))]),
            i_ 58 (.mv (T 1)),
            i_ 59 (.build [(.string ⟨⟨[]⟩⟩), (.string ⟨⟨[]⟩⟩)] [(0, (1, (KS [99, 108, 105, 101, 110, 116, 95, 115, 101, 99, 114, 101, 116]))), (1, (1, (T 58)))]),
            i_ 60 (.bslice 71 [(.string ⟨⟨[]⟩⟩), (.string ⟨⟨[]⟩⟩)] 2 2 [(0, (2, (T 57))), (2, (2, (T 59)))]),
            i_ 61 (.call 43 [(T 55), (T 60)]),
            i_ 54 (.mv (T 61)),
            i_ 62 (.ext (T 54) 0),
            i_ 63 (.ext (T 54) 1),
            i_ 64 (.ext (T 54) 2),
            i_ 12 (.mv (T 62)),
            i_ 13 (.mv (T 63)),
            i_ 14 (.mv (T 64))])
          (.seq
           (.ops [i_ 65 (.mv (T 11)),
             i_ 66 (.ib .eql (T 65) (KI 0)),
             i_ 67 (.mv (T 66)),
             ig 68 67 true (.mv (T 14)),
             ig 69 67 true (.ib .eql (T 68) (KI 0)),
             i_ 70 (.pick (T 67) (T 69) (KB false)),
             i_ 71 (.mv (T 70)),
             ig 72 71 true (.mv (T 9)),
             ig 73 71 true (.mv (T 0)),
             ig 74 71 true (.sb .eql (T 72) (T 73)),
             i_ 75 (.pick (T 71) (T 74) (KB false)),
             i_ 76 (.mv (T 75)),
             ig 77 76 true (.mv (T 10)),
             ig 78 76 true (.mv (T 1)),
             ig 79 76 true (.sb .eql (T 77) (T 78)),
             i_ 80 (.pick (T 76) (T 79) (KB false)),
             i_ 81 (.mv (T 80)),
             ig 82 81 true (.mv (T 12)),
             ig 83 81 true (.mv (T 0)),
             ig 84 81 true (.sb .eql (T 82) (T 83)),
             i_ 85 (.pick (T 81) (T 84) (KB false)),
             i_ 86 (.mv (T 85)),
             ig 87 86 true (.mv (T 13)),
             ig 88 86 true (.mv (T 1)),
             ig 89 86 true (.sb .eql (T 87) (T 88)),
             i_ 90 (.pick (T 86) (T 89) (KB false)),
             i_ 91 (.mv (T 90)),
             ig 92 91 true (.call 44 []),
             i_ 93 (.pick (T 91) (T 92) (KB false)),
             i_ 4 (.mv (T 93))])
           .ret))))))))
def m11 : MF := ⟨94, [(.tmp 4)], c11⟩
theorem r11 : resF Tryd.prog Tryd.f11 = some m11 := by kernel_rfl
theorem k11 : Callable Tryd.prog 11 := ⟨_, Tryd.func11, by kernel_rfl, by kernel_rfl⟩

def c41 : MC :=
   (.seq
    (.ops [i_ 2 (.mv (KS []))])
    (.seq
     (.ops [i_ 7 (.mv (T 0)),
       i_ 8 (.s2b 5 (T 7)),
       i_ 9 (.call 77 [(T 8)]),
       i_ 3 (.mv (T 9))])
     (.seq
      (.ops [i_ 4 (.mv (.const (.slice none 0 0)))])
      (.seq
       (.seq
        (.ops [i_ 5 (.mv (KI 0))])
        (.block 0
         (.loop [(10, 16), (16, 27), (6, 7), (4, 6)]
          (.seq
           (.seq
            (.ops [i_ 10 (.mv (T 5)),
              i_ 11 (.mv (T 3)),
              i_ 12 (.lenS (T 11)),
              i_ 13 (.ib .lss (T 10) (T 12))])
            (.cond (T 13)
             .skip
             (.exit 0)))
           (.seq
            (.block 1
             (.seq
              (.ops [i_ 16 (.mv (T 3)),
                i_ 17 (.mv (T 5)),
                i_ 18 (.idx (T 16) (T 17)),
                i_ 6 (.mv (T 18))])
              (.seq
               (.seq
                (.ops [i_ 19 (.mv (T 6)),
                  i_ 20 (.ib .eql (T 19) (KU 45))])
                (.cond (T 20)
                 (.ops [i_ 6 (.mv (KU 43))])
                 .skip))
               (.seq
                (.seq
                 (.ops [i_ 21 (.mv (T 6)),
                   i_ 22 (.ib .eql (T 21) (KU 95))])
                 (.cond (T 22)
                  (.ops [i_ 6 (.mv (KU 47))])
                  .skip))
                (.ops [i_ 23 (.mv (T 4)),
                  i_ 24 (.mv (T 6)),
                  i_ 25 (.bslice 5 [(.int .u8 0)] 1 1 [(0, (1, (T 24)))]),
                  i_ 26 (.append 5 1 1 (T 23) (T 25)),
                  i_ 4 (.mv (T 26))])))))
            (.ops [i_ 14 (.mv (T 5)),
              i_ 15 (.ib .add (T 14) (KI 1)),
              i_ 5 (.mv (T 15))]))))))
       (.seq
        (.block 2
         (.loop [(27, 34), (4, 5)]
          (.seq
           (.seq
            (.ops [i_ 27 (.mv (T 4)),
              i_ 28 (.lenV (T 27)),
              i_ 29 (.ib .rem (T 28) (KI 4)),
              i_ 30 (.ib .neq (T 29) (KI 0))])
            (.cond (T 30)
             .skip
             (.exit 2)))
           (.block 3
            (.ops [i_ 31 (.mv (T 4)),
              i_ 32 (.bslice 5 [(.int .u8 0)] 1 1 [(0, (1, (KU 61)))]),
              i_ 33 (.append 5 1 1 (T 31) (T 32)),
              i_ 4 (.mv (T 33))])))))
        (.seq
         (.ops [i_ 34 (.mv (T 4)),
           i_ 35 (.b2s (T 34)),
           i_ 2 (.mv (T 35))])
         .ret))))))
def m41 : MF := ⟨36, [(.tmp 2)], c41⟩
theorem r41 : resF Tryd.prog Tryd.f41 = some m41 := by kernel_rfl
theorem k41 : Callable Tryd.prog 41 := ⟨_, Tryd.func41, by kernel_rfl, by kernel_rfl⟩

def c42 : MC :=
   (.seq
    (.ops [i_ 2 (.mv (KS [])),
      i_ 3 (.mv (KS [])),
      i_ 4 (.mv (KI 0))])
    (.seq
     (.ops [i_ 17 (.mv (T 0)),
       i_ 18 (.call 78 [(T 17), (KS [66, 97, 115, 105, 99, 32])]),
       i_ 16 (.mv (T 18)),
       i_ 19 (.ext (T 16) 0),
       i_ 20 (.ext (T 16) 1),
       i_ 5 (.mv (T 19)),
       i_ 6 (.mv (T 20))])
     (.seq
      (.ops [i_ 22 (.mv (T 5)),
        i_ 23 (.call 79 [(T 22)]),
        i_ 21 (.mv (T 23)),
        i_ 24 (.ext (T 21) 0),
        i_ 25 (.ext (T 21) 1),
        i_ 7 (.mv (T 24)),
        i_ 8 (.mv (T 25))])
      (.seq
       (.ops [i_ 27 (.mv (T 7)),
         i_ 28 (.call 54 [(T 27), (KS [58])]),
         i_ 26 (.mv (T 28)),
         i_ 29 (.ext (T 26) 0),
         i_ 30 (.ext (T 26) 1),
         i_ 31 (.ext (T 26) 2),
         i_ 9 (.mv (T 29)),
         i_ 10 (.mv (T 30)),
         i_ 11 (.mv (T 31))])
       (.seq
        (.ops [i_ 33 (.mv (T 9)),
          i_ 34 (.call 22 [(T 33), (KB false)]),
          i_ 32 (.mv (T 34)),
          i_ 35 (.ext (T 32) 0),
          i_ 36 (.ext (T 32) 1),
          i_ 12 (.mv (T 35)),
          i_ 13 (.mv (T 36))])
        (.seq
         (.ops [i_ 38 (.mv (T 10)),
           i_ 39 (.call 22 [(T 38), (KB false)]),
           i_ 37 (.mv (T 39)),
           i_ 40 (.ext (T 37) 0),
           i_ 41 (.ext (T 37) 1),
           i_ 14 (.mv (T 40)),
           i_ 15 (.mv (T 41))])
         (.seq
          (.seq
           (.ops [i_ 42 (.mv (T 6)),
             i_ 43 (.not (T 42)),
             i_ 44 (.mv (T 43)),
             ig 45 44 false (.mv (T 8)),
             ig 46 44 false (.not (T 45)),
             i_ 47 (.pick (T 44) (KB true) (T 46)),
             i_ 48 (.mv (T 47)),
             ig 49 48 false (.mv (T 11)),
             ig 50 48 false (.not (T 49)),
             i_ 51 (.pick (T 48) (KB true) (T 50)),
             i_ 52 (.mv (T 51)),
             ig 53 52 false (.mv (T 13)),
             ig 54 52 false (.ib .neq (T 53) (KI 0)),
             i_ 55 (.pick (T 52) (KB true) (T 54)),
             i_ 56 (.mv (T 55)),
             ig 57 56 false (.mv (T 15)),
             ig 58 56 false (.ib .neq (T 57) (KI 0)),
             i_ 59 (.pick (T 56) (KB true) (T 58))])
           (.cond (T 59)
            (.seq
             (.ops [i_ 2 (.mv (KS [])),
               i_ 3 (.mv (KS [])),
               i_ 4 (.mv (KI 4))])
             .ret)
            .skip))
          (.seq
           (.ops [i_ 60 (.mv (T 12)),
             i_ 61 (.mv (T 14)),
             i_ 2 (.mv (T 60)),
             i_ 3 (.mv (T 61)),
             i_ 4 (.mv (KI 0))])
           .ret))))))))
def m42 : MF := ⟨62, [(.tmp 2), (.tmp 3), (.tmp 4)], c42⟩
theorem r42 : resF Tryd.prog Tryd.f42 = some m42 := by kernel_rfl
theorem k42 : Callable Tryd.prog 42 := ⟨_, Tryd.func42, by kernel_rfl, by kernel_rfl⟩

def c43 : MC :=
   (.seq
    (.ops [i_ 2 (.box 35 (T 0)),
      i_ 4 (.mv (KS [])),
      i_ 5 (.mv (KS [])),
      i_ 6 (.mv (KI 0))])
    (.seq
     (.ops [i_ 14 (.mv (T 1)),
       i_ 15 (.call 80 [(T 14), (KS [99, 108, 105, 101, 110, 116, 95, 105, 100])]),
       i_ 16 (.mv (T 1)),
       i_ 17 (.call 80 [(T 16), (KS [99, 108, 105, 101, 110, 116, 95, 115, 101, 99, 114, 101, 116])]),
       i_ 7 (.mv (T 15)),
       i_ 8 (.mv (T 17))])
     (.seq
      (.seq
       (.ops [i_ 19 (.ldN 5 (T 2)),
         i_ 20 (.call 81 [(T 19), (KS [97, 117, 116, 104, 111, 114, 105, 122, 97, 116, 105, 111, 110])]),
         i_ 18 (.mv (T 20)),
         i_ 21 (.ext (T 18) 0),
         i_ 22 (.ext (T 18) 1),
         i_ 9 (.mv (T 21)),
         i_ 10 (.mv (T 22))])
       (.seq
        (.ops [i_ 23 (.mv (T 10)),
          i_ 24 (.mv (T 23)),
          ig 25 24 true (.mv (T 9)),
          ig 26 24 true (.call 82 [(T 25), (KS [66, 97, 115, 105, 99, 32])]),
          i_ 27 (.pick (T 24) (T 26) (KB false))])
        (.cond (T 27)
         (.seq
          (.ops [i_ 29 (.mv (T 9)),
            i_ 30 (.call 42 [(T 29)]),
            i_ 28 (.mv (T 30)),
            i_ 31 (.ext (T 28) 0),
            i_ 32 (.ext (T 28) 1),
            i_ 33 (.ext (T 28) 2),
            i_ 11 (.alloc 9 [(.string ⟨⟨[]⟩⟩)]),
            n_ (.st 1 (T 11) (T 31)),
            i_ 12 (.mv (T 32)),
            i_ 13 (.mv (T 33))])
          (.seq
           (.block 0
            (.seq
             (.ops [i_ 35 (.mv (T 13)),
               i_ 36 (.ib .neq (T 35) (KI 0)),
               i_ 34 (.mv (T 36))])
             (.cond (T 34)
              (.seq
               (.ops [i_ 37 (.mv (T 13)),
                 i_ 4 (.mv (KS [])),
                 i_ 5 (.mv (KS [])),
                 i_ 6 (.mv (T 37))])
               .ret)
              (.seq
               (.ops [i_ 39 (.mv (T 8)),
                 i_ 40 (.lenV (T 39)),
                 i_ 41 (.ib .gtr (T 40) (KI 0)),
                 i_ 42 (.mv (T 41)),
                 ig 43 42 false (.mv (T 7)),
                 ig 44 42 false (.mkfn 84 [(T 11)]),
                 ig 45 42 false (.call 83 [(T 43), (T 44)]),
                 i_ 46 (.pick (T 42) (KB true) (T 45)),
                 i_ 38 (.mv (T 46))])
               (.cond (T 38)
                (.seq
                 (.ops [i_ 4 (.mv (KS [])),
                   i_ 5 (.mv (KS [])),
                   i_ 6 (.mv (KI 21))])
                 .ret)
                .skip)))))
           (.seq
            (.ops [i_ 47 (.ld1 (T 11)),
              i_ 48 (.mv (T 12)),
              i_ 4 (.mv (T 47)),
              i_ 5 (.mv (T 48)),
              i_ 6 (.mv (KI 0))])
            .ret)))
         .skip)))
      (.seq
       (.seq
        (.ops [i_ 49 (.mv (T 7)),
          i_ 50 (.lenV (T 49)),
          i_ 51 (.ib .neq (T 50) (KI 1)),
          i_ 52 (.mv (T 51)),
          ig 53 52 false (.mv (T 8)),
          ig 54 52 false (.lenV (T 53)),
          ig 55 52 false (.ib .gtr (T 54) (KI 1)),
          i_ 56 (.pick (T 52) (KB true) (T 55))])
        (.cond (T 56)
         (.seq
          (.ops [i_ 4 (.mv (KS [])),
            i_ 5 (.mv (KS [])),
            i_ 6 (.mv (KI 21))])
          .ret)
         .skip))
       (.seq
        (.dops <|
          .op 0 (i_ 57 (.mv (T 7))) <|
          .op 1 (i_ 58 (.iaddr 1 (T 57) (KI 0))) <|
          .op 2 (i_ 59 (.ld1 (T 58))) <|
          .op 3 (i_ 60 (.mv (T 8))) <|
          .op 4 (i_ 61 (.call 72 [(T 60), (KS [])])) <|
          .op 5 (i_ 4 (.mv (T 59))) <|
          .op 6 (i_ 5 (.mv (T 61))) <|
          .op 7 (i_ 6 (.mv (KI 0))) <|
          .nil)
        .ret)))))
def m43 : MF := ⟨62, [(.tmp 4), (.tmp 5), (.tmp 6)], c43⟩
theorem r43 : resF Tryd.prog Tryd.f43 = some m43 := by kernel_rfl
theorem k43 : Callable Tryd.prog 43 := ⟨_, Tryd.func43, by kernel_rfl, by kernel_rfl⟩

def c44 : MC :=
   (.seq
    (.ops [i_ 0 (.mv (KB false))])
    (.seq
     (.ops [i_ 4 (.call 85 [(KS [80, 79, 83, 84]), (KS [47, 116, 111, 107, 101, 110])]),
       i_ 3 (.mv (T 4)),
       i_ 5 (.ext (T 3) 0),
       i_ 6 (.ext (T 3) 1),
       i_ 1 (.mv (T 5)),
       i_ 2 (.mv (T 6))])
     (.seq
      (.ops [i_ 7 (.mv (T 2)),
        i_ 8 (.ib .eql (T 7) (KI 0)),
        i_ 9 (.mv (T 8)),
        ig 10 9 true (.mv (T 1)),
        ig 11 9 true (.ib .eql (T 10) (KI 2)),
        i_ 12 (.pick (T 9) (T 11) (KB false)),
        i_ 0 (.mv (T 12))])
      .ret)))
def m44 : MF := ⟨13, [(.tmp 0)], c44⟩
theorem r44 : resF Tryd.prog Tryd.f44 = some m44 := by kernel_rfl
theorem k44 : Callable Tryd.prog 44 := ⟨_, Tryd.func44, by kernel_rfl, by kernel_rfl⟩

def c77 : MC :=
   (.seq
    (.ops [i_ 2 (.mv (KS []))])
    (.seq
     (.ops [i_ 3 (.mv (KS []))])
     (.seq
      (.block 0
       (.loop [(7, 47), (4, 5), (3, 4), (0, 1)]
        (.seq
         (.seq
          (.ops [i_ 7 (.mv (T 0)),
            i_ 8 (.lenV (T 7)),
            i_ 9 (.ib .geq (T 8) (KI 3))])
          (.cond (T 9)
           .skip
           (.exit 0)))
         (.block 1
          (.seq
           (.dops <|
             .op 0 (i_ 10 (.mv (T 0))) <|
             .op 1 (i_ 11 (.iaddr 1 (T 10) (KI 0))) <|
             .op 2 (i_ 12 (.ld1 (T 11))) <|
             .op 3 (i_ 13 (.conv .i64 (T 12))) <|
             .op 4 (i_ 14 (.ib .mul (T 13) (KI 65536))) <|
             .op 5 (i_ 15 (.mv (T 0))) <|
             .op 6 (i_ 16 (.iaddr 1 (T 15) (KI 1))) <|
             .op 7 (i_ 17 (.ld1 (T 16))) <|
             .op 8 (i_ 18 (.conv .i64 (T 17))) <|
             .op 9 (i_ 19 (.ib .mul (T 18) (KI 256))) <|
             .op 10 (i_ 20 (.ib .add (T 14) (T 19))) <|
             .op 11 (i_ 21 (.mv (T 0))) <|
             .op 12 (i_ 22 (.iaddr 1 (T 21) (KI 2))) <|
             .op 13 (i_ 23 (.ld1 (T 22))) <|
             .op 14 (i_ 24 (.conv .i64 (T 23))) <|
             .op 15 (i_ 25 (.ib .add (T 20) (T 24))) <|
             .op 16 (i_ 4 (.mv (T 25))) <|
             .nil)
           (.seq
            (.ops [i_ 26 (.mv (T 3)),
              i_ 27 (.mv (T 4)),
              i_ 28 (.ib .quo (T 27) (KI 262144)),
              i_ 29 (.call 116 [(T 28)]),
              i_ 30 (.sb .add (T 26) (T 29)),
              i_ 31 (.mv (T 4)),
              i_ 32 (.ib .quo (T 31) (KI 4096)),
              i_ 33 (.ib .rem (T 32) (KI 64)),
              i_ 34 (.call 116 [(T 33)]),
              i_ 35 (.sb .add (T 30) (T 34)),
              i_ 36 (.mv (T 4)),
              i_ 37 (.ib .quo (T 36) (KI 64)),
              i_ 38 (.ib .rem (T 37) (KI 64)),
              i_ 39 (.call 116 [(T 38)]),
              i_ 40 (.sb .add (T 35) (T 39)),
              i_ 41 (.mv (T 4)),
              i_ 42 (.ib .rem (T 41) (KI 64)),
              i_ 43 (.call 116 [(T 42)]),
              i_ 44 (.sb .add (T 40) (T 43)),
              i_ 3 (.mv (T 44))])
            (.ops [i_ 45 (.mv (T 0)),
              i_ 46 (.slV 1 (T 45) (some (KI 3)) none),
              i_ 0 (.mv (T 46))])))))))
      (.seq
       (.seq
        (.ops [i_ 47 (.mv (T 0)),
          i_ 48 (.lenV (T 47)),
          i_ 49 (.ib .eql (T 48) (KI 1))])
        (.cond (T 49)
         (.seq
          (.ops [i_ 50 (.mv (T 0)),
            i_ 51 (.iaddr 1 (T 50) (KI 0)),
            i_ 52 (.ld1 (T 51)),
            i_ 53 (.conv .i64 (T 52)),
            i_ 54 (.ib .mul (T 53) (KI 16)),
            i_ 5 (.mv (T 54))])
          (.ops [i_ 55 (.mv (T 3)),
            i_ 56 (.mv (T 5)),
            i_ 57 (.ib .quo (T 56) (KI 64)),
            i_ 58 (.call 116 [(T 57)]),
            i_ 59 (.sb .add (T 55) (T 58)),
            i_ 60 (.mv (T 5)),
            i_ 61 (.ib .rem (T 60) (KI 64)),
            i_ 62 (.call 116 [(T 61)]),
            i_ 63 (.sb .add (T 59) (T 62)),
            i_ 3 (.mv (T 63))]))
         .skip))
       (.seq
        (.seq
         (.ops [i_ 64 (.mv (T 0)),
           i_ 65 (.lenV (T 64)),
           i_ 66 (.ib .eql (T 65) (KI 2))])
         (.cond (T 66)
          (.seq
           (.dops <|
             .op 0 (i_ 67 (.mv (T 0))) <|
             .op 1 (i_ 68 (.iaddr 1 (T 67) (KI 0))) <|
             .op 2 (i_ 69 (.ld1 (T 68))) <|
             .op 3 (i_ 70 (.conv .i64 (T 69))) <|
             .op 4 (i_ 71 (.ib .mul (T 70) (KI 1024))) <|
             .op 5 (i_ 72 (.mv (T 0))) <|
             .op 6 (i_ 73 (.iaddr 1 (T 72) (KI 1))) <|
             .op 7 (i_ 74 (.ld1 (T 73))) <|
             .op 8 (i_ 75 (.conv .i64 (T 74))) <|
             .op 9 (i_ 76 (.ib .mul (T 75) (KI 4))) <|
             .op 10 (i_ 77 (.ib .add (T 71) (T 76))) <|
             .op 11 (i_ 6 (.mv (T 77))) <|
             .nil)
           (.ops [i_ 78 (.mv (T 3)),
             i_ 79 (.mv (T 6)),
             i_ 80 (.ib .quo (T 79) (KI 4096)),
             i_ 81 (.call 116 [(T 80)]),
             i_ 82 (.sb .add (T 78) (T 81)),
             i_ 83 (.mv (T 6)),
             i_ 84 (.ib .quo (T 83) (KI 64)),
             i_ 85 (.ib .rem (T 84) (KI 64)),
             i_ 86 (.call 116 [(T 85)]),
             i_ 87 (.sb .add (T 82) (T 86)),
             i_ 88 (.mv (T 6)),
             i_ 89 (.ib .rem (T 88) (KI 64)),
             i_ 90 (.call 116 [(T 89)]),
             i_ 91 (.sb .add (T 87) (T 90)),
             i_ 3 (.mv (T 91))]))
          .skip))
        (.seq
         (.ops [i_ 92 (.mv (T 3)),
           i_ 2 (.mv (T 92))])
         .ret))))))
def m77 : MF := ⟨93, [(.tmp 2)], c77⟩
theorem r77 : resF Tryd.prog Tryd.f77 = some m77 := by kernel_rfl
theorem k77 : Callable Tryd.prog 77 := ⟨_, Tryd.func77, by kernel_rfl, by kernel_rfl⟩

def c79 : MC :=
   (.seq
    (.ops [i_ 2 (.mv (KS [])),
      i_ 3 (.mv (KB false))])
    (.seq
     (.ops [i_ 7 (.mv (T 0)),
       i_ 8 (.call 118 [(T 7), (KS [61])]),
       i_ 4 (.mv (T 8))])
     (.seq
      (.seq
       (.ops [i_ 9 (.mv (T 0)),
         i_ 10 (.lenS (T 9)),
         i_ 11 (.ib .rem (T 10) (KI 4)),
         i_ 12 (.ib .neq (T 11) (KI 0)),
         i_ 13 (.mv (T 12)),
         ig 14 13 false (.mv (T 0)),
         ig 15 13 false (.lenS (T 14)),
         ig 16 13 false (.mv (T 4)),
         ig 17 13 false (.lenS (T 16)),
         ig 18 13 false (.ib .sub (T 15) (T 17)),
         ig 19 13 false (.ib .gtr (T 18) (KI 2)),
         i_ 20 (.pick (T 13) (KB true) (T 19))])
       (.cond (T 20)
        (.seq
         (.ops [i_ 2 (.mv (KS [])),
           i_ 3 (.mv (KB false))])
         .ret)
        .skip))
      (.seq
       (.ops [i_ 22 (.mv (T 4)),
         i_ 23 (.call 120 [(FN 121), (T 22)]),
         i_ 24 (.call 119 [(T 23)]),
         i_ 21 (.mv (T 24)),
         i_ 25 (.ext (T 21) 0),
         i_ 26 (.ext (T 21) 1),
         i_ 5 (.mv (T 25)),
         i_ 6 (.mv (T 26))])
       (.seq
        (.ops [i_ 27 (.mv (T 5)),
          i_ 28 (.b2s (T 27)),
          i_ 29 (.mv (T 6)),
          i_ 30 (.ib .eql (T 29) (KI 0)),
          i_ 2 (.mv (T 28)),
          i_ 3 (.mv (T 30))])
        .ret)))))
def m79 : MF := ⟨31, [(.tmp 2), (.tmp 3)], c79⟩
theorem r79 : resF Tryd.prog Tryd.f79 = some m79 := by kernel_rfl
theorem k79 : Callable Tryd.prog 79 := ⟨_, Tryd.func79, by kernel_rfl, by kernel_rfl⟩

def c80 : MC :=
   (.seq
    (.ops [i_ 4 (.mv (.const (.slice none 0 0)))])
    (.seq
     (.ops [i_ 5 (.mv (.const (.slice none 0 0)))])
     (.seq
      (.seq
       (.ops [i_ 8 (.mv (T 0)),
         i_ 9 (.lenV (T 8)),
         i_ 10 (.mv (KI 0))])
       (.block 0
        (.loop [(11, 24), (7, 8), (5, 6), (10, 11)]
         (.seq
          (.ops [i_ 11 (.ib .lss (T 10) (T 9))])
          (.seq
           (.cond (T 11)
            .skip
            (.exit 0))
           (.seq
            (.block 1
             (.seq
              (.ops [i_ 12 (.iaddr 2 (T 8) (T 10)),
                i_ 13 (.ldN 2 (T 12)),
                i_ 7 (.alloc 71 [(.string ⟨⟨[]⟩⟩), (.string ⟨⟨[]⟩⟩)]),
                n_ (.st 2 (T 7) (T 13))])
              (.seq
               (.ops [i_ 14 (.faddr 0 (T 7)),
                 i_ 15 (.ld1 (T 14)),
                 i_ 16 (.mv (T 1)),
                 i_ 17 (.sb .eql (T 15) (T 16))])
               (.cond (T 17)
                (.ops [i_ 18 (.mv (T 5)),
                  i_ 19 (.faddr 1 (T 7)),
                  i_ 20 (.ld1 (T 19)),
                  i_ 21 (.bslice 9 [(.string ⟨⟨[]⟩⟩)] 1 1 [(0, (1, (T 20)))]),
                  i_ 22 (.append 9 1 16 (T 18) (T 21)),
                  i_ 5 (.mv (T 22))])
                .skip))))
            (.ops [i_ 23 (.ib .add (T 10) (KI 1)),
              i_ 10 (.mv (T 23))])))))))
      (.seq
       (.ops [i_ 24 (.mv (T 5)),
         i_ 4 (.mv (T 24))])
       .ret))))
def m80 : MF := ⟨25, [(.tmp 4)], c80⟩
theorem r80 : resF Tryd.prog Tryd.f80 = some m80 := by kernel_rfl
theorem k80 : Callable Tryd.prog 80 := ⟨_, Tryd.func80, by kernel_rfl, by kernel_rfl⟩

def c81 : MC :=
   (.seq
    (.ops [i_ 2 (.box 35 (T 0)),
      i_ 4 (.mv (KS [])),
      i_ 5 (.mv (KB false))])
    (.seq
     (.ops [i_ 6 (.mv (KS []))])
     (.seq
      (.seq
       (.ops [i_ 9 (.faddr 3 (T 2)),
         i_ 10 (.ld1 (T 9)),
         i_ 11 (.lenV (T 10)),
         i_ 12 (.mv (KI 0))])
       (.block 0
        (.loop [(13, 23), (8, 9), (6, 7), (12, 13)]
         (.seq
          (.ops [i_ 13 (.ib .lss (T 12) (T 11))])
          (.seq
           (.cond (T 13)
            .skip
            (.exit 0))
           (.seq
            (.block 1
             (.seq
              (.ops [i_ 14 (.iaddr 2 (T 10) (T 12)),
                i_ 15 (.ldN 2 (T 14)),
                i_ 8 (.alloc 71 [(.string ⟨⟨[]⟩⟩), (.string ⟨⟨[]⟩⟩)]),
                n_ (.st 2 (T 8) (T 15))])
              (.seq
               (.ops [i_ 16 (.faddr 0 (T 8)),
                 i_ 17 (.ld1 (T 16)),
                 i_ 18 (.mv (T 1)),
                 i_ 19 (.sb .eql (T 17) (T 18))])
               (.cond (T 19)
                (.ops [i_ 20 (.faddr 1 (T 8)),
                  i_ 21 (.ld1 (T 20)),
                  i_ 6 (.mv (T 21))])
                .skip))))
            (.ops [i_ 22 (.ib .add (T 12) (KI 1)),
              i_ 12 (.mv (T 22))])))))))
      (.seq
       (.seq
        (.ops [i_ 23 (.mv (T 1)),
          i_ 24 (.call 106 [(T 2), (T 23)]),
          i_ 25 (.ib .neq (T 24) (KI 1))])
        (.cond (T 25)
         (.seq
          (.ops [i_ 4 (.mv (KS [])),
            i_ 5 (.mv (KB false))])
          .ret)
         .skip))
       (.seq
        (.ops [i_ 26 (.mv (T 6)),
          i_ 4 (.mv (T 26)),
          i_ 5 (.mv (KB true))])
        .ret)))))
def m81 : MF := ⟨27, [(.tmp 4), (.tmp 5)], c81⟩
theorem r81 : resF Tryd.prog Tryd.f81 = some m81 := by kernel_rfl
theorem k81 : Callable Tryd.prog 81 := ⟨_, Tryd.func81, by kernel_rfl, by kernel_rfl⟩

def c83 : MC :=
   (.seq
    (.ops [i_ 4 (.mv (KB false))])
    (.seq
     (.ops [i_ 5 (.mv (T 0)),
       i_ 6 (.mv (T 1)),
       i_ 7 (.call 123 [(T 5), (T 6)]),
       i_ 8 (.ib .geq (T 7) (KI 0)),
       i_ 4 (.mv (T 8))])
     .ret))
def m83 : MF := ⟨9, [(.tmp 4)], c83⟩
theorem r83 : resF Tryd.prog Tryd.f83 = some m83 := by kernel_rfl
theorem k83 : Callable Tryd.prog 83 := ⟨_, Tryd.func83, by kernel_rfl, by kernel_rfl⟩

def c84 : MC :=
   (.seq
    (.ops [i_ 3 (.mv (KB false))])
    (.seq
     (.ops [i_ 4 (.mv (T 0)),
       i_ 5 (.ld1 (T 1)),
       i_ 6 (.sb .neq (T 4) (T 5)),
       i_ 3 (.mv (T 6))])
     .ret))
def m84 : MF := ⟨7, [(.tmp 3)], c84⟩
theorem r84 : resF Tryd.prog Tryd.f84 = some m84 := by kernel_rfl
theorem k84 : Callable Tryd.prog 84 := ⟨_, Tryd.func84, by kernel_rfl, by kernel_rfl⟩

def c85 : MC :=
   (.seq
    (.ops [i_ 4 (.mv (KI 0)),
      i_ 5 (.mv (KI 0))])
    (.seq
     (.ops [i_ 7 (.mv (T 1)),
       i_ 8 (.call 124 [(T 7)]),
       i_ 6 (.alloc 154 [(.int .i64 0), (.int .i64 0)]),
       n_ (.st 2 (T 6) (T 8))])
     (.seq
      (.block 0
       (.seq
        (.ops [i_ 10 (.ldN 2 (T 6)),
          i_ 11 (.build [(.int .i64 0), (.int .i64 0)] []),
          i_ 12 (.eqA false 154 [154] [1, 1] (T 10) (T 11)),
          i_ 9 (.mv (T 12))])
        (.cond (T 9)
         (.seq
          (.ops [i_ 4 (.mv (KI 0)),
            i_ 5 (.mv (KI 24))])
          .ret)
         (.seq
          (.ops [i_ 14 (.mv (T 0)),
            i_ 15 (.sb .eql (T 14) (KS [80, 79, 83, 84])),
            i_ 16 (.mv (T 15)),
            ig 17 16 true (.faddr 0 (T 6)),
            ig 18 16 true (.ld1 (T 17)),
            ig 19 16 true (.ib .gtr (T 18) (KI 0)),
            i_ 20 (.pick (T 16) (T 19) (KB false)),
            i_ 13 (.mv (T 20))])
          (.cond (T 13)
           (.seq
            (.ops [i_ 21 (.faddr 0 (T 6)),
              i_ 22 (.ld1 (T 21)),
              i_ 4 (.mv (T 22)),
              i_ 5 (.mv (KI 0))])
            .ret)
           (.seq
            (.ops [i_ 24 (.mv (T 0)),
              i_ 25 (.sb .eql (T 24) (KS [71, 69, 84])),
              i_ 26 (.mv (T 25)),
              ig 27 26 true (.faddr 1 (T 6)),
              ig 28 26 true (.ld1 (T 27)),
              ig 29 26 true (.ib .gtr (T 28) (KI 0)),
              i_ 30 (.pick (T 26) (T 29) (KB false)),
              i_ 23 (.mv (T 30))])
            (.cond (T 23)
             (.seq
              (.ops [i_ 31 (.faddr 1 (T 6)),
                i_ 32 (.ld1 (T 31)),
                i_ 4 (.mv (T 32)),
                i_ 5 (.mv (KI 0))])
              .ret)
             .skip)))))))
      (.seq
       (.ops [i_ 4 (.mv (KI 0)),
         i_ 5 (.mv (KI 23))])
       .ret))))
def m85 : MF := ⟨33, [(.tmp 4), (.tmp 5)], c85⟩
theorem r85 : resF Tryd.prog Tryd.f85 = some m85 := by kernel_rfl
theorem k85 : Callable Tryd.prog 85 := ⟨_, Tryd.func85, by kernel_rfl, by kernel_rfl⟩

def c106 : MC :=
   (.seq
    (.ops [i_ 4 (.mv (KI 0))])
    (.seq
     (.ops [i_ 5 (.mv (KI 0))])
     (.seq
      (.seq
       (.ops [i_ 8 (.mv (T 0)),
         i_ 9 (.nilck (T 8)),
         i_ 10 (.faddr 3 (T 9)),
         i_ 11 (.ld1 (T 10)),
         i_ 12 (.lenV (T 11)),
         i_ 13 (.mv (KI 0))])
       (.block 0
        (.loop [(14, 24), (7, 8), (5, 6), (13, 14)]
         (.seq
          (.ops [i_ 14 (.ib .lss (T 13) (T 12))])
          (.seq
           (.cond (T 14)
            .skip
            (.exit 0))
           (.seq
            (.block 1
             (.seq
              (.ops [i_ 15 (.iaddr 2 (T 11) (T 13)),
                i_ 16 (.ldN 2 (T 15)),
                i_ 7 (.alloc 71 [(.string ⟨⟨[]⟩⟩), (.string ⟨⟨[]⟩⟩)]),
                n_ (.st 2 (T 7) (T 16))])
              (.seq
               (.ops [i_ 17 (.faddr 0 (T 7)),
                 i_ 18 (.ld1 (T 17)),
                 i_ 19 (.mv (T 1)),
                 i_ 20 (.sb .eql (T 18) (T 19))])
               (.cond (T 20)
                (.ops [i_ 21 (.mv (T 5)),
                  i_ 22 (.ib .add (T 21) (KI 1)),
                  i_ 5 (.mv (T 22))])
                .skip))))
            (.ops [i_ 23 (.ib .add (T 13) (KI 1)),
              i_ 13 (.mv (T 23))])))))))
      (.seq
       (.ops [i_ 24 (.mv (T 5)),
         i_ 4 (.mv (T 24))])
       .ret))))
def m106 : MF := ⟨25, [(.tmp 4)], c106⟩
theorem r106 : resF Tryd.prog Tryd.f106 = some m106 := by kernel_rfl
theorem k106 : Callable Tryd.prog 106 := ⟨_, Tryd.func106, by kernel_rfl, by kernel_rfl⟩

def c116 : MC :=
   (.seq
    (.ops [i_ 2 (.mv (KS []))])
    (.seq
     (.ops [i_ 3 (.mv (T 0)),
       i_ 4 (.mv (T 0)),
       i_ 5 (.ib .add (T 4) (KI 1)),
       i_ 6 (.slS (KS [65, 66, 67, 68, 69, 70, 71, 72, 73, 74, 75, 76, 77, 78, 79, 80, 81, 82, 83, 84, 85, 86, 87, 88, 89, 90, 97, 98, 99, 100, 101, 102, 103, 104, 105, 106, 107, 108, 109, 110, 111, 112, 113, 114, 115, 116, 117, 118, 119, 120, 121, 122, 48, 49, 50, 51, 52, 53, 54, 55, 56, 57, 45, 95]) (some (T 3)) (some (T 5))),
       i_ 2 (.mv (T 6))])
     .ret))
def m116 : MF := ⟨7, [(.tmp 2)], c116⟩
theorem r116 : resF Tryd.prog Tryd.f116 = some m116 := by kernel_rfl
theorem k116 : Callable Tryd.prog 116 := ⟨_, Tryd.func116, by kernel_rfl, by kernel_rfl⟩

def c119 : MC :=
   (.seq
    (.ops [i_ 2 (.mv (.const (.slice none 0 0))),
      i_ 3 (.mv (KI 0))])
    (.seq
     (.ops [i_ 4 (.mv (.const (.slice none 0 0)))])
     (.seq
      (.ops [i_ 5 (.mv (.const (.int .u64 0))),
        i_ 6 (.mv (KI 0))])
      (.seq
       (.seq
        (.ops [i_ 9 (.mv (T 0)),
          i_ 10 (.lenS (T 9)),
          i_ 11 (.mv (KI 0))])
        (.block 0
         (.loop [(12, 39), (7, 9), (2, 5), (5, 7), (11, 12)]
          (.seq
           (.ops [i_ 12 (.ib .lss (T 11) (T 10))])
           (.seq
            (.cond (T 12)
             .skip
             (.exit 0))
            (.seq
             (.block 1
              (.seq
               (.ops [i_ 13 (.mv (T 11)),
                 i_ 7 (.mv (T 13))])
               (.seq
                (.ops [i_ 14 (.mv (T 0)),
                  i_ 15 (.mv (T 7)),
                  i_ 16 (.idx (T 14) (T 15)),
                  i_ 17 (.call 110 [(KS [65, 66, 67, 68, 69, 70, 71, 72, 73, 74, 75, 76, 77, 78, 79, 80, 81, 82, 83, 84, 85, 86, 87, 88, 89, 90, 97, 98, 99, 100, 101, 102, 103, 104, 105, 106, 107, 108, 109, 110, 111, 112, 113, 114, 115, 116, 117, 118, 119, 120, 121, 122, 48, 49, 50, 51, 52, 53, 54, 55, 56, 57, 45, 95]), (T 16)]),
                  i_ 8 (.mv (T 17))])
                (.seq
                 (.seq
                  (.ops [i_ 18 (.mv (T 8)),
                    i_ 19 (.ib .lss (T 18) (KI 0))])
                  (.cond (T 19)
                   (.seq
                    (.ops [i_ 2 (.mv (.const (.slice none 0 0))),
                      i_ 3 (.mv (KI 4))])
                    .ret)
                   .skip))
                 (.seq
                  (.ops [i_ 20 (.mv (T 5)),
                    i_ 21 (.ib .shl (T 20) (.const (.int .u64 6))),
                    i_ 22 (.mv (T 8)),
                    i_ 23 (.conv .u64 (T 22)),
                    i_ 24 (.ib .or (T 21) (T 23)),
                    i_ 5 (.mv (T 24))])
                  (.seq
                   (.ops [i_ 25 (.mv (T 6)),
                     i_ 26 (.ib .add (T 25) (KI 6)),
                     i_ 6 (.mv (T 26))])
                   (.seq
                    (.ops [i_ 27 (.mv (T 6)),
                      i_ 28 (.ib .geq (T 27) (KI 8))])
                    (.cond (T 28)
                     (.seq
                      (.ops [i_ 29 (.mv (T 6)),
                        i_ 30 (.ib .sub (T 29) (KI 8)),
                        i_ 6 (.mv (T 30))])
                      (.ops [i_ 31 (.mv (T 4)),
                        i_ 32 (.mv (T 5)),
                        i_ 33 (.mv (T 6)),
                        i_ 34 (.ib .shr (T 32) (T 33)),
                        i_ 35 (.conv .u8 (T 34)),
                        i_ 36 (.bslice 5 [(.int .u8 0)] 1 1 [(0, (1, (T 35)))]),
                        i_ 37 (.append 5 1 1 (T 31) (T 36)),
                        i_ 4 (.mv (T 37))]))
                     .skip))))))))
             (.ops [i_ 38 (.ib .add (T 11) (KI 1)),
               i_ 11 (.mv (T 38))])))))))
       (.seq
        (.seq
         (.ops [i_ 39 (.mv (T 6)),
           i_ 40 (.ib .geq (T 39) (KI 6)),
           i_ 41 (.mv (T 40)),
           ig 42 41 false (.mv (T 5)),
           ig 43 41 false (.mv (T 6)),
           ig 44 41 false (.ib .shl (.const (.int .u64 1)) (T 43)),
           ig 45 41 false (.ib .sub (T 44) (.const (.int .u64 1))),
           ig 46 41 false (.ib .and (T 42) (T 45)),
           ig 47 41 false (.ib .neq (T 46) (.const (.int .u64 0))),
           i_ 48 (.pick (T 41) (KB true) (T 47))])
         (.cond (T 48)
          (.seq
           (.ops [i_ 2 (.mv (.const (.slice none 0 0))),
             i_ 3 (.mv (KI 4))])
           .ret)
          .skip))
        (.seq
         (.ops [i_ 49 (.mv (T 4)),
           i_ 2 (.mv (T 49)),
           i_ 3 (.mv (KI 0))])
         .ret))))))
def m119 : MF := ⟨50, [(.tmp 2), (.tmp 3)], c119⟩
theorem r119 : resF Tryd.prog Tryd.f119 = some m119 := by kernel_rfl
theorem k119 : Callable Tryd.prog 119 := ⟨_, Tryd.func119, by kernel_rfl, by kernel_rfl⟩

def c124 : MC :=
   (.seq
    (.ops [i_ 2 (.alloc 154 [(.int .i64 0), (.int .i64 0)])])
    (.seq
     (.seq
      (.ops [i_ 3 (.mv (T 0))])
      (.block 0
       (.seq
        (.ops [i_ 5 (.sb .eql (T 3) (KS [47, 97, 117, 116, 104, 111, 114, 105, 122, 101])),
          i_ 4 (.mv (T 5))])
        (.cond (T 4)
         (.seq
          (.ops [i_ 6 (.build [(.int .i64 0), (.int .i64 0)] [(0, (1, (KI 1)))]),
            n_ (.st 2 (T 2) (T 6))])
          .ret)
         (.seq
          (.ops [i_ 8 (.sb .eql (T 3) (KS [47, 116, 111, 107, 101, 110])),
            i_ 7 (.mv (T 8))])
          (.cond (T 7)
           (.seq
            (.ops [i_ 9 (.build [(.int .i64 0), (.int .i64 0)] [(0, (1, (KI 2)))]),
              n_ (.st 2 (T 2) (T 9))])
            .ret)
           (.seq
            (.ops [i_ 11 (.sb .eql (T 3) (KS [47, 105, 110, 116, 114, 111, 115, 112, 101, 99, 116])),
              i_ 10 (.mv (T 11))])
            (.cond (T 10)
             (.seq
              (.ops [i_ 12 (.build [(.int .i64 0), (.int .i64 0)] [(0, (1, (KI 3)))]),
                n_ (.st 2 (T 2) (T 12))])
              .ret)
             (.seq
              (.ops [i_ 14 (.sb .eql (T 3) (KS [47, 114, 101, 118, 111, 107, 101])),
                i_ 13 (.mv (T 14))])
              (.cond (T 13)
               (.seq
                (.ops [i_ 15 (.build [(.int .i64 0), (.int .i64 0)] [(0, (1, (KI 4)))]),
                  n_ (.st 2 (T 2) (T 15))])
                .ret)
               (.seq
                (.ops [i_ 17 (.sb .eql (T 3) (KS [47, 99, 111, 110, 115, 101, 110, 116])),
                  i_ 16 (.mv (T 17))])
                (.cond (T 16)
                 (.seq
                  (.ops [i_ 18 (.build [(.int .i64 0), (.int .i64 0)] [(0, (1, (KI 5)))]),
                    n_ (.st 2 (T 2) (T 18))])
                  .ret)
                 (.seq
                  (.ops [i_ 20 (.sb .eql (T 3) (KS [47, 119, 105, 116, 104, 100, 114, 97, 119])),
                    i_ 19 (.mv (T 20))])
                  (.cond (T 19)
                   (.seq
                    (.ops [i_ 21 (.build [(.int .i64 0), (.int .i64 0)] [(0, (1, (KI 6)))]),
                      n_ (.st 2 (T 2) (T 21))])
                    .ret)
                   (.seq
                    (.ops [i_ 23 (.sb .eql (T 3) (KS [47, 99, 108, 105, 101, 110, 116, 115])),
                      i_ 22 (.mv (T 23))])
                    (.cond (T 22)
                     (.seq
                      (.ops [i_ 24 (.build [(.int .i64 0), (.int .i64 0)] [(0, (1, (KI 7)))]),
                        n_ (.st 2 (T 2) (T 24))])
                      .ret)
                     (.seq
                      (.ops [i_ 26 (.sb .eql (T 3) (KS [47, 99, 108, 105, 101, 110, 116, 115, 47, 114, 101, 109, 111, 118, 101])),
                        i_ 25 (.mv (T 26))])
                      (.cond (T 25)
                       (.seq
                        (.ops [i_ 27 (.build [(.int .i64 0), (.int .i64 0)] [(0, (1, (KI 8)))]),
                          n_ (.st 2 (T 2) (T 27))])
                        .ret)
                       (.seq
                        (.ops [i_ 29 (.sb .eql (T 3) (KS [47, 116, 117, 112, 108, 101, 115])),
                          i_ 28 (.mv (T 29))])
                        (.cond (T 28)
                         (.seq
                          (.ops [i_ 30 (.build [(.int .i64 0), (.int .i64 0)] [(0, (1, (KI 9))), (1, (1, (KI 10)))]),
                            n_ (.st 2 (T 2) (T 30))])
                          .ret)
                         (.seq
                          (.ops [i_ 32 (.sb .eql (T 3) (KS [47, 99, 111, 110, 102, 105, 103])),
                            i_ 31 (.mv (T 32))])
                          (.cond (T 31)
                           (.seq
                            (.ops [i_ 33 (.build [(.int .i64 0), (.int .i64 0)] [(0, (1, (KI 15))), (1, (1, (KI 16)))]),
                              n_ (.st 2 (T 2) (T 33))])
                            .ret)
                           (.seq
                            (.ops [i_ 35 (.sb .eql (T 3) (KS [47, 99, 111, 108, 108, 101, 99, 116])),
                              i_ 34 (.mv (T 35))])
                            (.cond (T 34)
                             (.seq
                              (.ops [i_ 36 (.build [(.int .i64 0), (.int .i64 0)] [(0, (1, (KI 17)))]),
                                n_ (.st 2 (T 2) (T 36))])
                              .ret)
                             .skip))))))))))))))))))))))))
     (.seq
      (.ops [i_ 37 (.mv (T 0)),
        i_ 38 (.call 166 [(T 37)]),
        i_ 39 (.build [(.int .i64 0), (.int .i64 0)] [(1, (1, (T 38)))]),
        n_ (.st 2 (T 2) (T 39))])
      .ret)))
def m124 : MF := ⟨40, [(.cell 2 2)], c124⟩
theorem r124 : resF Tryd.prog Tryd.f124 = some m124 := by kernel_rfl
theorem k124 : Callable Tryd.prog 124 := ⟨_, Tryd.func124, by kernel_rfl, by kernel_rfl⟩

def c166 : MC :=
   (.seq
    (.ops [i_ 2 (.mv (KI 0))])
    (.seq
     (.seq
      (.ops [i_ 3 (.mv (T 0))])
      (.block 0
       (.seq
        (.ops [i_ 5 (.sb .eql (T 3) (KS [47, 99, 104, 101, 99, 107])),
          i_ 4 (.mv (T 5))])
        (.cond (T 4)
         (.seq
          (.ops [i_ 2 (.mv (KI 11))])
          .ret)
         (.seq
          (.ops [i_ 7 (.sb .eql (T 3) (KS [47, 101, 120, 112, 97, 110, 100])),
            i_ 6 (.mv (T 7))])
          (.cond (T 6)
           (.seq
            (.ops [i_ 2 (.mv (KI 12))])
            .ret)
           (.seq
            (.ops [i_ 9 (.sb .eql (T 3) (KS [47, 108, 111, 111, 107, 117, 112])),
              i_ 8 (.mv (T 9))])
            (.cond (T 8)
             (.seq
              (.ops [i_ 2 (.mv (KI 13))])
              .ret)
             (.seq
              (.ops [i_ 11 (.sb .eql (T 3) (KS [47, 119, 97, 116, 99, 104])),
                i_ 10 (.mv (T 11))])
              (.cond (T 10)
               (.seq
                (.ops [i_ 2 (.mv (KI 14))])
                .ret)
               (.seq
                (.ops [i_ 13 (.sb .eql (T 3) (KS [47, 104, 101, 97, 108, 116, 104])),
                  i_ 12 (.mv (T 13))])
                (.cond (T 12)
                 (.seq
                  (.ops [i_ 2 (.mv (KI 18))])
                  .ret)
                 .skip))))))))))))
     (.seq
      (.ops [i_ 2 (.mv (KI 0))])
      .ret)))
def m166 : MF := ⟨14, [(.tmp 2)], c166⟩
theorem r166 : resF Tryd.prog Tryd.f166 = some m166 := by kernel_rfl
theorem k166 : Callable Tryd.prog 166 := ⟨_, Tryd.func166, by kernel_rfl, by kernel_rfl⟩

end Go.Proofs.YtkhgmmejgikgnaaDoor
