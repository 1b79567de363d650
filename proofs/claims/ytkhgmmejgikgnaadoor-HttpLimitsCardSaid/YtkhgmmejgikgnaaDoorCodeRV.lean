/- Functions of the program, resolved: made by a program of ours; each is checked by the kernel. -/
import Derived.Test.YtkhgmmejgikgnaaDoorPB
namespace Go.Proofs.YtkhgmmejgikgnaaDoor
def c72 : MC :=
   (.seq
    (.ops [i_ 4 (.mv (KS []))])
    (.seq
     (.seq
      (.ops [i_ 11 (.mv (T 0)),
        i_ 12 (.lenV (T 11))])
      (.block 0
       (.seq
        (.ops [i_ 14 (.ib .eql (T 12) (KI 0)),
          i_ 13 (.mv (T 14))])
        (.cond (T 13)
         (.seq
          (.ops [i_ 4 (.mv (KS []))])
          .ret)
         (.seq
          (.ops [i_ 16 (.ib .eql (T 12) (KI 1)),
            i_ 15 (.mv (T 16))])
          (.cond (T 15)
           (.seq
            (.ops [i_ 17 (.mv (T 0)),
              i_ 18 (.iaddr 1 (T 17) (KI 0)),
              i_ 19 (.ld1 (T 18)),
              i_ 4 (.mv (T 19))])
            .ret)
           .skip))))))
     (.seq
      (.ops [i_ 5 (.mv (KI 0))])
      (.seq
       (.seq
        (.ops [i_ 20 (.mv (T 1)),
          i_ 21 (.lenS (T 20)),
          i_ 22 (.ib .gtr (T 21) (KI 0))])
        (.cond (T 22)
         (.seq
          (.seq
           (.ops [i_ 23 (.mv (T 1)),
             i_ 24 (.lenS (T 23)),
             i_ 25 (.mv (T 0)),
             i_ 26 (.lenV (T 25)),
             i_ 27 (.ib .sub (T 26) (KI 1)),
             i_ 28 (.ib .quo (KI 9223372036854775807) (T 27)),
             i_ 29 (.ib .geq (T 24) (T 28))])
           (.cond (T 29)
            (.ops [i_ 30 (.raw ⟨(some 30), (.makeInterface 9 (KS [115, 116, 114, 105, 110, 103, 115, 58, 32, 74, 111, 105, 110, 32, 111, 117, 116, 112, 117, 116, 32, 108, 101, 110, 103, 116, 104, 32, 111, 118, 101, 114, 102, 108, 111, 119])), 20, "strings.go:479", ⟨[]⟩, none⟩),
              n_ (.raw ⟨none, (.panic (T 30)), 0, "strings.go:479", ⟨[⟨0, .data⟩]⟩, none⟩)])
            .skip))
          (.ops [i_ 31 (.mv (T 5)),
            i_ 32 (.mv (T 1)),
            i_ 33 (.lenS (T 32)),
            i_ 34 (.mv (T 0)),
            i_ 35 (.lenV (T 34)),
            i_ 36 (.ib .sub (T 35) (KI 1)),
            i_ 37 (.ib .mul (T 33) (T 36)),
            i_ 38 (.ib .add (T 31) (T 37)),
            i_ 5 (.mv (T 38))]))
         .skip))
       (.seq
        (.seq
         (.ops [i_ 39 (.mv (T 0)),
           i_ 40 (.lenV (T 39)),
           i_ 41 (.mv (KI 0))])
         (.block 1
          (.loop [(42, 56), (7, 8), (5, 6), (41, 42)]
           (.seq
            (.ops [i_ 42 (.ib .lss (T 41) (T 40))])
            (.seq
             (.cond (T 42)
              .skip
              (.exit 1))
             (.seq
              (.block 2
               (.seq
                (.ops [i_ 43 (.iaddr 1 (T 39) (T 41)),
                  i_ 44 (.ld1 (T 43)),
                  i_ 7 (.mv (T 44))])
                (.seq
                 (.seq
                  (.ops [i_ 45 (.mv (T 7)),
                    i_ 46 (.lenS (T 45)),
                    i_ 47 (.mv (T 5)),
                    i_ 48 (.ib .sub (KI 9223372036854775807) (T 47)),
                    i_ 49 (.ib .gtr (T 46) (T 48))])
                  (.cond (T 49)
                   (.ops [i_ 50 (.raw ⟨(some 50), (.makeInterface 9 (KS [115, 116, 114, 105, 110, 103, 115, 58, 32, 74, 111, 105, 110, 32, 111, 117, 116, 112, 117, 116, 32, 108, 101, 110, 103, 116, 104, 32, 111, 118, 101, 114, 102, 108, 111, 119])), 20, "strings.go:485", ⟨[]⟩, none⟩),
                     n_ (.raw ⟨none, (.panic (T 50)), 0, "strings.go:485", ⟨[⟨0, .data⟩]⟩, none⟩)])
                   .skip))
                 (.ops [i_ 51 (.mv (T 5)),
                   i_ 52 (.mv (T 7)),
                   i_ 53 (.lenS (T 52)),
                   i_ 54 (.ib .add (T 51) (T 53)),
                   i_ 5 (.mv (T 54))]))))
              (.ops [i_ 55 (.ib .add (T 41) (KI 1)),
                i_ 41 (.mv (T 55))])))))))
        (.seq
         (.ops [i_ 8 (.raw ⟨(some 8), (.alloc 99), 0, "strings.go:490", ⟨[]⟩, none⟩)])
         (.seq
          (.ops [i_ 56 (.mv (T 5)),
            i_ 57 (.call 113 [(T 8), (T 56)])])
          (.seq
           (.ops [i_ 58 (.mv (T 0)),
             i_ 59 (.iaddr 1 (T 58) (KI 0)),
             i_ 60 (.ld1 (T 59)),
             i_ 61 (.call 114 [(T 8), (T 60)])])
           (.seq
            (.seq
             (.ops [i_ 62 (.mv (T 0)),
               i_ 63 (.slV 1 (T 62) (some (KI 1)) none),
               i_ 64 (.lenV (T 63)),
               i_ 65 (.mv (KI 0))])
             (.block 3
              (.loop [(66, 74), (10, 11), (65, 66)]
               (.seq
                (.ops [i_ 66 (.ib .lss (T 65) (T 64))])
                (.seq
                 (.cond (T 66)
                  .skip
                  (.exit 3))
                 (.seq
                  (.block 4
                   (.seq
                    (.ops [i_ 67 (.iaddr 1 (T 63) (T 65)),
                      i_ 68 (.ld1 (T 67)),
                      i_ 10 (.mv (T 68))])
                    (.seq
                     (.ops [i_ 69 (.mv (T 1)),
                       i_ 70 (.call 114 [(T 8), (T 69)])])
                     (.ops [i_ 71 (.mv (T 10)),
                       i_ 72 (.call 114 [(T 8), (T 71)])]))))
                  (.ops [i_ 73 (.ib .add (T 65) (KI 1)),
                    i_ 65 (.mv (T 73))])))))))
            (.seq
             (.ops [i_ 74 (.call 65 [(T 8)]),
               i_ 4 (.mv (T 74))])
             .ret))))))))))
def m72 : MF := ⟨75, [(.tmp 4)], c72⟩
theorem r72 : resF Tryd.prog Tryd.f72 = some m72 := by kernel_rfl
theorem k72 : Callable Tryd.prog 72 := ⟨_, Tryd.func72, by kernel_rfl, by kernel_rfl⟩

def c123 : MC :=
   (.seq
    (.ops [i_ 4 (.mv (KI 0))])
    (.seq
     (.seq
      (.ops [i_ 6 (.mv (T 0)),
        i_ 7 (.lenV (T 6)),
        i_ 8 (.mv (KI 0))])
      (.block 0
       (.loop [(9, 19), (5, 6), (4, 5), (8, 9)]
        (.seq
         (.ops [i_ 9 (.ib .lss (T 8) (T 7))])
         (.seq
          (.cond (T 9)
           .skip
           (.exit 0))
          (.seq
           (.block 1
            (.seq
             (.ops [i_ 10 (.mv (T 8)),
               i_ 5 (.mv (T 10))])
             (.seq
              (.ops [i_ 11 (.mv (T 1)),
                i_ 12 (.mv (T 0)),
                i_ 13 (.mv (T 5)),
                i_ 14 (.iaddr 1 (T 12) (T 13)),
                i_ 15 (.ld1 (T 14)),
                i_ 16 (.callv (T 11) [(T 15)])])
              (.cond (T 16)
               (.seq
                (.ops [i_ 17 (.mv (T 5)),
                  i_ 4 (.mv (T 17))])
                .ret)
               .skip))))
           (.ops [i_ 18 (.ib .add (T 8) (KI 1)),
             i_ 8 (.mv (T 18))])))))))
     (.seq
      (.ops [i_ 4 (.mv (KI (-1)))])
      .ret)))
def m123 : MF := ⟨19, [(.tmp 4)], c123⟩
theorem r123 : resF Tryd.prog Tryd.f123 = some m123 := by kernel_rfl
theorem k123 : Callable Tryd.prog 123 := ⟨_, Tryd.func123, by kernel_rfl, by kernel_rfl⟩

end Go.Proofs.YtkhgmmejgikgnaaDoor
