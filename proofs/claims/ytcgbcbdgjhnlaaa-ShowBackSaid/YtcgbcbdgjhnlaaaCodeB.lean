/- Functions of the program, resolved: made by a program of ours; each is checked by the kernel. -/
import Derived.Test.YtcgbcbdgjhnlaaaPB
namespace Go.Proofs.Ytcgbcbdgjhnlaaa
def c110 : MC :=
   (.seq
    (.ops [i_ 4 (.mv (KI 0)),
      i_ 5 (.mv (.const .nilIface))])
    (.seq
     (.ops [i_ 6 (.mv (T 0)),
       i_ 7 (.call 151 [(T 6)])])
     (.seq
      (.ops [i_ 8 (.mv (T 0)),
        i_ 9 (.mv (T 0)),
        i_ 10 (.nilck (T 9)),
        i_ 11 (.faddr 1 (T 10)),
        i_ 12 (.ld1 (T 11)),
        i_ 13 (.mv (T 1)),
        i_ 14 (.raw ⟨(some 14), (.call ⟨(.builtin .append), ⟨[(T 12), (T 13)]⟩, ⟨[32, 9]⟩⟩), 32, "builder.go:114", ⟨[⟨4, .data⟩, ⟨5, .data⟩]⟩, none⟩),
        i_ 15 (.nilck (T 8)),
        i_ 16 (.faddr 1 (T 15)),
        n_ (.st 1 (T 16) (T 14))])
      (.seq
       (.ops [i_ 17 (.mv (T 1)),
         i_ 18 (.lenS (T 17)),
         i_ 4 (.mv (T 18)),
         i_ 5 (.mv (.const .nilIface))])
       .ret))))
def m110 : MF := ⟨19, [(.tmp 4), (.tmp 5)], c110⟩
theorem r110 : resF Try.prog Try.f110 = some m110 := by kernel_rfl
theorem k110 : Callable Try.prog 110 := ⟨_, Try.func110, by kernel_rfl, by kernel_rfl⟩

def c112 : MC :=
   (.seq
    (.ops [i_ 2 (.mv (KI 0))])
    (.seq
     (.ops [i_ 3 (.mv (T 0)),
       i_ 4 (.nilck (T 3)),
       i_ 5 (.faddr 1 (T 4)),
       i_ 6 (.ld1 (T 5)),
       i_ 7 (.lenV (T 6)),
       i_ 2 (.mv (T 7))])
     .ret))
def m112 : MF := ⟨8, [(.tmp 2)], c112⟩
theorem r112 : resF Try.prog Try.f112 = some m112 := by kernel_rfl
theorem k112 : Callable Try.prog 112 := ⟨_, Try.func112, by kernel_rfl, by kernel_rfl⟩

def c114 : MC :=
   (.seq
    (.ops [i_ 2 (.mv (KS []))])
    (.seq
     (.dops <|
       .op 0 (i_ 3 (.mv (T 0))) <|
       .op 1 (i_ 4 (.nilck (T 3))) <|
       .op 2 (i_ 5 (.faddr 1 (T 4))) <|
       .op 3 (i_ 6 (.ld1 (T 5))) <|
       .op 5 (i_ 8 (.mv (T 0))) <|
       .op 6 (i_ 9 (.nilck (T 8))) <|
       .op 7 (i_ 10 (.faddr 1 (T 9))) <|
       .op 8 (i_ 11 (.ld1 (T 10))) <|
       .op 9 (i_ 12 (.lenV (T 11))) <|
       .op 4 (id_ 7 (.raw ⟨(some 7), (.call ⟨(.builtin .unsafeSliceData), ⟨[(T 6)]⟩, ⟨[32]⟩⟩), 221, "builder.go:47", ⟨[⟨3, .data⟩]⟩, none⟩) [3]) <|
       .op 10 (id_ 13 (.raw ⟨(some 13), (.call ⟨(.builtin .unsafeString), ⟨[(T 7), (T 12)]⟩, ⟨[221, 3]⟩⟩), 9, "builder.go:47", ⟨[⟨4, .data⟩, ⟨9, .data⟩]⟩, none⟩) [8, 3]) <|
       .op 11 (i_ 2 (.mv (T 13))) <|
       .nil)
     .ret))
def m114 : MF := ⟨14, [(.tmp 2)], c114⟩
theorem r114 : resF Try.prog Try.f114 = some m114 := by kernel_rfl
theorem k114 : Callable Try.prog 114 := ⟨_, Try.func114, by kernel_rfl, by kernel_rfl⟩

def c113 : MC :=
   (.seq
    (.ops [i_ 2 (.mv (KI 0))])
    (.seq
     (.ops [i_ 3 (.mv (KI 0)),
       i_ 4 (.mv (KI 0))])
     (.seq
      (.seq
       (.ops [i_ 7 (.mv (T 0)),
         i_ 8 (.raw ⟨(some 8), (.range 9 (T 7)), 0, "show.go:100", ⟨[⟨0, .data⟩]⟩, none⟩)])
       (.block 0
        (.loop [(9, 14), (6, 7), (14, 18), (3, 5), (18, 24)]
         (.seq
          (.ops [i_ 9 (.raw ⟨(some 9), (.next (T 8) true), 0, "show.go:100", ⟨[]⟩, none⟩),
            i_ 10 (.ext (T 9) 0)])
          (.seq
           (.cond (T 10)
            .skip
            (.exit 0))
           (.block 1
            (.seq
             (.ops [i_ 11 (.ext (T 9) 2),
               i_ 6 (.mv (T 11))])
             (.seq
              (.seq
               (.ops [i_ 12 (.mv (T 6))])
               (.block 2
                (.seq
                 (.ops [i_ 14 (.ib .eql (T 12) (.const (.int .i32 40))),
                   i_ 13 (.mv (T 14))])
                 (.cond (T 13)
                  (.ops [i_ 15 (.mv (T 3)),
                    i_ 16 (.ib .add (T 15) (KI 1)),
                    i_ 3 (.mv (T 16))])
                  (.seq
                   (.ops [i_ 18 (.ib .eql (T 12) (.const (.int .i32 41))),
                     i_ 17 (.mv (T 18))])
                   (.cond (T 17)
                    (.ops [i_ 19 (.mv (T 3)),
                      i_ 20 (.ib .sub (T 19) (KI 1)),
                      i_ 3 (.mv (T 20))])
                    .skip))))))
              (.ops [i_ 21 (.mv (T 4)),
                i_ 22 (.mv (T 3)),
                i_ 23 (.maxI (T 21) (T 22)),
                i_ 4 (.mv (T 23))])))))))))
      (.seq
       (.ops [i_ 24 (.mv (T 4)),
         i_ 2 (.mv (T 24))])
       .ret))))
def m113 : MF := ⟨25, [(.tmp 2)], c113⟩
theorem r113 : resF Try.prog Try.f113 = some m113 := by kernel_rfl
theorem k113 : Callable Try.prog 113 := ⟨_, Try.func113, by kernel_rfl, by kernel_rfl⟩

end Go.Proofs.Ytcgbcbdgjhnlaaa
