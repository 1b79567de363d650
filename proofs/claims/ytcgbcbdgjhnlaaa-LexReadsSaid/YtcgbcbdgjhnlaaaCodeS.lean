/- Functions of the program, resolved: made by a program of ours; each is checked by the kernel. -/
import Derived.Test.YtcgbcbdgjhnlaaaTools
namespace Go.Proofs.Ytcgbcbdgjhnlaaa
def c21 : MC :=
   (.seq
    (.ops [i_ 4 (.mv (KS []))])
    (.seq
     (.seq
      (.ops [i_ 5 (.mv (T 0)),
        i_ 6 (.lenS (T 5)),
        i_ 7 (.mv (T 1)),
        i_ 8 (.ib .gtr (T 6) (T 7))])
      (.cond (T 8)
       (.seq
        (.ops [i_ 9 (.mv (T 0)),
          i_ 10 (.mv (T 1)),
          i_ 11 (.slS (T 9) none (some (T 10))),
          i_ 4 (.mv (T 11))])
        .ret)
       .skip))
     (.seq
      (.ops [i_ 12 (.mv (T 0)),
        i_ 4 (.mv (T 12))])
      .ret)))
def m21 : MF := ⟨13, [(.tmp 4)], c21⟩
theorem r21 : resF Try.prog Try.f21 = some m21 := by kernel_rfl
theorem k21 : Callable Try.prog 21 := ⟨_, Try.func21, by kernel_rfl, by kernel_rfl⟩

def c24 : MC :=
   (.seq
    (.ops [i_ 6 (.mv (KI 0))])
    (.seq
     (.seq
      (.ops [i_ 7 (.mv (T 0)),
        i_ 8 (.mv (T 1)),
        i_ 9 (.ib .lss (T 7) (T 8))])
      (.cond (T 9)
       (.seq
        (.ops [i_ 10 (.mv (T 1)),
          i_ 6 (.mv (T 10))])
        .ret)
       .skip))
     (.seq
      (.seq
       (.ops [i_ 11 (.mv (T 0)),
         i_ 12 (.mv (T 2)),
         i_ 13 (.ib .gtr (T 11) (T 12))])
       (.cond (T 13)
        (.seq
         (.ops [i_ 14 (.mv (T 2)),
           i_ 6 (.mv (T 14))])
         .ret)
        .skip))
      (.seq
       (.ops [i_ 15 (.mv (T 0)),
         i_ 6 (.mv (T 15))])
       .ret))))
def m24 : MF := ⟨16, [(.tmp 6)], c24⟩
theorem r24 : resF Try.prog Try.f24 = some m24 := by kernel_rfl
theorem k24 : Callable Try.prog 24 := ⟨_, Try.func24, by kernel_rfl, by kernel_rfl⟩

end Go.Proofs.Ytcgbcbdgjhnlaaa
