/- Functions of the program, resolved: made by a program of ours; each is checked by the kernel. -/
import Derived.Test.YtkhgmmejgikgnaaDoorPB
namespace Go.Proofs.YtkhgmmejgikgnaaDoor
def c63 : MC :=
   (.seq
    (.ops [i_ 4 (.mv (.const .nilIface))])
    (.seq
     (.ops [i_ 5 (.mv (T 0)),
       i_ 6 (.call 109 [(T 5)])])
     (.seq
      (.ops [i_ 7 (.mv (T 0)),
        i_ 8 (.mv (T 0)),
        i_ 9 (.nilck (T 8)),
        i_ 10 (.faddr 1 (T 9)),
        i_ 11 (.ld1 (T 10)),
        i_ 12 (.mv (T 1)),
        i_ 13 (.bslice 5 [(.int .u8 0)] 1 1 [(0, (1, (T 12)))]),
        i_ 14 (.append 5 1 1 (T 11) (T 13)),
        i_ 15 (.nilck (T 7)),
        i_ 16 (.faddr 1 (T 15)),
        n_ (.st 1 (T 16) (T 14))])
      (.seq
       (.ops [i_ 4 (.mv (.const .nilIface))])
       .ret))))
def m63 : MF := ⟨17, [(.tmp 4)], c63⟩
theorem r63 : resF Tryd.prog Tryd.f63 = some m63 := by kernel_rfl
theorem k63 : Callable Tryd.prog 63 := ⟨_, Tryd.func63, by kernel_rfl, by kernel_rfl⟩

def c65 : MC :=
   (.seq
    (.ops [i_ 2 (.mv (KS []))])
    (.seq
     (.dops <|
       .op 0 (i_ 3 (.mv (T 0))) <|
       .op 1 (i_ 4 (.nilck (T 3))) <|
       .op 2 (i_ 5 (.faddr 1 (T 4))) <|
       .op 3 (i_ 6 (.ld1 (T 5))) <|
       .op 5 (i_ 8 (.mv (T 0))) <|
       .op 6 (i_ 9 (.nilck (T 8))) <|
       .op 7 (i_ 10 (.faddr 1 (T 9))) <|
       .op 8 (i_ 11 (.ld1 (T 10))) <|
       .op 9 (i_ 12 (.lenV (T 11))) <|
       .op 4 (id_ 7 (.raw ⟨(some 7), (.call ⟨(.builtin .unsafeSliceData), ⟨[(T 6)]⟩, ⟨[33]⟩⟩), 142, "builder.go:47", ⟨[⟨3, .data⟩]⟩, none⟩) [3]) <|
       .op 10 (id_ 13 (.raw ⟨(some 13), (.call ⟨(.builtin .unsafeString), ⟨[(T 7), (T 12)]⟩, ⟨[142, 3]⟩⟩), 9, "builder.go:47", ⟨[⟨4, .data⟩, ⟨9, .data⟩]⟩, none⟩) [8, 3]) <|
       .op 11 (i_ 2 (.mv (T 13))) <|
       .nil)
     .ret))
def m65 : MF := ⟨14, [(.tmp 2)], c65⟩
theorem r65 : resF Tryd.prog Tryd.f65 = some m65 := by kernel_rfl
theorem k65 : Callable Tryd.prog 65 := ⟨_, Tryd.func65, by kernel_rfl, by kernel_rfl⟩

def c92 : MC :=
   (.seq
    (.ops [i_ 2 (.mv (KI 0))])
    (.seq
     (.ops [i_ 3 (.mv (T 0)),
       i_ 4 (.nilck (T 3)),
       i_ 5 (.faddr 1 (T 4)),
       i_ 6 (.ld1 (T 5)),
       i_ 7 (.lenV (T 6)),
       i_ 2 (.mv (T 7))])
     .ret))
def m92 : MF := ⟨8, [(.tmp 2)], c92⟩
theorem r92 : resF Tryd.prog Tryd.f92 = some m92 := by kernel_rfl
theorem k92 : Callable Tryd.prog 92 := ⟨_, Tryd.func92, by kernel_rfl, by kernel_rfl⟩

def c114 : MC :=
   (.seq
    (.ops [i_ 4 (.mv (KI 0)),
      i_ 5 (.mv (.const .nilIface))])
    (.seq
     (.ops [i_ 6 (.mv (T 0)),
       i_ 7 (.call 109 [(T 6)])])
     (.seq
      (.ops [i_ 8 (.mv (T 0)),
        i_ 9 (.mv (T 0)),
        i_ 10 (.nilck (T 9)),
        i_ 11 (.faddr 1 (T 10)),
        i_ 12 (.ld1 (T 11)),
        i_ 13 (.mv (T 1)),
        i_ 14 (.raw ⟨(some 14), (.call ⟨(.builtin .append), ⟨[(T 12), (T 13)]⟩, ⟨[33, 9]⟩⟩), 33, "builder.go:114", ⟨[⟨4, .data⟩, ⟨5, .data⟩]⟩, none⟩),
        i_ 15 (.nilck (T 8)),
        i_ 16 (.faddr 1 (T 15)),
        n_ (.st 1 (T 16) (T 14))])
      (.seq
       (.ops [i_ 17 (.mv (T 1)),
         i_ 18 (.lenS (T 17)),
         i_ 4 (.mv (T 18)),
         i_ 5 (.mv (.const .nilIface))])
       .ret))))
def m114 : MF := ⟨19, [(.tmp 4), (.tmp 5)], c114⟩
theorem r114 : resF Tryd.prog Tryd.f114 = some m114 := by kernel_rfl
theorem k114 : Callable Tryd.prog 114 := ⟨_, Tryd.func114, by kernel_rfl, by kernel_rfl⟩

end Go.Proofs.YtkhgmmejgikgnaaDoor
