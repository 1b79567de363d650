/- Functions of the program, resolved: made by a program of ours; each is checked by the kernel. -/
import Derived.Test.YtkhgmmejgikgnaaGreatDoorPB
namespace Go.Proofs.YtkhgmmejgikgnaaGreatDoor
def c45 : MC :=
   (.seq
    (.ops [i_ 4 (.mv (.const .nilIface))])
    (.seq
     (.ops [i_ 5 (.mv (T 0)),
       i_ 6 (.call 64 [(T 5)])])
     (.seq
      (.ops [i_ 7 (.mv (T 0)),
        i_ 8 (.mv (T 0)),
        i_ 9 (.nilck (T 8)),
        i_ 10 (.faddr 1 (T 9)),
        i_ 11 (.ld1 (T 10)),
        i_ 12 (.mv (T 1)),
        i_ 13 (.bslice 5 [(.int .u8 0)] 1 1 [(0, (1, (T 12)))]),
        i_ 14 (.append 5 1 1 (T 11) (T 13)),
        i_ 15 (.nilck (T 7)),
        i_ 16 (.faddr 1 (T 15)),
        n_ (.st 1 (T 16) (T 14))])
      (.seq
       (.ops [i_ 4 (.mv (.const .nilIface))])
       .ret))))
def m45 : MF := ⟨17, [(.tmp 4)], c45⟩
theorem r45 : resF Tryz.prog Tryz.f45 = some m45 := by kernel_rfl
theorem k45 : Callable Tryz.prog 45 := ⟨_, Tryz.func45, by kernel_rfl, by kernel_rfl⟩

def c47 : MC :=
   (.seq
    (.ops [i_ 2 (.mv (KS []))])
    (.seq
     (.dops <|
       .op 0 (i_ 3 (.mv (T 0))) <|
       .op 1 (i_ 4 (.nilck (T 3))) <|
       .op 2 (i_ 5 (.faddr 1 (T 4))) <|
       .op 3 (i_ 6 (.ld1 (T 5))) <|
       .op 5 (i_ 8 (.mv (T 0))) <|
       .op 6 (i_ 9 (.nilck (T 8))) <|
       .op 7 (i_ 10 (.faddr 1 (T 9))) <|
       .op 8 (i_ 11 (.ld1 (T 10))) <|
       .op 9 (i_ 12 (.lenV (T 11))) <|
       .op 4 (id_ 7 (.raw ⟨(some 7), (.call ⟨(.builtin .unsafeSliceData), ⟨[(T 6)]⟩, ⟨[22]⟩⟩), 95, "builder.go:47", ⟨[⟨3, .data⟩]⟩, none⟩) [3]) <|
       .op 10 (id_ 13 (.raw ⟨(some 13), (.call ⟨(.builtin .unsafeString), ⟨[(T 7), (T 12)]⟩, ⟨[95, 3]⟩⟩), 9, "builder.go:47", ⟨[⟨4, .data⟩, ⟨9, .data⟩]⟩, none⟩) [8, 3]) <|
       .op 11 (i_ 2 (.mv (T 13))) <|
       .nil)
     .ret))
def m47 : MF := ⟨14, [(.tmp 2)], c47⟩
theorem r47 : resF Tryz.prog Tryz.f47 = some m47 := by kernel_rfl
theorem k47 : Callable Tryz.prog 47 := ⟨_, Tryz.func47, by kernel_rfl, by kernel_rfl⟩

end Go.Proofs.YtkhgmmejgikgnaaGreatDoor
