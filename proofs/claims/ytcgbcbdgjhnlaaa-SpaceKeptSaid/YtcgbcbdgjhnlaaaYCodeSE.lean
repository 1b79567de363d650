/- Functions of the program, resolved: made by a program of ours; each is checked by the kernel. -/
import Derived.Test.YtcgbcbdgjhnlaaaYPB
namespace Go.Proofs.Ytcgbcbdgjhnlaaa
def c155 : MC :=
 (.seq
 (.ops [i_ 2 (.mv (.const (.slice none 0 0)))])
 (.seq
 (.seq
 (.ops [i_ 3 (.mv (T 0)),
 i_ 4 (.raw ⟨(some 4), (.binOp .eql 85 (T 3) (.const (.slice none 0 0)) 85), 4, "slices.go:357", ⟨[⟨0, .data⟩]⟩, none⟩)])
 (.cond (T 4)
 (.seq
 (.ops [i_ 2 (.mv (.const (.slice none 0 0)))])
 .ret)
 .skip))
 (.seq
 (.ops [i_ 5 (.raw ⟨(some 5), (.buildSlice 85 0 ⟨[]⟩), 85, "slices.go:362", ⟨[]⟩, none⟩),
 i_ 6 (.mv (T 0)),
 i_ 7 (.append 166 2 32 (T 5) (T 6)),
 i_ 2 (.mv (T 7))])
 .ret)))
def m155 : MF := ⟨8, [(.tmp 2)], c155⟩
theorem r155 : resF Try.prog Try.f155 = some m155 := by kernel_rfl
def c156 : MC :=
 (.seq
 (.ops [i_ 2 (.mv (.const (.slice none 0 0)))])
 (.seq
 (.seq
 (.ops [i_ 3 (.mv (T 0)),
 i_ 4 (.raw ⟨(some 4), (.binOp .eql 86 (T 3) (.const (.slice none 0 0)) 86), 4, "slices.go:357", ⟨[⟨0, .data⟩]⟩, none⟩)])
 (.cond (T 4)
 (.seq
 (.ops [i_ 2 (.mv (.const (.slice none 0 0)))])
 .ret)
 .skip))
 (.seq
 (.ops [i_ 5 (.raw ⟨(some 5), (.buildSlice 86 0 ⟨[]⟩), 86, "slices.go:362", ⟨[]⟩, none⟩),
 i_ 6 (.mv (T 0)),
 i_ 7 (.append 93 5 56 (T 5) (T 6)),
 i_ 2 (.mv (T 7))])
 .ret)))
def m156 : MF := ⟨8, [(.tmp 2)], c156⟩
theorem r156 : resF Try.prog Try.f156 = some m156 := by kernel_rfl
def c157 : MC :=
 (.seq
 (.ops [i_ 2 (.mv (.const (.slice none 0 0)))])
 (.seq
 (.seq
 (.ops [i_ 3 (.mv (T 0)),
 i_ 4 (.raw ⟨(some 4), (.binOp .eql 72 (T 3) (.const (.slice none 0 0)) 72), 4, "slices.go:357", ⟨[⟨0, .data⟩]⟩, none⟩)])
 (.cond (T 4)
 (.seq
 (.ops [i_ 2 (.mv (.const (.slice none 0 0)))])
 .ret)
 .skip))
 (.seq
 (.ops [i_ 5 (.raw ⟨(some 5), (.buildSlice 72 0 ⟨[]⟩), 72, "slices.go:362", ⟨[]⟩, none⟩),
 i_ 6 (.mv (T 0)),
 i_ 7 (.append 163 4 64 (T 5) (T 6)),
 i_ 2 (.mv (T 7))])
 .ret)))
def m157 : MF := ⟨8, [(.tmp 2)], c157⟩
theorem r157 : resF Try.prog Try.f157 = some m157 := by kernel_rfl
def c70 : MC :=
 (.seq
 (.ops [i_ 4 (.mv (.const (.slice none 0 0)))])
 (.seq
 (.ops [i_ 5 (.mv (.const (.slice none 0 0)))])
 (.seq
 (.seq
 (.ops [i_ 6 (.mv (KI 0))])
 (.block 0
 (.loop [(7, 18), (18, 38), (5, 7)]
 (.seq
 (.seq
 (.ops [i_ 7 (.mv (T 6)),
 i_ 8 (.mv (T 0)),
 i_ 9 (.lenV (T 8)),
 i_ 10 (.ib .lss (T 7) (T 9)),
 i_ 11 (.mv (T 10)),
 ig 12 11 true (.mv (T 6)),
 ig 13 11 true (.mv (T 1)),
 ig 14 11 true (.ib .lss (T 12) (T 13)),
 i_ 15 (.pick (T 11) (T 14) (KB false))])
 (.cond (T 15)
 .skip
 (.exit 0)))
 (.seq
 (.block 1
 (.dops <|
 .op 0 (i_ 18 (.mv (T 5))) <|
 .op 1 (i_ 19 (.mv (T 0))) <|
 .op 2 (i_ 20 (.mv (T 6))) <|
 .op 3 (i_ 21 (.iaddr 4 (T 19) (T 20))) <|
 .op 4 (i_ 22 (.faddr 0 (T 21))) <|
 .op 5 (i_ 23 (.ld1 (T 22))) <|
 .op 6 (i_ 24 (.mv (T 0))) <|
 .op 7 (i_ 25 (.mv (T 6))) <|
 .op 8 (i_ 26 (.iaddr 4 (T 24) (T 25))) <|
 .op 9 (i_ 27 (.faddr 1 (T 26))) <|
 .op 10 (i_ 28 (.ld1 (T 27))) <|
 .op 11 (i_ 29 (.mv (T 0))) <|
 .op 12 (i_ 30 (.mv (T 6))) <|
 .op 13 (i_ 31 (.iaddr 4 (T 29) (T 30))) <|
 .op 14 (i_ 32 (.faddr 2 (T 31))) <|
 .op 15 (i_ 33 (.ldN 2 (T 32))) <|
 .op 16 (id_ 34 (.call 60 [(T 33)]) [15]) <|
 .op 17 (i_ 35 (.build [(.int .i64 0), (.int .u64 0), (.slice none 0 0), (.slice none 0 0)] [(0, (1, (T 23))), (1, (1, (T 28))), (2, (2, (T 34)))])) <|
 .op 18 (id_ 36 (.bslice 121 [(.int .i64 0), (.int .u64 0), (.slice none 0 0), (.slice none 0 0)] 1 4 [(0, (4, (T 35)))]) [5, 10, 15]) <|
 .op 19 (id_ 37 (.append 121 4 64 (T 18) (T 36)) [15, 10, 5]) <|
 .op 20 (i_ 5 (.mv (T 37))) <|
 .nil))
 (.ops [i_ 16 (.mv (T 6)),
 i_ 17 (.ib .add (T 16) (KI 1)),
 i_ 6 (.mv (T 17))]))))))
 (.seq
 (.ops [i_ 38 (.mv (T 5)),
 i_ 4 (.mv (T 38))])
 .ret))))
def m70 : MF := ⟨39, [(.tmp 4)], c70⟩
theorem r70 : resF Try.prog Try.f70 = some m70 := by kernel_rfl
end Go.Proofs.Ytcgbcbdgjhnlaaa

