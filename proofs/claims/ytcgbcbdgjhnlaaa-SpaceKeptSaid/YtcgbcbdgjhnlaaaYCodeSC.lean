/- Functions of the program, resolved: made by a program of ours; each is checked by the kernel. -/
import Derived.Test.YtcgbcbdgjhnlaaaYPB
namespace Go.Proofs.Ytcgbcbdgjhnlaaa
def c69 : MC :=
 (.seq
 (.ops [i_ 0 (.mv (.const (.pointer none)))])
 (.seq
 (.ops [i_ 1 (.build [(.bool false), (.slice none 0 0), (.int .i64 0)] [(0, (1, (KB true)))]),
 i_ 2 (.box 132 (T 1)),
 i_ 0 (.mv (T 2))])
 .ret))
def m69 : MF := ⟨3, [(.tmp 0)], c69⟩
theorem r69 : resF Try.prog Try.f69 = some m69 := by kernel_rfl
def c71 : MC :=
 (.seq
 (.ops [i_ 5 (.box 74 (T 2)),
 i_ 6 (.mv (KI 0))])
 (.seq
 (.block 0
 (.seq
 (.ops [i_ 10 (.mv (T 0)),
 i_ 11 (.call 76 [(T 10)]),
 i_ 12 (.not (T 11)),
 i_ 9 (.mv (T 12))])
 (.cond (T 9)
 (.seq
 (.ops [i_ 6 (.mv (KI 1))])
 .ret)
 (.seq
 (.dops <|
 .op 0 (i_ 14 (.mv (T 0))) <|
 .op 1 (i_ 15 (.nilck (T 14))) <|
 .op 2 (i_ 16 (.faddr 1 (T 15))) <|
 .op 3 (i_ 17 (.ld1 (T 16))) <|
 .op 4 (i_ 18 (.lenV (T 17))) <|
 .op 5 (i_ 19 (.ib .gtr (T 18) (KI 0))) <|
 .op 6 (i_ 20 (.mv (T 19))) <|
 .op 7 (ig 21 20 true (.mv (T 1))) <|
 .op 8 (ig 22 20 true (.mv (T 0))) <|
 .op 9 (ig 23 20 true (.nilck (T 22))) <|
 .op 10 (ig 24 20 true (.faddr 1 (T 23))) <|
 .op 11 (ig 25 20 true (.ld1 (T 24))) <|
 .op 12 (ig 26 20 true (.mv (T 0))) <|
 .op 13 (ig 27 20 true (.nilck (T 26))) <|
 .op 14 (ig 28 20 true (.faddr 1 (T 27))) <|
 .op 15 (ig 29 20 true (.ld1 (T 28))) <|
 .op 16 (ig 30 20 true (.lenV (T 29))) <|
 .op 17 (ig 31 20 true (.ib .sub (T 30) (KI 1))) <|
 .op 18 (ig 32 20 true (.iaddr 4 (T 25) (T 31))) <|
 .op 19 (ig 33 20 true (.faddr 0 (T 32))) <|
 .op 20 (ig 34 20 true (.faddr 0 (T 33))) <|
 .op 21 (ig 35 20 true (.ld1 (T 34))) <|
 .op 22 (ig 36 20 true (.ib .leq (T 21) (T 35))) <|
 .op 23 (i_ 37 (.pick (T 20) (T 36) (KB false))) <|
 .op 24 (i_ 13 (.mv (T 37))) <|
 .nil)
 (.cond (T 13)
 (.seq
 (.ops [i_ 6 (.mv (KI 12))])
 .ret)
 .skip)))))
 (.seq
 (.ops [i_ 39 (.ldN 2 (T 5)),
 i_ 40 (.call 62 [(T 39)]),
 i_ 38 (.mv (T 40)),
 i_ 41 (.ext (T 38) 0),
 i_ 42 (.ext (T 38) 1),
 i_ 7 (.mv (T 41)),
 i_ 8 (.mv (T 42))])
 (.seq
 (.block 1
 (.seq
 (.ops [i_ 44 (.mv (T 8)),
 i_ 45 (.ib .neq (T 44) (KI 0)),
 i_ 43 (.mv (T 45))])
 (.cond (T 43)
 (.seq
 (.ops [i_ 46 (.mv (T 8)),
 i_ 6 (.mv (T 46))])
 .ret)
 (.seq
 (.ops [i_ 48 (.mv (T 0)),
 i_ 49 (.nilck (T 48)),
 i_ 50 (.faddr 1 (T 49)),
 i_ 51 (.ld1 (T 50)),
 i_ 52 (.lenV (T 51)),
 i_ 53 (.ib .geq (T 52) (KI 16)),
 i_ 47 (.mv (T 53))])
 (.cond (T 47)
 (.seq
 (.ops [i_ 6 (.mv (KI 8))])
 .ret)
 .skip)))))
 (.seq
 (.dops <|
 .op 0 (i_ 54 (.mv (T 0))) <|
 .op 1 (i_ 55 (.mv (T 0))) <|
 .op 2 (i_ 56 (.nilck (T 55))) <|
 .op 3 (i_ 57 (.faddr 1 (T 56))) <|
 .op 4 (i_ 58 (.ld1 (T 57))) <|
 .op 5 (i_ 59 (.mv (T 1))) <|
 .op 6 (i_ 60 (.ldN 2 (T 5))) <|
 .op 9 (i_ 63 (.mv (T 7))) <|
 .op 7 (id_ 61 (.call 123 [(T 60)]) [6]) <|
 .op 8 (i_ 62 (.build [(.int .u64 0), (.slice none 0 0), (.slice none 0 0)] [(0, (1, (T 59))), (1, (2, (T 61)))])) <|
 .op 10 (i_ 64 (.build [(.int .u64 0), (.slice none 0 0), (.slice none 0 0), (.slice none 0 0)] [(0, (3, (T 62))), (3, (1, (T 63)))])) <|
 .op 11 (id_ 65 (.bslice 196 [(.int .u64 0), (.slice none 0 0), (.slice none 0 0), (.slice none 0 0)] 1 4 [(0, (4, (T 64)))]) [6]) <|
 .op 12 (id_ 66 (.append 196 4 80 (T 58) (T 65)) [6, 4]) <|
 .op 13 (i_ 67 (.nilck (T 54))) <|
 .op 14 (i_ 68 (.faddr 1 (T 67))) <|
 .op 15 (nd_ (.st 1 (T 68) (T 66)) [6, 4]) <|
 .nil)
 (.seq
 (.ops [i_ 6 (.mv (KI 0))])
 .ret))))))
def m71 : MF := ⟨69, [(.tmp 6)], c71⟩
theorem r71 : resF Try.prog Try.f71 = some m71 := by kernel_rfl
theorem k71 : Callable Try.prog 71 := ⟨_, Try.func71, by kernel_rfl, by kernel_rfl⟩

def c72 : MC :=
 (.seq
 (.ops [i_ 4 (.alloc 74 [(.slice none 0 0), (.slice none 0 0)]),
 i_ 5 (.mv (KI 0))])
 (.seq
 (.ops [i_ 7 (.mv (T 0)),
 i_ 8 (.mv (T 1)),
 i_ 9 (.call 124 [(T 7), (T 8)]),
 i_ 6 (.mv (T 9))])
 (.seq
 (.seq
 (.ops [i_ 10 (.mv (T 6)),
 i_ 11 (.ib .lss (T 10) (KI 0))])
 (.cond (T 11)
 (.seq
 (.ops [i_ 12 (.build [(.slice none 0 0), (.slice none 0 0)] []),
 n_ (.st 2 (T 4) (T 12)),
 i_ 5 (.mv (KI 0))])
 .ret)
 .skip))
 (.seq
 (.dops <|
 .op 0 (i_ 13 (.mv (T 0))) <|
 .op 1 (i_ 14 (.nilck (T 13))) <|
 .op 2 (i_ 15 (.faddr 1 (T 14))) <|
 .op 3 (i_ 16 (.ld1 (T 15))) <|
 .op 4 (i_ 17 (.mv (T 6))) <|
 .op 5 (i_ 18 (.iaddr 4 (T 16) (T 17))) <|
 .op 6 (i_ 19 (.faddr 0 (T 18))) <|
 .op 7 (i_ 20 (.faddr 1 (T 19))) <|
 .op 8 (i_ 21 (.ldN 2 (T 20))) <|
 .op 10 (i_ 23 (.mv (T 0))) <|
 .op 11 (i_ 24 (.nilck (T 23))) <|
 .op 12 (i_ 25 (.faddr 2 (T 24))) <|
 .op 13 (i_ 26 (.ld1 (T 25))) <|
 .op 14 (i_ 27 (.mv (T 6))) <|
 .op 15 (i_ 28 (.ib .add (T 26) (T 27))) <|
 .op 16 (i_ 29 (.ib .add (T 28) (KI 1))) <|
 .op 9 (id_ 22 (.call 123 [(T 21)]) [3, 8]) <|
 .op 17 (nd_ (.st 2 (T 4) (T 22)) [8, 3]) <|
 .op 18 (i_ 5 (.mv (T 29))) <|
 .nil)
 .ret))))
def m72 : MF := ⟨30, [(.cell 4 2), (.tmp 5)], c72⟩
theorem r72 : resF Try.prog Try.f72 = some m72 := by kernel_rfl
theorem k72 : Callable Try.prog 72 := ⟨_, Try.func72, by kernel_rfl, by kernel_rfl⟩

def c73 : MC :=
 (.seq
 (.ops [i_ 2 (.mv (.const (.slice none 0 0)))])
 (.seq
 (.seq
 (.ops [i_ 6 (.mv (T 0)),
 i_ 7 (.call 76 [(T 6)]),
 i_ 8 (.not (T 7))])
 (.cond (T 8)
 (.seq
 (.ops [i_ 2 (.mv (.const (.slice none 0 0)))])
 .ret)
 .skip))
 (.seq
 (.ops [i_ 3 (.mv (.const (.slice none 0 0)))])
 (.seq
 (.seq
 (.ops [i_ 9 (.mv (T 0)),
 i_ 10 (.nilck (T 9)),
 i_ 11 (.faddr 1 (T 10)),
 i_ 12 (.ld1 (T 11)),
 i_ 13 (.lenV (T 12)),
 i_ 14 (.mv (KI 0))])
 (.block 0
 (.loop [(15, 30), (5, 6), (3, 4), (14, 15)]
 (.seq
 (.ops [i_ 15 (.ib .lss (T 14) (T 13))])
 (.seq
 (.cond (T 15)
 .skip
 (.exit 0))
 (.seq
 (.block 1
 (.seq
 (.ops [i_ 16 (.iaddr 4 (T 12) (T 14)),
 i_ 17 (.ldN 4 (T 16)),
 i_ 5 (.alloc 196 [(.int .u64 0), (.slice none 0 0), (.slice none 0 0), (.slice none 0 0)]),
 n_ (.st 4 (T 5) (T 17))])
 (.dops <|
 .op 0 (i_ 18 (.mv (T 3))) <|
 .op 1 (i_ 19 (.faddr 0 (T 5))) <|
 .op 2 (i_ 20 (.faddr 0 (T 19))) <|
 .op 3 (i_ 21 (.ld1 (T 20))) <|
 .op 4 (i_ 22 (.faddr 0 (T 5))) <|
 .op 5 (i_ 23 (.faddr 1 (T 22))) <|
 .op 6 (i_ 24 (.ldN 2 (T 23))) <|
 .op 7 (id_ 25 (.call 123 [(T 24)]) [6]) <|
 .op 8 (i_ 26 (.build [(.int .u64 0), (.slice none 0 0), (.slice none 0 0)] [(0, (1, (T 21))), (1, (2, (T 25)))])) <|
 .op 9 (id_ 27 (.bslice 127 [(.int .u64 0), (.slice none 0 0), (.slice none 0 0)] 1 3 [(0, (3, (T 26)))]) [3, 6]) <|
 .op 10 (id_ 28 (.append 127 3 56 (T 18) (T 27)) [6, 3]) <|
 .op 11 (i_ 3 (.mv (T 28))) <|
 .nil)))
 (.ops [i_ 29 (.ib .add (T 14) (KI 1)),
 i_ 14 (.mv (T 29))])))))))
 (.seq
 (.ops [i_ 30 (.mv (T 3)),
 i_ 2 (.mv (T 30))])
 .ret)))))
def m73 : MF := ⟨31, [(.tmp 2)], c73⟩
theorem r73 : resF Try.prog Try.f73 = some m73 := by kernel_rfl
theorem k73 : Callable Try.prog 73 := ⟨_, Try.func73, by kernel_rfl, by kernel_rfl⟩

def c75 : MC :=
 (.seq
 (.seq
 (.ops [i_ 4 (.mv (T 0)),
 i_ 5 (.call 76 [(T 4)]),
 i_ 6 (.not (T 5))])
 (.cond (T 6)
 .ret
 .skip))
 (.block 0
 (.loop [(7, 41)]
 (.seq
 (.seq
 (.ops [i_ 7 (.mv (T 0)),
 i_ 8 (.nilck (T 7)),
 i_ 9 (.faddr 1 (T 8)),
 i_ 10 (.ld1 (T 9)),
 i_ 11 (.lenV (T 10)),
 i_ 12 (.ib .gtr (T 11) (KI 1)),
 i_ 13 (.mv (T 12)),
 ig 14 13 true (.mv (T 0)),
 ig 15 13 true (.nilck (T 14)),
 ig 16 13 true (.faddr 1 (T 15)),
 ig 17 13 true (.ld1 (T 16)),
 ig 18 13 true (.iaddr 4 (T 17) (KI 1)),
 ig 19 13 true (.faddr 0 (T 18)),
 ig 20 13 true (.faddr 0 (T 19)),
 ig 21 13 true (.ld1 (T 20)),
 ig 22 13 true (.mv (T 1)),
 ig 23 13 true (.ib .leq (T 21) (T 22)),
 i_ 24 (.pick (T 13) (T 23) (KB false))])
 (.cond (T 24)
 .skip
 (.exit 0)))
 (.block 1
 (.seq
 (.ops [i_ 25 (.mv (T 0)),
 i_ 26 (.mv (T 0)),
 i_ 27 (.nilck (T 26)),
 i_ 28 (.faddr 1 (T 27)),
 i_ 29 (.ld1 (T 28)),
 i_ 30 (.slV 4 (T 29) (some (KI 1)) none),
 i_ 31 (.call 125 [(T 30)]),
 i_ 32 (.nilck (T 25)),
 i_ 33 (.faddr 1 (T 32)),
 n_ (.st 1 (T 33) (T 31))])
 (.ops [i_ 34 (.mv (T 0)),
 i_ 35 (.nilck (T 34)),
 i_ 36 (.faddr 2 (T 35)),
 i_ 37 (.ld1 (T 36)),
 i_ 38 (.ib .add (T 37) (KI 1)),
 i_ 39 (.nilck (T 34)),
 i_ 40 (.faddr 2 (T 39)),
 n_ (.st 1 (T 40) (T 38))])))))))
def m75 : MF := ⟨41, [], c75⟩
theorem r75 : resF Try.prog Try.f75 = some m75 := by kernel_rfl
theorem k75 : Callable Try.prog 75 := ⟨_, Try.func75, by kernel_rfl, by kernel_rfl⟩

def c76 : MC :=
 (.seq
 (.ops [i_ 2 (.mv (KB false))])
 (.seq
 (.ops [i_ 3 (.mv (T 0)),
 i_ 4 (.pnil true (T 3)),
 i_ 5 (.mv (T 4)),
 ig 6 5 true (.mv (T 0)),
 ig 7 5 true (.nilck (T 6)),
 ig 8 5 true (.faddr 0 (T 7)),
 ig 9 5 true (.ld1 (T 8)),
 i_ 10 (.pick (T 5) (T 9) (KB false)),
 i_ 2 (.mv (T 10))])
 .ret))
def m76 : MF := ⟨11, [(.tmp 2)], c76⟩
theorem r76 : resF Try.prog Try.f76 = some m76 := by kernel_rfl
theorem k76 : Callable Try.prog 76 := ⟨_, Try.func76, by kernel_rfl, by kernel_rfl⟩

def c78 : MC :=
 (.seq
 (.ops [i_ 4 (.mv (.const (.slice none 0 0)))])
 (.seq
 (.ops [i_ 9 (.mv (T 0)),
 i_ 10 (.mv (T 1)),
 i_ 11 (.call 124 [(T 9), (T 10)]),
 i_ 5 (.mv (T 11))])
 (.seq
 (.seq
 (.ops [i_ 12 (.mv (T 5)),
 i_ 13 (.ib .lss (T 12) (KI 0))])
 (.cond (T 13)
 (.seq
 (.ops [i_ 4 (.mv (.const (.slice none 0 0)))])
 .ret)
 .skip))
 (.seq
 (.ops [i_ 6 (.mv (.const (.slice none 0 0)))])
 (.seq
 (.seq
 (.ops [i_ 14 (.mv (T 0)),
 i_ 15 (.nilck (T 14)),
 i_ 16 (.faddr 1 (T 15)),
 i_ 17 (.ld1 (T 16)),
 i_ 18 (.mv (T 5)),
 i_ 19 (.iaddr 4 (T 17) (T 18)),
 i_ 20 (.faddr 3 (T 19)),
 i_ 21 (.ld1 (T 20)),
 i_ 22 (.lenV (T 21)),
 i_ 23 (.mv (KI 0))])
 (.block 0
 (.loop [(24, 33), (8, 9), (6, 7), (23, 24)]
 (.seq
 (.ops [i_ 24 (.ib .lss (T 23) (T 22))])
 (.seq
 (.cond (T 24)
 .skip
 (.exit 0))
 (.seq
 (.block 1
 (.seq
 (.ops [i_ 25 (.iaddr 1 (T 21) (T 23)),
 i_ 26 (.ld1 (T 25)),
 i_ 8 (.mv (T 26))])
 (.ops [i_ 27 (.mv (T 6)),
 i_ 28 (.mv (T 8)),
 i_ 29 (.call 126 [(T 28)]),
 i_ 30 (.bslice 105 [(.slice none 0 0)] 1 1 [(0, (1, (T 29)))]),
 i_ 31 (.append 105 1 24 (T 27) (T 30)),
 i_ 6 (.mv (T 31))])))
 (.ops [i_ 32 (.ib .add (T 23) (KI 1)),
 i_ 23 (.mv (T 32))])))))))
 (.seq
 (.ops [i_ 33 (.mv (T 6)),
 i_ 4 (.mv (T 33))])
 .ret))))))
def m78 : MF := ⟨34, [(.tmp 4)], c78⟩
theorem r78 : resF Try.prog Try.f78 = some m78 := by kernel_rfl
theorem k78 : Callable Try.prog 78 := ⟨_, Try.func78, by kernel_rfl, by kernel_rfl⟩

def c79 : MC :=
 (.seq
 (.ops [i_ 2 (.mv (KI 0))])
 (.seq
 (.seq
 (.ops [i_ 3 (.mv (T 0)),
 i_ 4 (.call 76 [(T 3)]),
 i_ 5 (.not (T 4))])
 (.cond (T 5)
 (.seq
 (.ops [i_ 2 (.mv (KI 0))])
 .ret)
 .skip))
 (.seq
 (.ops [i_ 6 (.mv (T 0)),
 i_ 7 (.nilck (T 6)),
 i_ 8 (.faddr 2 (T 7)),
 i_ 9 (.ld1 (T 8)),
 i_ 2 (.mv (T 9))])
 .ret)))
def m79 : MF := ⟨10, [(.tmp 2)], c79⟩
theorem r79 : resF Try.prog Try.f79 = some m79 := by kernel_rfl
theorem k79 : Callable Try.prog 79 := ⟨_, Try.func79, by kernel_rfl, by kernel_rfl⟩

def c123 : MC :=
 (.seq
 (.ops [i_ 1 (.box 74 (T 0)),
 i_ 2 (.alloc 74 [(.slice none 0 0), (.slice none 0 0)])])
 (.seq
 (.ops [i_ 3 (.alloc 74 [(.slice none 0 0), (.slice none 0 0)])])
 (.seq
 (.seq
 (.ops [i_ 9 (.faddr 0 (T 1)),
 i_ 10 (.ld1 (T 9)),
 i_ 11 (.lenV (T 10)),
 i_ 12 (.mv (KI 0))])
 (.block 0
 (.loop [(13, 33), (5, 7), (8, 9), (33, 48), (12, 13)]
 (.seq
 (.ops [i_ 13 (.ib .lss (T 12) (T 11))])
 (.seq
 (.cond (T 13)
 .skip
 (.exit 0))
 (.seq
 (.block 1
 (.seq
 (.ops [i_ 14 (.iaddr 2 (T 10) (T 12)),
 i_ 15 (.ldN 2 (T 14)),
 i_ 5 (.alloc 83 [(.string ⟨⟨[]⟩⟩), (.slice none 0 0)]),
 n_ (.st 2 (T 5) (T 15))])
 (.seq
 (.ops [i_ 16 (.faddr 0 (T 5)),
 i_ 17 (.ld1 (T 16)),
 i_ 18 (.build [(.string ⟨⟨[]⟩⟩), (.slice none 0 0)] [(0, (1, (T 17)))]),
 i_ 6 (.alloc 83 [(.string ⟨⟨[]⟩⟩), (.slice none 0 0)]),
 n_ (.st 2 (T 6) (T 18))])
 (.seq
 (.seq
 (.ops [i_ 19 (.faddr 1 (T 5)),
 i_ 20 (.ld1 (T 19)),
 i_ 21 (.lenV (T 20)),
 i_ 22 (.mv (KI 0))])
 (.block 2
 (.loop [(23, 33), (8, 9), (33, 41), (22, 23)]
 (.seq
 (.ops [i_ 23 (.ib .lss (T 22) (T 21))])
 (.seq
 (.cond (T 23)
 .skip
 (.exit 2))
 (.seq
 (.block 3
 (.seq
 (.ops [i_ 24 (.iaddr 3 (T 20) (T 22)),
 i_ 25 (.ldN 3 (T 24)),
 i_ 8 (.alloc 88 [(.string ⟨⟨[]⟩⟩), (.slice none 0 0), (.slice none 0 0)]),
 n_ (.st 3 (T 8) (T 25))])
 (.dops <|
 .op 0 (i_ 26 (.faddr 1 (T 6))) <|
 .op 1 (i_ 27 (.ld1 (T 26))) <|
 .op 2 (i_ 28 (.faddr 0 (T 8))) <|
 .op 3 (i_ 29 (.ld1 (T 28))) <|
 .op 4 (i_ 30 (.faddr 1 (T 8))) <|
 .op 5 (i_ 31 (.ld1 (T 30))) <|
 .op 7 (i_ 33 (.faddr 2 (T 8))) <|
 .op 8 (i_ 34 (.ld1 (T 33))) <|
 .op 6 (id_ 32 (.call 155 [(T 31)]) [5]) <|
 .op 9 (id_ 35 (.call 156 [(T 34)]) [5, 8]) <|
 .op 10 (i_ 36 (.build [(.string ⟨⟨[]⟩⟩), (.slice none 0 0), (.slice none 0 0)] [(0, (1, (T 29))), (1, (1, (T 32))), (2, (1, (T 35)))])) <|
 .op 11 (id_ 37 (.bslice 88 [(.string ⟨⟨[]⟩⟩), (.slice none 0 0), (.slice none 0 0)] 1 3 [(0, (3, (T 36)))]) [3, 5, 8]) <|
 .op 12 (id_ 38 (.append 88 3 64 (T 27) (T 37)) [8, 5, 3, 1]) <|
 .op 13 (i_ 39 (.faddr 1 (T 6))) <|
 .op 14 (nd_ (.st 1 (T 39) (T 38)) [1, 3, 5, 8]) <|
 .nil)))
 (.ops [i_ 40 (.ib .add (T 22) (KI 1)),
 i_ 22 (.mv (T 40))])))))))
 (.ops [i_ 41 (.faddr 0 (T 3)),
 i_ 42 (.ld1 (T 41)),
 i_ 43 (.ldN 2 (T 6)),
 i_ 44 (.bslice 83 [(.string ⟨⟨[]⟩⟩), (.slice none 0 0)] 1 2 [(0, (2, (T 43)))]),
 i_ 45 (.append 83 2 40 (T 42) (T 44)),
 i_ 46 (.faddr 0 (T 3)),
 n_ (.st 1 (T 46) (T 45))])))))
 (.ops [i_ 47 (.ib .add (T 12) (KI 1)),
 i_ 12 (.mv (T 47))])))))))
 (.seq
 (.ops [i_ 48 (.faddr 1 (T 1)),
 i_ 49 (.ld1 (T 48)),
 i_ 50 (.call 157 [(T 49)]),
 i_ 51 (.faddr 1 (T 3)),
 n_ (.st 1 (T 51) (T 50))])
 (.seq
 (.ops [i_ 52 (.ldN 2 (T 3)),
 n_ (.st 2 (T 2) (T 52))])
 .ret)))))
def m123 : MF := ⟨53, [(.cell 2 2)], c123⟩
theorem r123 : resF Try.prog Try.f123 = some m123 := by kernel_rfl
def c124 : MC :=
 (.seq
 (.ops [i_ 4 (.mv (KI 0))])
 (.seq
 (.seq
 (.ops [i_ 8 (.mv (T 0)),
 i_ 9 (.call 76 [(T 8)]),
 i_ 10 (.not (T 9))])
 (.cond (T 10)
 (.seq
 (.ops [i_ 4 (.mv (KI (-1)))])
 .ret)
 .skip))
 (.seq
 (.ops [i_ 5 (.mv (KI (-1)))])
 (.seq
 (.seq
 (.ops [i_ 11 (.mv (T 0)),
 i_ 12 (.nilck (T 11)),
 i_ 13 (.faddr 1 (T 12)),
 i_ 14 (.ld1 (T 13)),
 i_ 15 (.lenV (T 14)),
 i_ 16 (.mv (KI 0))])
 (.block 0
 (.loop [(17, 28), (7, 8), (6, 7), (5, 6), (16, 17)]
 (.seq
 (.ops [i_ 17 (.ib .lss (T 16) (T 15))])
 (.seq
 (.cond (T 17)
 .skip
 (.exit 0))
 (.seq
 (.block 1
 (.seq
 (.ops [i_ 18 (.mv (T 16)),
 i_ 19 (.iaddr 4 (T 14) (T 16)),
 i_ 20 (.ldN 4 (T 19)),
 i_ 7 (.alloc 196 [(.int .u64 0), (.slice none 0 0), (.slice none 0 0), (.slice none 0 0)]),
 i_ 6 (.mv (T 18)),
 n_ (.st 4 (T 7) (T 20))])
 (.seq
 (.ops [i_ 21 (.faddr 0 (T 7)),
 i_ 22 (.faddr 0 (T 21)),
 i_ 23 (.ld1 (T 22)),
 i_ 24 (.mv (T 1)),
 i_ 25 (.ib .leq (T 23) (T 24))])
 (.cond (T 25)
 (.ops [i_ 26 (.mv (T 6)),
 i_ 5 (.mv (T 26))])
 .skip))))
 (.ops [i_ 27 (.ib .add (T 16) (KI 1)),
 i_ 16 (.mv (T 27))])))))))
 (.seq
 (.ops [i_ 28 (.mv (T 5)),
 i_ 4 (.mv (T 28))])
 .ret)))))
def m124 : MF := ⟨29, [(.tmp 4)], c124⟩
theorem r124 : resF Try.prog Try.f124 = some m124 := by kernel_rfl
theorem k124 : Callable Try.prog 124 := ⟨_, Try.func124, by kernel_rfl, by kernel_rfl⟩

def c125 : MC :=
 (.seq
 (.ops [i_ 2 (.mv (.const (.slice none 0 0)))])
 (.seq
 (.seq
 (.ops [i_ 3 (.mv (T 0)),
 i_ 4 (.raw ⟨(some 4), (.binOp .eql 130 (T 3) (.const (.slice none 0 0)) 130), 4, "slices.go:357", ⟨[⟨0, .data⟩]⟩, none⟩)])
 (.cond (T 4)
 (.seq
 (.ops [i_ 2 (.mv (.const (.slice none 0 0)))])
 .ret)
 .skip))
 (.seq
 (.ops [i_ 5 (.raw ⟨(some 5), (.buildSlice 130 0 ⟨[]⟩), 130, "slices.go:362", ⟨[]⟩, none⟩),
 i_ 6 (.mv (T 0)),
 i_ 7 (.append 196 4 80 (T 5) (T 6)),
 i_ 2 (.mv (T 7))])
 .ret)))
def m125 : MF := ⟨8, [(.tmp 2)], c125⟩
theorem r125 : resF Try.prog Try.f125 = some m125 := by kernel_rfl
theorem k125 : Callable Try.prog 125 := ⟨_, Try.func125, by kernel_rfl, by kernel_rfl⟩

def c20 : MC :=
 (.seq
 (.ops [i_ 2 (.mv (KB false))])
 (.seq
 (.seq
 (.ops [i_ 3 (.mv (KI 0))])
 (.block 0
 (.loop [(7, 11), (4, 7), (11, 19), (19, 57), (2, 4)]
 (.seq
 (.seq
 (.ops [i_ 7 (.mv (T 3)),
 i_ 8 (.ib .lss (T 7) (KI 2))])
 (.cond (T 8)
 .skip
 (.exit 0)))
 (.seq
 (.block 1
 (.seq
 (.ops [i_ 4 (.mv (.const (.pointer none)))])
 (.seq
 (.seq
 (.ops [i_ 11 (.mv (T 3)),
 i_ 12 (.ib .eql (T 11) (KI 1))])
 (.cond (T 12)
 (.ops [i_ 13 (.build [(.bool false), (.slice none 0 0), (.int .i64 0)] []),
 i_ 14 (.box 132 (T 13)),
 i_ 4 (.mv (T 14))])
 .skip))
 (.seq
 (.ops [i_ 15 (.mv (T 4)),
 i_ 16 (.mv (T 0)),
 i_ 17 (.call 75 [(T 15), (T 16)])])
 (.seq
 (.ops [i_ 19 (.mv (T 4)),
 i_ 20 (.mv (T 0)),
 i_ 21 (.call 72 [(T 19), (T 20)]),
 i_ 18 (.mv (T 21)),
 i_ 22 (.ext (T 18) 0),
 i_ 23 (.ext (T 18) 1),
 i_ 5 (.alloc 74 [(.slice none 0 0), (.slice none 0 0)]),
 n_ (.st 2 (T 5) (T 22)),
 i_ 6 (.mv (T 23))])
 (.seq
 (.ops [i_ 24 (.mv (T 4)),
 i_ 25 (.call 76 [(T 24)]),
 i_ 26 (.mv (T 25)),
 ig 27 26 false (.mv (T 4)),
 ig 28 26 false (.mv (T 0)),
 ig 29 26 false (.call 77 []),
 ig 30 26 false (.call 71 [(T 27), (T 28), (T 29)]),
 ig 31 26 false (.ib .neq (T 30) (KI 1)),
 i_ 32 (.pick (T 26) (KB true) (T 31)),
 i_ 33 (.mv (T 32)),
 ig 34 33 false (.mv (T 6)),
 ig 35 33 false (.ib .neq (T 34) (KI 0)),
 i_ 36 (.pick (T 33) (KB true) (T 35)),
 i_ 37 (.mv (T 36)),
 ig 38 37 false (.ldN 2 (T 5)),
 ig 39 37 false (.build [(.slice none 0 0), (.slice none 0 0)] []),
 ig 40 37 false (.call 54 [(T 38), (T 39)]),
 ig 41 37 false (.not (T 40)),
 i_ 42 (.pick (T 37) (KB true) (T 41)),
 i_ 43 (.mv (T 42)),
 ig 44 43 false (.mv (T 4)),
 ig 45 43 false (.mv (T 0)),
 ig 46 43 false (.call 78 [(T 44), (T 45)]),
 ig 47 43 false (.lenV (T 46)),
 ig 48 43 false (.mv (T 4)),
 ig 49 43 false (.call 73 [(T 48)]),
 ig 50 43 false (.lenV (T 49)),
 ig 51 43 false (.ib .add (T 47) (T 50)),
 ig 52 43 false (.mv (T 4)),
 ig 53 43 false (.call 79 [(T 52)]),
 ig 54 43 false (.ib .add (T 51) (T 53)),
 ig 55 43 false (.ib .gtr (T 54) (KI 0)),
 i_ 56 (.pick (T 43) (KB true) (T 55))])
 (.cond (T 56)
 (.seq
 (.ops [i_ 2 (.mv (KB false))])
 .ret)
 .skip)))))))
 (.ops [i_ 9 (.mv (T 3)),
 i_ 10 (.ib .add (T 9) (KI 1)),
 i_ 3 (.mv (T 10))]))))))
 (.seq
 (.ops [i_ 57 (.call 74 []),
 i_ 2 (.mv (T 57))])
 .ret)))
def m20 : MF := ⟨58, [(.tmp 2)], c20⟩
theorem r20 : resF Try.prog Try.f20 = some m20 := by kernel_rfl
def c19 : MC :=
 (.seq
 (.ops [i_ 6 (.mv (KB false))])
 (.seq
 (.ops [i_ 15 (.call 69 []),
 i_ 7 (.mv (T 15))])
 (.seq
 (.seq
 (.ops [i_ 16 (.mv (T 7)),
 i_ 17 (.pnil false (T 16))])
 (.cond (T 17)
 (.seq
 (.ops [i_ 6 (.mv (KB false))])
 .ret)
 .skip))
 (.seq
 (.ops [i_ 18 (.mv (T 0)),
 i_ 19 (.call 70 [(T 18), (KI 8)]),
 i_ 20 (.mv (T 1)),
 i_ 21 (.call 70 [(T 20), (KI 8)]),
 i_ 0 (.mv (T 19)),
 i_ 1 (.mv (T 21))])
 (.seq
 (.seq
 (.ops [i_ 8 (.mv (KI 0))])
 (.block 0
 (.loop [(22, 28), (28, 46), (8, 9)]
 (.seq
 (.seq
 (.ops [i_ 22 (.mv (T 8)),
 i_ 23 (.mv (T 0)),
 i_ 24 (.lenV (T 23)),
 i_ 25 (.ib .lss (T 22) (T 24))])
 (.cond (T 25)
 .skip
 (.exit 0)))
 (.seq
 (.block 1
 (.seq
 (.ops [i_ 28 (.mv (T 0)),
 i_ 29 (.mv (T 8)),
 i_ 30 (.iaddr 4 (T 28) (T 29)),
 i_ 31 (.faddr 0 (T 30)),
 i_ 32 (.ld1 (T 31)),
 i_ 33 (.ib .eql (T 32) (KI 0))])
 (.cond (T 33)
 (.dops <|
 .op 0 (i_ 34 (.mv (T 7))) <|
 .op 1 (i_ 35 (.mv (T 0))) <|
 .op 2 (i_ 36 (.mv (T 8))) <|
 .op 3 (i_ 37 (.iaddr 4 (T 35) (T 36))) <|
 .op 4 (i_ 38 (.faddr 1 (T 37))) <|
 .op 5 (i_ 39 (.ld1 (T 38))) <|
 .op 6 (i_ 40 (.mv (T 0))) <|
 .op 7 (i_ 41 (.mv (T 8))) <|
 .op 8 (i_ 42 (.iaddr 4 (T 40) (T 41))) <|
 .op 9 (i_ 43 (.faddr 2 (T 42))) <|
 .op 10 (i_ 44 (.ldN 2 (T 43))) <|
 .op 11 (id_ 45 (.call 71 [(T 34), (T 39), (T 44)]) [10, 5]) <|
 .nil)
 .skip)))
 (.ops [i_ 26 (.mv (T 8)),
 i_ 27 (.ib .add (T 26) (KI 1)),
 i_ 8 (.mv (T 27))]))))))
 (.seq
 (.ops [i_ 47 (.mv (T 7)),
 i_ 48 (.mv (T 2)),
 i_ 49 (.call 72 [(T 47), (T 48)]),
 i_ 46 (.mv (T 49)),
 i_ 50 (.ext (T 46) 0),
 i_ 51 (.ext (T 46) 1),
 i_ 9 (.alloc 74 [(.slice none 0 0), (.slice none 0 0)]),
 n_ (.st 2 (T 9) (T 50)),
 i_ 10 (.mv (T 51))])
 (.seq
 (.ops [i_ 52 (.mv (T 7)),
 i_ 53 (.call 73 [(T 52)]),
 i_ 11 (.mv (T 53))])
 (.seq
 (.seq
 (.ops [i_ 54 (.mv (T 11)),
 i_ 55 (.lenV (T 54)),
 i_ 56 (.ib .eql (T 55) (KI 0)),
 i_ 57 (.mv (T 56)),
 ig 58 57 false (.mv (T 11)),
 ig 59 57 false (.mv (T 11)),
 ig 60 57 false (.lenV (T 59)),
 ig 61 57 false (.ib .sub (T 60) (KI 1)),
 ig 62 57 false (.iaddr 3 (T 58) (T 61)),
 ig 63 57 false (.faddr 0 (T 62)),
 ig 64 57 false (.ld1 (T 63)),
 ig 65 57 false (.mv (T 2)),
 ig 66 57 false (.ib .lss (T 64) (T 65)),
 i_ 67 (.pick (T 57) (KB true) (T 66))])
 (.cond (T 67)
 (.seq
 (.ops [i_ 68 (.call 74 []),
 i_ 6 (.mv (T 68))])
 .ret)
 .skip))
 (.seq
 (.seq
 (.ops [i_ 12 (.mv (KI 0))])
 (.block 2
 (.loop [(69, 75), (75, 107), (12, 13)]
 (.seq
 (.seq
 (.ops [i_ 69 (.mv (T 12)),
 i_ 70 (.mv (T 1)),
 i_ 71 (.lenV (T 70)),
 i_ 72 (.ib .lss (T 69) (T 71))])
 (.cond (T 72)
 .skip
 (.exit 2)))
 (.seq
 (.block 3
 (.seq
 (.ops [i_ 75 (.mv (T 1)),
 i_ 76 (.mv (T 12)),
 i_ 77 (.iaddr 4 (T 75) (T 76)),
 i_ 78 (.faddr 0 (T 77)),
 i_ 79 (.ld1 (T 78)),
 i_ 80 (.ib .eql (T 79) (KI 0))])
 (.cond (T 80)
 (.dops <|
 .op 0 (i_ 81 (.mv (T 7))) <|
 .op 1 (i_ 82 (.mv (T 1))) <|
 .op 2 (i_ 83 (.mv (T 12))) <|
 .op 3 (i_ 84 (.iaddr 4 (T 82) (T 83))) <|
 .op 4 (i_ 85 (.faddr 1 (T 84))) <|
 .op 5 (i_ 86 (.ld1 (T 85))) <|
 .op 6 (i_ 87 (.mv (T 1))) <|
 .op 7 (i_ 88 (.mv (T 12))) <|
 .op 8 (i_ 89 (.iaddr 4 (T 87) (T 88))) <|
 .op 9 (i_ 90 (.faddr 2 (T 89))) <|
 .op 10 (i_ 91 (.ldN 2 (T 90))) <|
 .op 11 (id_ 92 (.call 71 [(T 81), (T 86), (T 91)]) [10, 5]) <|
 .nil)
 (.seq
 (.ops [i_ 93 (.mv (T 1)),
 i_ 94 (.mv (T 12)),
 i_ 95 (.iaddr 4 (T 93) (T 94)),
 i_ 96 (.faddr 1 (T 95)),
 i_ 97 (.ld1 (T 96)),
 i_ 98 (.mv (T 2)),
 i_ 99 (.ib .leq (T 97) (T 98))])
 (.cond (T 99)
 (.ops [i_ 100 (.mv (T 7)),
 i_ 101 (.mv (T 1)),
 i_ 102 (.mv (T 12)),
 i_ 103 (.iaddr 4 (T 101) (T 102)),
 i_ 104 (.faddr 1 (T 103)),
 i_ 105 (.ld1 (T 104)),
 i_ 106 (.call 75 [(T 100), (T 105)])])
 .skip)))))
 (.ops [i_ 73 (.mv (T 12)),
 i_ 74 (.ib .add (T 73) (KI 1)),
 i_ 12 (.mv (T 74))]))))))
 (.seq
 (.ops [i_ 108 (.mv (T 7)),
 i_ 109 (.mv (T 2)),
 i_ 110 (.call 72 [(T 108), (T 109)]),
 i_ 107 (.mv (T 110)),
 i_ 111 (.ext (T 107) 0),
 i_ 112 (.ext (T 107) 1),
 i_ 13 (.alloc 74 [(.slice none 0 0), (.slice none 0 0)]),
 n_ (.st 2 (T 13) (T 111)),
 i_ 14 (.mv (T 112))])
 (.seq
 (.ops [i_ 113 (.mv (T 10)),
 i_ 114 (.mv (T 14)),
 i_ 115 (.ib .eql (T 113) (T 114)),
 i_ 116 (.mv (T 115)),
 ig 117 116 true (.ldN 2 (T 9)),
 ig 118 116 true (.ldN 2 (T 13)),
 ig 119 116 true (.call 54 [(T 117), (T 118)]),
 i_ 120 (.pick (T 116) (T 119) (KB false)),
 i_ 121 (.mv (T 120)),
 ig 122 121 true (.call 74 []),
 i_ 123 (.pick (T 121) (T 122) (KB false)),
 i_ 6 (.mv (T 123))])
 .ret)))))))))))
def m19 : MF := ⟨124, [(.tmp 6)], c19⟩
theorem r19 : resF Try.prog Try.f19 = some m19 := by kernel_rfl
def c74 : MC :=
 (.seq
 (.ops [i_ 0 (.mv (KB false))])
 (.seq
 (.ops [i_ 4 (.call 69 []),
 i_ 1 (.mv (T 4))])
 (.seq
 (.seq
 (.ops [i_ 5 (.mv (T 1)),
 i_ 6 (.pnil false (T 5)),
 i_ 7 (.mv (T 6)),
 ig 8 7 false (.mv (T 1)),
 ig 9 7 false (.call 77 []),
 ig 10 7 false (.call 71 [(T 8), (.const (.int .u64 3)), (T 9)]),
 ig 11 7 false (.ib .neq (T 10) (KI 0)),
 i_ 12 (.pick (T 7) (KB true) (T 11))])
 (.cond (T 12)
 (.seq
 (.ops [i_ 0 (.mv (KB false))])
 .ret)
 .skip))
 (.seq
 (.ops [i_ 14 (.mv (T 1)),
 i_ 15 (.call 72 [(T 14), (.const (.int .u64 3))]),
 i_ 13 (.mv (T 15)),
 i_ 16 (.ext (T 13) 0),
 i_ 17 (.ext (T 13) 1),
 i_ 2 (.alloc 74 [(.slice none 0 0), (.slice none 0 0)]),
 n_ (.st 2 (T 2) (T 16)),
 i_ 3 (.mv (T 17))])
 (.seq
 (.ops [i_ 18 (.mv (T 3)),
 i_ 19 (.ib .eql (T 18) (KI 1)),
 i_ 20 (.mv (T 19)),
 ig 21 20 true (.faddr 0 (T 2)),
 ig 22 20 true (.ld1 (T 21)),
 ig 23 20 true (.lenV (T 22)),
 ig 24 20 true (.ib .eql (T 23) (KI 1)),
 i_ 25 (.pick (T 20) (T 24) (KB false)),
 i_ 0 (.mv (T 25))])
 .ret)))))
def m74 : MF := ⟨26, [(.tmp 0)], c74⟩
theorem r74 : resF Try.prog Try.f74 = some m74 := by kernel_rfl
def c77 : MC :=
 (.seq
 (.ops [i_ 0 (.alloc 74 [(.slice none 0 0), (.slice none 0 0)])])
 (.seq
 (.ops [i_ 4 (.call 52 [(KS [110, 97, 109, 101, 115, 112, 97, 99, 101, 32, 100, 32, 123, 32, 114, 101, 108, 97, 116, 105, 111, 110, 32, 97, 58, 32, 117, 115, 101, 114, 59, 32, 125])]),
 i_ 3 (.mv (T 4)),
 i_ 5 (.ext (T 3) 0),
 i_ 6 (.ext (T 3) 1),
 i_ 1 (.alloc 74 [(.slice none 0 0), (.slice none 0 0)]),
 n_ (.st 2 (T 1) (T 5)),
 i_ 2 (.mv (T 6))])
 (.seq
 (.ops [i_ 7 (.ldN 2 (T 1)),
 n_ (.st 2 (T 0) (T 7))])
 .ret)))
def m77 : MF := ⟨8, [(.cell 0 2)], c77⟩
theorem r77 : resF Try.prog Try.f77 = some m77 := by kernel_rfl
end Go.Proofs.Ytcgbcbdgjhnlaaa

