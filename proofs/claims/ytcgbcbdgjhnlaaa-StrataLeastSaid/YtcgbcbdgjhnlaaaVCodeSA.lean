/- Functions of the program, resolved: made by a program of ours; each is checked by the kernel. -/
import Derived.Test.YtcgbcbdgjhnlaaaVPB
namespace Go.Proofs.Ytcgbcbdgjhnlaaa
def c62 : MC :=
 (.seq
 (.ops [i_ 1 (.box 74 (T 0)),
 i_ 2 (.mv (.const (.slice none 0 0))),
 i_ 3 (.mv (KI 0))])
 (.seq
 (.seq
 (.ops [i_ 8 (.ldN 2 (T 1)),
 i_ 9 (.call 55 [(T 8)]),
 i_ 10 (.not (T 9))])
 (.cond (T 10)
 (.seq
 (.ops [i_ 2 (.mv (.const (.slice none 0 0))),
 i_ 3 (.mv (KI 4))])
 .ret)
 .skip))
 (.seq
 (.ops [i_ 12 (.ldN 2 (T 1)),
 i_ 13 (.call 115 [(T 12)]),
 i_ 11 (.mv (T 13)),
 i_ 14 (.ext (T 11) 0),
 i_ 15 (.ext (T 11) 1),
 i_ 4 (.mv (T 14)),
 i_ 5 (.mv (T 15))])
 (.seq
 (.seq
 (.ops [i_ 16 (.mv (T 5)),
 i_ 17 (.not (T 16))])
 (.cond (T 17)
 (.seq
 (.ops [i_ 2 (.mv (.const (.slice none 0 0))),
 i_ 3 (.mv (KI 10))])
 .ret)
 .skip))
 (.seq
 (.ops [i_ 19 (.mv (T 4)),
 i_ 20 (.call 116 [(T 19)]),
 i_ 18 (.mv (T 20)),
 i_ 21 (.ext (T 18) 0),
 i_ 22 (.ext (T 18) 1),
 i_ 6 (.mv (T 21)),
 i_ 5 (.mv (T 22))])
 (.seq
 (.seq
 (.ops [i_ 23 (.mv (T 5)),
 i_ 24 (.not (T 23))])
 (.cond (T 24)
 (.seq
 (.ops [i_ 2 (.mv (.const (.slice none 0 0))),
 i_ 3 (.mv (KI 14))])
 .ret)
 .skip))
 (.seq
 (.ops [i_ 26 (.mv (T 4)),
 i_ 27 (.mv (T 6)),
 i_ 28 (.call 117 [(T 26), (T 27)]),
 i_ 25 (.mv (T 28)),
 i_ 29 (.ext (T 25) 0),
 i_ 30 (.ext (T 25) 1),
 i_ 7 (.mv (T 29)),
 i_ 5 (.mv (T 30))])
 (.seq
 (.seq
 (.ops [i_ 31 (.mv (T 5)),
 i_ 32 (.not (T 31))])
 (.cond (T 32)
 (.seq
 (.ops [i_ 2 (.mv (.const (.slice none 0 0))),
 i_ 3 (.mv (KI 15))])
 .ret)
 .skip))
 (.seq
 (.ops [i_ 33 (.mv (T 7)),
 i_ 2 (.mv (T 33)),
 i_ 3 (.mv (KI 0))])
 .ret)))))))))
def m62 : MF := ⟨34, [(.tmp 2), (.tmp 3)], c62⟩
theorem r62 : resF Try.prog Try.f62 = some m62 := by kernel_rfl
def c117 : MC :=
 (.seq
 (.ops [i_ 4 (.mv (.const (.slice none 0 0))),
 i_ 5 (.mv (KB false))])
 (.seq
 (.ops [i_ 12 (.mv (T 0)),
 i_ 13 (.nilck (T 12)),
 i_ 14 (.faddr 0 (T 13)),
 i_ 15 (.faddr 0 (T 14)),
 i_ 16 (.ld1 (T 15)),
 i_ 17 (.lenV (T 16)),
 i_ 18 (.mkslice 105 1 24 [(.slice none 0 0)] (T 17) (T 17)),
 i_ 6 (.mv (T 18))])
 (.seq
 (.seq
 (.ops [i_ 19 (.mv (T 0)),
 i_ 20 (.nilck (T 19)),
 i_ 21 (.faddr 0 (T 20)),
 i_ 22 (.faddr 0 (T 21)),
 i_ 23 (.ld1 (T 22)),
 i_ 24 (.lenV (T 23)),
 i_ 25 (.mv (KI 0))])
 (.block 0
 (.loop [(26, 38), (8, 9), (7, 8), (25, 26)]
 (.seq
 (.ops [i_ 26 (.ib .lss (T 25) (T 24))])
 (.seq
 (.cond (T 26)
 .skip
 (.exit 0))
 (.seq
 (.block 1
 (.seq
 (.ops [i_ 27 (.mv (T 25)),
 i_ 28 (.iaddr 2 (T 23) (T 25)),
 i_ 29 (.ldN 2 (T 28)),
 i_ 8 (.alloc 83 [(.string ⟨⟨[]⟩⟩), (.slice none 0 0)]),
 i_ 7 (.mv (T 27)),
 n_ (.st 2 (T 8) (T 29))])
 (.ops [i_ 30 (.mv (T 6)),
 i_ 31 (.mv (T 7)),
 i_ 32 (.faddr 1 (T 8)),
 i_ 33 (.ld1 (T 32)),
 i_ 34 (.lenV (T 33)),
 i_ 35 (.mkslice 3 1 8 [(.int .i64 0)] (T 34) (T 34)),
 i_ 36 (.iaddr 1 (T 30) (T 31)),
 n_ (.st 1 (T 36) (T 35))])))
 (.ops [i_ 37 (.ib .add (T 25) (KI 1)),
 i_ 25 (.mv (T 37))])))))))
 (.seq
 (.seq
 (.ops [i_ 38 (.mv (T 0)),
 i_ 39 (.nilck (T 38)),
 i_ 40 (.faddr 2 (T 39)),
 i_ 41 (.ld1 (T 40)),
 i_ 42 (.raw ⟨(some 42), (.call ⟨(.builtin .len), ⟨[(T 41)]⟩, ⟨[222]⟩⟩), 3, "strata.go:171", ⟨[⟨3, .data⟩]⟩, none⟩),
 i_ 43 (.ib .add (T 42) (KI 1)),
 i_ 44 (.mv (KI 0))])
 (.block 2
 (.loop [(45, 60), (9, 10), (11, 12), (4, 6), (44, 45)]
 (.seq
 (.ops [i_ 45 (.ib .lss (T 44) (T 43))])
 (.seq
 (.cond (T 45)
 .skip
 (.exit 2))
 (.seq
 (.block 3
 (.seq
 (.ops [i_ 9 (.mv (KB false))])
 (.seq
 (.seq
 (.ops [i_ 46 (.mv (T 1)),
 i_ 47 (.lenV (T 46)),
 i_ 48 (.mv (KI 0))])
 (.block 4
 (.loop [(49, 56), (11, 12), (9, 10), (48, 49)]
 (.seq
 (.ops [i_ 49 (.ib .lss (T 48) (T 47))])
 (.seq
 (.cond (T 49)
 .skip
 (.exit 4))
 (.seq
 (.block 5
 (.seq
 (.ops [i_ 50 (.iaddr 5 (T 46) (T 48)),
 i_ 51 (.ldN 5 (T 50)),
 i_ 11 (.alloc 231 [(.int .i64 0), (.int .i64 0), (.int .i64 0), (.int .i64 0), (.bool false)]),
 n_ (.st 5 (T 11) (T 51))])
 (.seq
 (.ops [i_ 52 (.mv (T 6)),
 i_ 53 (.ldN 5 (T 11)),
 i_ 54 (.call 154 [(T 52), (T 53)])])
 (.cond (T 54)
 (.ops [i_ 9 (.mv (KB true))])
 .skip))))
 (.ops [i_ 55 (.ib .add (T 48) (KI 1)),
 i_ 48 (.mv (T 55))])))))))
 (.seq
 (.ops [i_ 56 (.mv (T 9)),
 i_ 57 (.not (T 56))])
 (.cond (T 57)
 (.seq
 (.ops [i_ 58 (.mv (T 6)),
 i_ 4 (.mv (T 58)),
 i_ 5 (.mv (KB true))])
 .ret)
 .skip)))))
 (.ops [i_ 59 (.ib .add (T 44) (KI 1)),
 i_ 44 (.mv (T 59))])))))))
 (.seq
 (.ops [i_ 4 (.mv (.const (.slice none 0 0))),
 i_ 5 (.mv (KB false))])
 .ret)))))
def m117 : MF := ⟨60, [(.tmp 4), (.tmp 5)], c117⟩
theorem r117 : resF Try.prog Try.f117 = some m117 := by kernel_rfl
def c154 : MC :=
 (.seq
 (.ops [i_ 3 (.box 231 (T 1)),
 i_ 4 (.mv (KB false))])
 (.seq
 (.dops <|
 .op 0 (i_ 6 (.mv (T 0))) <|
 .op 1 (i_ 7 (.faddr 2 (T 3))) <|
 .op 2 (i_ 8 (.faddr 0 (T 7))) <|
 .op 3 (i_ 9 (.ld1 (T 8))) <|
 .op 4 (i_ 10 (.iaddr 1 (T 6) (T 9))) <|
 .op 5 (i_ 11 (.ld1 (T 10))) <|
 .op 6 (i_ 12 (.faddr 2 (T 3))) <|
 .op 7 (i_ 13 (.faddr 1 (T 12))) <|
 .op 8 (i_ 14 (.ld1 (T 13))) <|
 .op 9 (i_ 15 (.iaddr 1 (T 11) (T 14))) <|
 .op 10 (i_ 16 (.ld1 (T 15))) <|
 .op 11 (i_ 5 (.mv (T 16))) <|
 .nil)
 (.seq
 (.seq
 (.ops [i_ 17 (.faddr 4 (T 3)),
 i_ 18 (.ld1 (T 17))])
 (.cond (T 18)
 (.ops [i_ 19 (.mv (T 5)),
 i_ 20 (.ib .add (T 19) (KI 1)),
 i_ 5 (.mv (T 20))])
 .skip))
 (.seq
 (.seq
 (.dops <|
 .op 0 (i_ 21 (.mv (T 0))) <|
 .op 1 (i_ 22 (.faddr 0 (T 3))) <|
 .op 2 (i_ 23 (.faddr 0 (T 22))) <|
 .op 3 (i_ 24 (.ld1 (T 23))) <|
 .op 4 (i_ 25 (.iaddr 1 (T 21) (T 24))) <|
 .op 5 (i_ 26 (.ld1 (T 25))) <|
 .op 6 (i_ 27 (.faddr 0 (T 3))) <|
 .op 7 (i_ 28 (.faddr 1 (T 27))) <|
 .op 8 (i_ 29 (.ld1 (T 28))) <|
 .op 9 (i_ 30 (.iaddr 1 (T 26) (T 29))) <|
 .op 10 (i_ 31 (.ld1 (T 30))) <|
 .op 11 (i_ 32 (.mv (T 5))) <|
 .op 12 (i_ 33 (.ib .geq (T 31) (T 32))) <|
 .nil)
 (.cond (T 33)
 (.seq
 (.ops [i_ 4 (.mv (KB false))])
 .ret)
 .skip))
 (.seq
 (.dops <|
 .op 0 (i_ 34 (.mv (T 0))) <|
 .op 1 (i_ 35 (.faddr 0 (T 3))) <|
 .op 2 (i_ 36 (.faddr 0 (T 35))) <|
 .op 3 (i_ 37 (.ld1 (T 36))) <|
 .op 4 (i_ 38 (.iaddr 1 (T 34) (T 37))) <|
 .op 5 (i_ 39 (.ld1 (T 38))) <|
 .op 6 (i_ 40 (.faddr 0 (T 3))) <|
 .op 7 (i_ 41 (.faddr 1 (T 40))) <|
 .op 8 (i_ 42 (.ld1 (T 41))) <|
 .op 9 (i_ 43 (.mv (T 5))) <|
 .op 10 (i_ 44 (.iaddr 1 (T 39) (T 42))) <|
 .op 11 (nd_ (.st 1 (T 44) (T 43)) [5, 3, 8]) <|
 .nil)
 (.seq
 (.ops [i_ 4 (.mv (KB true))])
 .ret))))))
def m154 : MF := ⟨45, [(.tmp 4)], c154⟩
theorem r154 : resF Try.prog Try.f154 = some m154 := by kernel_rfl
def c172 : MC :=
 (.seq
 (.ops [i_ 3 (.box 227 (T 1)),
 i_ 4 (.alloc 88 [(.string ⟨⟨[]⟩⟩), (.slice none 0 0), (.slice none 0 0)])])
 (.seq
 (.dops <|
 .op 0 (i_ 5 (.mv (T 0))) <|
 .op 1 (i_ 6 (.nilck (T 5))) <|
 .op 2 (i_ 7 (.faddr 0 (T 6))) <|
 .op 3 (i_ 8 (.faddr 0 (T 7))) <|
 .op 4 (i_ 9 (.ld1 (T 8))) <|
 .op 5 (i_ 10 (.faddr 0 (T 3))) <|
 .op 6 (i_ 11 (.ld1 (T 10))) <|
 .op 7 (i_ 12 (.iaddr 2 (T 9) (T 11))) <|
 .op 8 (i_ 13 (.faddr 1 (T 12))) <|
 .op 9 (i_ 14 (.ld1 (T 13))) <|
 .op 10 (i_ 15 (.faddr 1 (T 3))) <|
 .op 11 (i_ 16 (.ld1 (T 15))) <|
 .op 12 (i_ 17 (.iaddr 3 (T 14) (T 16))) <|
 .op 13 (i_ 18 (.ldN 3 (T 17))) <|
 .op 14 (nd_ (.st 3 (T 4) (T 18)) [11, 4, 6, 9, 13]) <|
 .nil)
 .ret))
def m172 : MF := ⟨19, [(.cell 4 3)], c172⟩
theorem r172 : resF Try.prog Try.f172 = some m172 := by kernel_rfl
def c173 : MC :=
 (.seq
 (.ops [i_ 2 (.mv (.const (.slice none 0 0)))])
 (.seq
 (.ops [i_ 3 (.mv (.const (.slice none 0 0)))])
 (.seq
 (.seq
 (.ops [i_ 6 (.mv (T 0)),
 i_ 7 (.lenV (T 6)),
 i_ 8 (.mv (KI 0))])
 (.block 0
 (.loop [(9, 20), (5, 6), (3, 4), (8, 9)]
 (.seq
 (.ops [i_ 9 (.ib .lss (T 8) (T 7))])
 (.seq
 (.cond (T 9)
 .skip
 (.exit 0))
 (.seq
 (.block 1
 (.seq
 (.ops [i_ 10 (.iaddr 2 (T 6) (T 8)),
 i_ 11 (.ldN 2 (T 10)),
 i_ 5 (.alloc 166 [(.string ⟨⟨[]⟩⟩), (.string ⟨⟨[]⟩⟩)]),
 n_ (.st 2 (T 5) (T 11))])
 (.seq
 (.ops [i_ 12 (.faddr 0 (T 5)),
 i_ 13 (.ld1 (T 12)),
 i_ 14 (.sb .neq (T 13) (KS []))])
 (.cond (T 14)
 (.ops [i_ 15 (.mv (T 3)),
 i_ 16 (.ldN 2 (T 5)),
 i_ 17 (.bslice 166 [(.string ⟨⟨[]⟩⟩), (.string ⟨⟨[]⟩⟩)] 1 2 [(0, (2, (T 16)))]),
 i_ 18 (.append 166 2 32 (T 15) (T 17)),
 i_ 3 (.mv (T 18))])
 .skip))))
 (.ops [i_ 19 (.ib .add (T 8) (KI 1)),
 i_ 8 (.mv (T 19))])))))))
 (.seq
 (.ops [i_ 20 (.mv (T 3)),
 i_ 2 (.mv (T 20))])
 .ret))))
def m173 : MF := ⟨21, [(.tmp 2)], c173⟩
theorem r173 : resF Try.prog Try.f173 = some m173 := by kernel_rfl
def c174 : MC :=
 (.seq
 (.ops [i_ 2 (.mv (.const (.slice none 0 0)))])
 (.seq
 (.ops [i_ 6 (.mv (T 0)),
 i_ 7 (.lenV (T 6)),
 i_ 8 (.mkslice 4 1 1 [(.bool false)] (T 7) (T 7)),
 i_ 3 (.mv (T 8))])
 (.seq
 (.seq
 (.ops [i_ 9 (.mv (T 0)),
 i_ 10 (.lenV (T 9)),
 i_ 11 (.ib .sub (T 10) (KI 1)),
 i_ 4 (.mv (T 11))])
 (.block 0
 (.loop [(12, 16), (16, 44), (5, 6), (4, 5)]
 (.seq
 (.seq
 (.ops [i_ 12 (.mv (T 4)),
 i_ 13 (.ib .geq (T 12) (KI 0))])
 (.cond (T 13)
 .skip
 (.exit 0)))
 (.seq
 (.block 1
 (.seq
 (.ops [i_ 16 (.mv (T 0)),
 i_ 17 (.mv (T 4)),
 i_ 18 (.iaddr 5 (T 16) (T 17)),
 i_ 19 (.ldN 5 (T 18)),
 i_ 5 (.alloc 93 [(.int .i64 0), (.string ⟨⟨[]⟩⟩), (.string ⟨⟨[]⟩⟩), (.int .i64 0), (.int .i64 0)]),
 n_ (.st 5 (T 5) (T 19))])
 (.seq
 (.ops [i_ 20 (.faddr 0 (T 5)),
 i_ 21 (.ld1 (T 20)),
 i_ 22 (.ib .geq (T 21) (KI 4))])
 (.cond (T 22)
 (.seq
 (.dops <|
 .op 0 (i_ 23 (.mv (T 3))) <|
 .op 1 (i_ 24 (.faddr 3 (T 5))) <|
 .op 2 (i_ 25 (.ld1 (T 24))) <|
 .op 3 (i_ 26 (.mv (T 3))) <|
 .op 4 (i_ 27 (.mv (T 4))) <|
 .op 5 (i_ 28 (.iaddr 1 (T 26) (T 27))) <|
 .op 6 (i_ 29 (.ld1 (T 28))) <|
 .op 7 (i_ 30 (.iaddr 1 (T 23) (T 25))) <|
 .op 8 (nd_ (.st 1 (T 30) (T 29)) [2, 6]) <|
 .nil)
 (.dops <|
 .op 0 (i_ 31 (.mv (T 3))) <|
 .op 1 (i_ 32 (.faddr 4 (T 5))) <|
 .op 2 (i_ 33 (.ld1 (T 32))) <|
 .op 3 (i_ 34 (.mv (T 3))) <|
 .op 4 (i_ 35 (.mv (T 4))) <|
 .op 5 (i_ 36 (.iaddr 1 (T 34) (T 35))) <|
 .op 6 (i_ 37 (.ld1 (T 36))) <|
 .op 7 (i_ 38 (.mv (T 37))) <|
 .op 8 (ig 39 38 false (.faddr 0 (T 5))) <|
 .op 9 (ig 40 38 false (.ld1 (T 39))) <|
 .op 10 (ig 41 38 false (.ib .eql (T 40) (KI 6))) <|
 .op 11 (i_ 42 (.pick (T 38) (KB true) (T 41))) <|
 .op 12 (i_ 43 (.iaddr 1 (T 31) (T 33))) <|
 .op 13 (nd_ (.st 1 (T 43) (T 42)) [2, 6, 9]) <|
 .nil))
 .skip))))
 (.ops [i_ 14 (.mv (T 4)),
 i_ 15 (.ib .sub (T 14) (KI 1)),
 i_ 4 (.mv (T 15))]))))))
 (.seq
 (.ops [i_ 44 (.mv (T 3)),
 i_ 2 (.mv (T 44))])
 .ret))))
def m174 : MF := ⟨45, [(.tmp 2)], c174⟩
theorem r174 : resF Try.prog Try.f174 = some m174 := by kernel_rfl
def c175 : MC :=
 (.seq
 (.ops [i_ 4 (.box 227 (T 1)),
 i_ 5 (.box 93 (T 2)),
 i_ 6 (.mv (.const (.slice none 0 0))),
 i_ 7 (.mv (KB false))])
 (.seq
 (.dops <|
 .op 0 (i_ 20 (.mv (T 0))) <|
 .op 1 (i_ 21 (.nilck (T 20))) <|
 .op 2 (i_ 22 (.faddr 0 (T 21))) <|
 .op 3 (i_ 23 (.faddr 0 (T 22))) <|
 .op 4 (i_ 24 (.ld1 (T 23))) <|
 .op 5 (i_ 25 (.faddr 0 (T 4))) <|
 .op 6 (i_ 26 (.ld1 (T 25))) <|
 .op 7 (i_ 27 (.iaddr 2 (T 24) (T 26))) <|
 .op 8 (i_ 28 (.faddr 0 (T 27))) <|
 .op 9 (i_ 29 (.ld1 (T 28))) <|
 .op 10 (i_ 30 (.mv (T 0))) <|
 .op 11 (i_ 31 (.ldN 2 (T 4))) <|
 .both
 (.op 12 (id_ 32 (.call 172 [(T 30), (T 31)]) [11]) <|
 .op 13 (i_ 9 (.alloc 88 [(.string ⟨⟨[]⟩⟩), (.slice none 0 0), (.slice none 0 0)])) <|
 .op 14 (i_ 8 (.mv (T 29))) <|
 .op 15 (nd_ (.st 3 (T 9) (T 32)) [9, 6, 4, 11]) <|
 .nil)
 (.op 13 (i_ 9 (.alloc 88 [(.string ⟨⟨[]⟩⟩), (.slice none 0 0), (.slice none 0 0)])) <|
 .op 12 (id_ 32 (.call 172 [(T 30), (T 31)]) [11]) <|
 .op 14 (i_ 8 (.mv (T 29))) <|
 .op 15 (nd_ (.st 3 (T 9) (T 32)) [9, 6, 4, 11]) <|
 .nil))
 (.seq
 (.ops [i_ 10 (.mv (.const (.slice none 0 0)))])
 (.seq
 (.seq
 (.ops [i_ 33 (.faddr 0 (T 5)),
 i_ 34 (.ld1 (T 33))])
 (.block 0
 (.seq
 (.ops [i_ 36 (.ib .eql (T 34) (KI 1)),
 i_ 35 (.mv (T 36))])
 (.cond (T 35)
 (.ops [i_ 37 (.faddr 1 (T 9)),
 i_ 38 (.ld1 (T 37)),
 i_ 39 (.call 173 [(T 38)]),
 i_ 10 (.mv (T 39))])
 (.seq
 (.ops [i_ 41 (.ib .eql (T 34) (KI 2)),
 i_ 40 (.mv (T 41))])
 (.cond (T 40)
 (.ops [i_ 42 (.mv (T 8)),
 i_ 43 (.faddr 1 (T 5)),
 i_ 44 (.ld1 (T 43)),
 i_ 45 (.build [(.string ⟨⟨[]⟩⟩), (.string ⟨⟨[]⟩⟩)] [(0, (1, (T 42))), (1, (1, (T 44)))]),
 i_ 46 (.bslice 166 [(.string ⟨⟨[]⟩⟩), (.string ⟨⟨[]⟩⟩)] 1 2 [(0, (2, (T 45)))]),
 i_ 10 (.mv (T 46))])
 (.seq
 (.ops [i_ 48 (.ib .eql (T 34) (KI 3)),
 i_ 47 (.mv (T 48))])
 (.cond (T 47)
 (.seq
 (.dops <|
 .op 0 (i_ 50 (.mv (T 0))) <|
 .op 1 (i_ 51 (.nilck (T 50))) <|
 .op 2 (i_ 52 (.faddr 2 (T 51))) <|
 .op 3 (i_ 53 (.ld1 (T 52))) <|
 .op 4 (i_ 54 (.mv (T 8))) <|
 .op 5 (i_ 55 (.faddr 1 (T 5))) <|
 .op 6 (i_ 56 (.ld1 (T 55))) <|
 .op 7 (i_ 57 (.build [(.string ⟨⟨[]⟩⟩), (.string ⟨⟨[]⟩⟩)] [(0, (1, (T 54))), (1, (1, (T 56)))])) <|
 .both
 (.op 8 (id_ 58 (.raw ⟨(some 58), (.lookup 222 (T 53) (T 57) true), 228, "strata.go:76", ⟨[⟨3, .data⟩, ⟨7, .data⟩]⟩, none⟩) [6, 3]) <|
 .op 9 (i_ 49 (.mv (T 58))) <|
 .op 10 (i_ 59 (.ext (T 49) 0)) <|
 .op 11 (i_ 60 (.ext (T 49) 1)) <|
 .op 12 (i_ 11 (.alloc 227 [(.int .i64 0), (.int .i64 0)])) <|
 .op 13 (nd_ (.st 2 (T 11) (T 59)) [3, 6]) <|
 .op 14 (i_ 12 (.mv (T 60))) <|
 .nil)
 (.op 12 (i_ 11 (.alloc 227 [(.int .i64 0), (.int .i64 0)])) <|
 .op 8 (id_ 58 (.raw ⟨(some 58), (.lookup 222 (T 53) (T 57) true), 228, "strata.go:76", ⟨[⟨3, .data⟩, ⟨7, .data⟩]⟩, none⟩) [6, 3]) <|
 .op 9 (i_ 49 (.mv (T 58))) <|
 .op 10 (i_ 59 (.ext (T 49) 0)) <|
 .op 11 (i_ 60 (.ext (T 49) 1)) <|
 .op 13 (nd_ (.st 2 (T 11) (T 59)) [3, 6]) <|
 .op 14 (i_ 12 (.mv (T 60))) <|
 .nil))
 (.seq
 (.seq
 (.ops [i_ 61 (.mv (T 12)),
 i_ 62 (.not (T 61))])
 (.cond (T 62)
 (.seq
 (.ops [i_ 6 (.mv (.const (.slice none 0 0))),
 i_ 7 (.mv (KB false))])
 .ret)
 .skip))
 (.seq
 (.seq
 (.ops [i_ 63 (.mv (T 0)),
 i_ 64 (.ldN 2 (T 11)),
 i_ 65 (.call 172 [(T 63), (T 64)]),
 i_ 66 (.fld1 1 (T 65)),
 i_ 67 (.call 173 [(T 66)]),
 i_ 68 (.lenV (T 67)),
 i_ 69 (.mv (KI 0))])
 (.block 1
 (.loop [(70, 82), (14, 15), (10, 11), (69, 70)]
 (.seq
 (.ops [i_ 70 (.ib .lss (T 69) (T 68))])
 (.seq
 (.cond (T 70)
 .skip
 (.exit 1))
 (.seq
 (.block 2
 (.seq
 (.ops [i_ 71 (.iaddr 2 (T 67) (T 69)),
 i_ 72 (.ldN 2 (T 71)),
 i_ 14 (.alloc 166 [(.string ⟨⟨[]⟩⟩), (.string ⟨⟨[]⟩⟩)]),
 n_ (.st 2 (T 14) (T 72))])
 (.ops [i_ 73 (.mv (T 10)),
 i_ 74 (.faddr 0 (T 14)),
 i_ 75 (.ld1 (T 74)),
 i_ 76 (.faddr 2 (T 5)),
 i_ 77 (.ld1 (T 76)),
 i_ 78 (.build [(.string ⟨⟨[]⟩⟩), (.string ⟨⟨[]⟩⟩)] [(0, (1, (T 75))), (1, (1, (T 77)))]),
 i_ 79 (.bslice 166 [(.string ⟨⟨[]⟩⟩), (.string ⟨⟨[]⟩⟩)] 1 2 [(0, (2, (T 78)))]),
 i_ 80 (.append 166 2 32 (T 73) (T 79)),
 i_ 10 (.mv (T 80))])))
 (.ops [i_ 81 (.ib .add (T 69) (KI 1)),
 i_ 69 (.mv (T 81))])))))))
 (.seq
 (.ops [i_ 82 (.mv (T 10)),
 i_ 83 (.lenV (T 82)),
 i_ 84 (.ib .eql (T 83) (KI 0))])
 (.cond (T 84)
 (.seq
 (.ops [i_ 6 (.mv (.const (.slice none 0 0))),
 i_ 7 (.mv (KB false))])
 .ret)
 .skip)))))
 .skip))))))))
 (.seq
 (.ops [i_ 15 (.mv (.const (.slice none 0 0)))])
 (.seq
 (.seq
 (.ops [i_ 85 (.mv (T 10)),
 i_ 86 (.lenV (T 85)),
 i_ 87 (.mv (KI 0))])
 (.block 3
 (.loop [(88, 92), (17, 20), (92, 107), (6, 8), (15, 16), (87, 88)]
 (.seq
 (.ops [i_ 88 (.ib .lss (T 87) (T 86))])
 (.seq
 (.cond (T 88)
 .skip
 (.exit 3))
 (.seq
 (.block 4
 (.seq
 (.ops [i_ 89 (.iaddr 2 (T 85) (T 87)),
 i_ 90 (.ldN 2 (T 89)),
 i_ 17 (.alloc 166 [(.string ⟨⟨[]⟩⟩), (.string ⟨⟨[]⟩⟩)]),
 n_ (.st 2 (T 17) (T 90))])
 (.seq
 (.dops <|
 .op 0 (i_ 92 (.mv (T 0))) <|
 .op 1 (i_ 93 (.nilck (T 92))) <|
 .op 2 (i_ 94 (.faddr 2 (T 93))) <|
 .op 3 (i_ 95 (.ld1 (T 94))) <|
 .op 4 (i_ 96 (.ldN 2 (T 17))) <|
 .both
 (.op 5 (id_ 97 (.raw ⟨(some 97), (.lookup 222 (T 95) (T 96) true), 228, "strata.go:89", ⟨[⟨3, .data⟩, ⟨4, .data⟩]⟩, none⟩) [4, 3]) <|
 .op 6 (i_ 91 (.mv (T 97))) <|
 .op 7 (i_ 98 (.ext (T 91) 0)) <|
 .op 8 (i_ 99 (.ext (T 91) 1)) <|
 .op 9 (i_ 18 (.alloc 227 [(.int .i64 0), (.int .i64 0)])) <|
 .op 10 (nd_ (.st 2 (T 18) (T 98)) [3, 4]) <|
 .op 11 (i_ 19 (.mv (T 99))) <|
 .nil)
 (.op 9 (i_ 18 (.alloc 227 [(.int .i64 0), (.int .i64 0)])) <|
 .op 5 (id_ 97 (.raw ⟨(some 97), (.lookup 222 (T 95) (T 96) true), 228, "strata.go:89", ⟨[⟨3, .data⟩, ⟨4, .data⟩]⟩, none⟩) [4, 3]) <|
 .op 6 (i_ 91 (.mv (T 97))) <|
 .op 7 (i_ 98 (.ext (T 91) 0)) <|
 .op 8 (i_ 99 (.ext (T 91) 1)) <|
 .op 10 (nd_ (.st 2 (T 18) (T 98)) [3, 4]) <|
 .op 11 (i_ 19 (.mv (T 99))) <|
 .nil))
 (.seq
 (.seq
 (.ops [i_ 100 (.mv (T 19)),
 i_ 101 (.not (T 100))])
 (.cond (T 101)
 (.seq
 (.ops [i_ 6 (.mv (.const (.slice none 0 0))),
 i_ 7 (.mv (KB false))])
 .ret)
 .skip))
 (.ops [i_ 102 (.mv (T 15)),
 i_ 103 (.ldN 2 (T 18)),
 i_ 104 (.bslice 227 [(.int .i64 0), (.int .i64 0)] 1 2 [(0, (2, (T 103)))]),
 i_ 105 (.append 227 2 16 (T 102) (T 104)),
 i_ 15 (.mv (T 105))])))))
 (.ops [i_ 106 (.ib .add (T 87) (KI 1)),
 i_ 87 (.mv (T 106))])))))))
 (.seq
 (.ops [i_ 107 (.mv (T 15)),
 i_ 6 (.mv (T 107)),
 i_ 7 (.mv (KB true))])
 .ret)))))))
def m175 : MF := ⟨108, [(.tmp 6), (.tmp 7)], c175⟩
theorem r175 : resF Try.prog Try.f175 = some m175 := by kernel_rfl
def c153 : MC :=
 (.seq
 (.ops [i_ 3 (.box 227 (T 1)),
 i_ 4 (.mv (.const (.slice none 0 0))),
 i_ 5 (.mv (KB false))])
 (.seq
 (.ops [i_ 19 (.mv (T 0)),
 i_ 20 (.ldN 2 (T 3)),
 i_ 21 (.call 172 [(T 19), (T 20)]),
 i_ 6 (.alloc 88 [(.string ⟨⟨[]⟩⟩), (.slice none 0 0), (.slice none 0 0)]),
 n_ (.st 3 (T 6) (T 21))])
 (.seq
 (.seq
 (.ops [i_ 22 (.faddr 1 (T 6)),
 i_ 23 (.ld1 (T 22)),
 i_ 24 (.call 173 [(T 23)]),
 i_ 25 (.lenV (T 24)),
 i_ 26 (.mv (KI 0))])
 (.block 0
 (.loop [(27, 31), (8, 11), (31, 42), (4, 6), (26, 27)]
 (.seq
 (.ops [i_ 27 (.ib .lss (T 26) (T 25))])
 (.seq
 (.cond (T 27)
 .skip
 (.exit 0))
 (.seq
 (.block 1
 (.seq
 (.ops [i_ 28 (.iaddr 2 (T 24) (T 26)),
 i_ 29 (.ldN 2 (T 28)),
 i_ 8 (.alloc 166 [(.string ⟨⟨[]⟩⟩), (.string ⟨⟨[]⟩⟩)]),
 n_ (.st 2 (T 8) (T 29))])
 (.seq
 (.dops <|
 .op 0 (i_ 31 (.mv (T 0))) <|
 .op 1 (i_ 32 (.nilck (T 31))) <|
 .op 2 (i_ 33 (.faddr 2 (T 32))) <|
 .op 3 (i_ 34 (.ld1 (T 33))) <|
 .op 4 (i_ 35 (.ldN 2 (T 8))) <|
 .both
 (.op 5 (id_ 36 (.raw ⟨(some 36), (.lookup 222 (T 34) (T 35) true), 228, "strata.go:113", ⟨[⟨3, .data⟩, ⟨4, .data⟩]⟩, none⟩) [4, 3]) <|
 .op 6 (i_ 30 (.mv (T 36))) <|
 .op 7 (i_ 37 (.ext (T 30) 0)) <|
 .op 8 (i_ 38 (.ext (T 30) 1)) <|
 .op 9 (i_ 9 (.alloc 227 [(.int .i64 0), (.int .i64 0)])) <|
 .op 10 (nd_ (.st 2 (T 9) (T 37)) [3, 4]) <|
 .op 11 (i_ 10 (.mv (T 38))) <|
 .nil)
 (.op 9 (i_ 9 (.alloc 227 [(.int .i64 0), (.int .i64 0)])) <|
 .op 5 (id_ 36 (.raw ⟨(some 36), (.lookup 222 (T 34) (T 35) true), 228, "strata.go:113", ⟨[⟨3, .data⟩, ⟨4, .data⟩]⟩, none⟩) [4, 3]) <|
 .op 6 (i_ 30 (.mv (T 36))) <|
 .op 7 (i_ 37 (.ext (T 30) 0)) <|
 .op 8 (i_ 38 (.ext (T 30) 1)) <|
 .op 10 (nd_ (.st 2 (T 9) (T 37)) [3, 4]) <|
 .op 11 (i_ 10 (.mv (T 38))) <|
 .nil))
 (.seq
 (.ops [i_ 39 (.mv (T 10)),
 i_ 40 (.not (T 39))])
 (.cond (T 40)
 (.seq
 (.ops [i_ 4 (.mv (.const (.slice none 0 0))),
 i_ 5 (.mv (KB false))])
 .ret)
 .skip)))))
 (.ops [i_ 41 (.ib .add (T 26) (KI 1)),
 i_ 26 (.mv (T 41))])))))))
 (.seq
 (.ops [i_ 42 (.faddr 2 (T 6)),
 i_ 43 (.ld1 (T 42)),
 i_ 44 (.call 174 [(T 43)]),
 i_ 11 (.mv (T 44))])
 (.seq
 (.ops [i_ 12 (.mv (.const (.slice none 0 0)))])
 (.seq
 (.seq
 (.ops [i_ 45 (.faddr 2 (T 6)),
 i_ 46 (.ld1 (T 45)),
 i_ 47 (.lenV (T 46)),
 i_ 48 (.mv (KI 0))])
 (.block 2
 (.loop [(49, 54), (14, 17), (13, 14), (54, 80), (4, 6), (18, 19), (12, 13), (48, 49)]
 (.seq
 (.ops [i_ 49 (.ib .lss (T 48) (T 47))])
 (.seq
 (.cond (T 49)
 .skip
 (.exit 2))
 (.seq
 (.block 3
 (.seq
 (.ops [i_ 50 (.mv (T 48)),
 i_ 51 (.iaddr 5 (T 46) (T 48)),
 i_ 52 (.ldN 5 (T 51)),
 i_ 14 (.alloc 93 [(.int .i64 0), (.string ⟨⟨[]⟩⟩), (.string ⟨⟨[]⟩⟩), (.int .i64 0), (.int .i64 0)]),
 i_ 13 (.mv (T 50)),
 n_ (.st 5 (T 14) (T 52))])
 (.seq
 (.ops [i_ 54 (.mv (T 0)),
 i_ 55 (.ldN 2 (T 3)),
 i_ 56 (.ldN 5 (T 14)),
 i_ 57 (.call 175 [(T 54), (T 55), (T 56)]),
 i_ 53 (.mv (T 57)),
 i_ 58 (.ext (T 53) 0),
 i_ 59 (.ext (T 53) 1),
 i_ 15 (.mv (T 58)),
 i_ 16 (.mv (T 59))])
 (.seq
 (.seq
 (.ops [i_ 60 (.mv (T 16)),
 i_ 61 (.not (T 60))])
 (.cond (T 61)
 (.seq
 (.ops [i_ 4 (.mv (.const (.slice none 0 0))),
 i_ 5 (.mv (KB false))])
 .ret)
 .skip))
 (.seq
 (.ops [i_ 62 (.mv (T 15)),
 i_ 63 (.lenV (T 62)),
 i_ 64 (.mv (KI 0))])
 (.block 4
 (.loop [(65, 79), (18, 19), (12, 13), (64, 65)]
 (.seq
 (.ops [i_ 65 (.ib .lss (T 64) (T 63))])
 (.seq
 (.cond (T 65)
 .skip
 (.exit 4))
 (.seq
 (.block 5
 (.seq
 (.ops [i_ 66 (.iaddr 2 (T 62) (T 64)),
 i_ 67 (.ldN 2 (T 66)),
 i_ 18 (.alloc 227 [(.int .i64 0), (.int .i64 0)]),
 n_ (.st 2 (T 18) (T 67))])
 (.dops <|
 .op 0 (i_ 68 (.mv (T 12))) <|
 .op 1 (i_ 69 (.ldN 2 (T 3))) <|
 .op 2 (i_ 70 (.ldN 2 (T 18))) <|
 .op 3 (i_ 71 (.mv (T 11))) <|
 .op 4 (i_ 72 (.mv (T 13))) <|
 .op 5 (i_ 73 (.iaddr 1 (T 71) (T 72))) <|
 .op 6 (i_ 74 (.ld1 (T 73))) <|
 .op 7 (i_ 75 (.build [(.int .i64 0), (.int .i64 0), (.int .i64 0), (.int .i64 0), (.bool false)] [(0, (2, (T 69))), (2, (2, (T 70))), (4, (1, (T 74)))])) <|
 .op 8 (id_ 76 (.bslice 231 [(.int .i64 0), (.int .i64 0), (.int .i64 0), (.int .i64 0), (.bool false)] 1 5 [(0, (5, (T 75)))]) [1, 2, 6]) <|
 .op 9 (id_ 77 (.append 231 5 40 (T 68) (T 76)) [6, 2, 1]) <|
 .op 10 (i_ 12 (.mv (T 77))) <|
 .nil)))
 (.ops [i_ 78 (.ib .add (T 64) (KI 1)),
 i_ 64 (.mv (T 78))])))))))))))
 (.ops [i_ 79 (.ib .add (T 48) (KI 1)),
 i_ 48 (.mv (T 79))])))))))
 (.seq
 (.ops [i_ 80 (.mv (T 12)),
 i_ 4 (.mv (T 80)),
 i_ 5 (.mv (KB true))])
 .ret)))))))
def m153 : MF := ⟨81, [(.tmp 4), (.tmp 5)], c153⟩
theorem r153 : resF Try.prog Try.f153 = some m153 := by kernel_rfl
def c116 : MC :=
 (.seq
 (.ops [i_ 2 (.mv (.const (.slice none 0 0))),
 i_ 3 (.mv (KB false))])
 (.seq
 (.ops [i_ 4 (.mv (.const (.slice none 0 0)))])
 (.seq
 (.seq
 (.ops [i_ 14 (.mv (T 0)),
 i_ 15 (.nilck (T 14)),
 i_ 16 (.faddr 0 (T 15)),
 i_ 17 (.faddr 0 (T 16)),
 i_ 18 (.ld1 (T 17)),
 i_ 19 (.lenV (T 18)),
 i_ 20 (.mv (KI 0))])
 (.block 0
 (.loop [(21, 32), (6, 10), (5, 6), (32, 46), (2, 5), (20, 21)]
 (.seq
 (.ops [i_ 21 (.ib .lss (T 20) (T 19))])
 (.seq
 (.cond (T 21)
 .skip
 (.exit 0))
 (.seq
 (.block 1
 (.seq
 (.ops [i_ 22 (.mv (T 20)),
 i_ 23 (.iaddr 2 (T 18) (T 20)),
 i_ 24 (.ldN 2 (T 23)),
 i_ 6 (.alloc 83 [(.string ⟨⟨[]⟩⟩), (.slice none 0 0)]),
 i_ 5 (.mv (T 22)),
 n_ (.st 2 (T 6) (T 24))])
 (.seq
 (.ops [i_ 25 (.faddr 1 (T 6)),
 i_ 26 (.ld1 (T 25)),
 i_ 27 (.lenV (T 26)),
 i_ 28 (.mv (KI 0))])
 (.block 2
 (.loop [(29, 32), (7, 10), (32, 45), (2, 5), (28, 29)]
 (.seq
 (.ops [i_ 29 (.ib .lss (T 28) (T 27))])
 (.seq
 (.cond (T 29)
 .skip
 (.exit 2))
 (.seq
 (.block 3
 (.seq
 (.ops [i_ 30 (.mv (T 28)),
 i_ 7 (.mv (T 30))])
 (.seq
 (.ops [i_ 32 (.mv (T 0)),
 i_ 33 (.mv (T 5)),
 i_ 34 (.mv (T 7)),
 i_ 35 (.build [(.int .i64 0), (.int .i64 0)] [(0, (1, (T 33))), (1, (1, (T 34)))]),
 i_ 36 (.call 153 [(T 32), (T 35)]),
 i_ 31 (.mv (T 36)),
 i_ 37 (.ext (T 31) 0),
 i_ 38 (.ext (T 31) 1),
 i_ 8 (.mv (T 37)),
 i_ 9 (.mv (T 38))])
 (.seq
 (.seq
 (.ops [i_ 39 (.mv (T 9)),
 i_ 40 (.not (T 39))])
 (.cond (T 40)
 (.seq
 (.ops [i_ 2 (.mv (.const (.slice none 0 0))),
 i_ 3 (.mv (KB false))])
 .ret)
 .skip))
 (.ops [i_ 41 (.mv (T 4)),
 i_ 42 (.mv (T 8)),
 i_ 43 (.append 231 5 40 (T 41) (T 42)),
 i_ 4 (.mv (T 43))])))))
 (.ops [i_ 44 (.ib .add (T 28) (KI 1)),
 i_ 28 (.mv (T 44))])))))))))
 (.ops [i_ 45 (.ib .add (T 20) (KI 1)),
 i_ 20 (.mv (T 45))])))))))
 (.seq
 (.seq
 (.ops [i_ 46 (.mv (T 0)),
 i_ 47 (.nilck (T 46)),
 i_ 48 (.faddr 0 (T 47)),
 i_ 49 (.faddr 1 (T 48)),
 i_ 50 (.ld1 (T 49)),
 i_ 51 (.lenV (T 50)),
 i_ 52 (.mv (KI 0))])
 (.block 4
 (.loop [(53, 57), (11, 14), (57, 73), (2, 4), (52, 53)]
 (.seq
 (.ops [i_ 53 (.ib .lss (T 52) (T 51))])
 (.seq
 (.cond (T 53)
 .skip
 (.exit 4))
 (.seq
 (.block 5
 (.seq
 (.ops [i_ 54 (.iaddr 4 (T 50) (T 52)),
 i_ 55 (.ldN 4 (T 54)),
 i_ 11 (.alloc 163 [(.string ⟨⟨[]⟩⟩), (.string ⟨⟨[]⟩⟩), (.string ⟨⟨[]⟩⟩), (.string ⟨⟨[]⟩⟩)]),
 n_ (.st 4 (T 11) (T 55))])
 (.seq
 (.dops <|
 .op 0 (i_ 57 (.mv (T 0))) <|
 .op 1 (i_ 58 (.nilck (T 57))) <|
 .op 2 (i_ 59 (.faddr 2 (T 58))) <|
 .op 3 (i_ 60 (.ld1 (T 59))) <|
 .op 4 (i_ 61 (.faddr 1 (T 11))) <|
 .op 5 (i_ 62 (.faddr 0 (T 61))) <|
 .op 6 (i_ 63 (.ld1 (T 62))) <|
 .op 7 (i_ 64 (.faddr 3 (T 11))) <|
 .op 8 (i_ 65 (.ld1 (T 64))) <|
 .op 9 (i_ 66 (.build [(.string ⟨⟨[]⟩⟩), (.string ⟨⟨[]⟩⟩)] [(0, (1, (T 63))), (1, (1, (T 65)))])) <|
 .both
 (.op 10 (id_ 67 (.raw ⟨(some 67), (.lookup 222 (T 60) (T 66) true), 228, "strata.go:144", ⟨[⟨3, .data⟩, ⟨9, .data⟩]⟩, none⟩) [6, 8, 3]) <|
 .op 11 (i_ 56 (.mv (T 67))) <|
 .op 12 (i_ 68 (.ext (T 56) 0)) <|
 .op 13 (i_ 69 (.ext (T 56) 1)) <|
 .op 14 (i_ 12 (.alloc 227 [(.int .i64 0), (.int .i64 0)])) <|
 .op 15 (nd_ (.st 2 (T 12) (T 68)) [3, 8, 6]) <|
 .op 16 (i_ 13 (.mv (T 69))) <|
 .nil)
 (.op 14 (i_ 12 (.alloc 227 [(.int .i64 0), (.int .i64 0)])) <|
 .op 10 (id_ 67 (.raw ⟨(some 67), (.lookup 222 (T 60) (T 66) true), 228, "strata.go:144", ⟨[⟨3, .data⟩, ⟨9, .data⟩]⟩, none⟩) [6, 8, 3]) <|
 .op 11 (i_ 56 (.mv (T 67))) <|
 .op 12 (i_ 68 (.ext (T 56) 0)) <|
 .op 13 (i_ 69 (.ext (T 56) 1)) <|
 .op 15 (nd_ (.st 2 (T 12) (T 68)) [3, 8, 6]) <|
 .op 16 (i_ 13 (.mv (T 69))) <|
 .nil))
 (.seq
 (.ops [i_ 70 (.mv (T 13)),
 i_ 71 (.not (T 70))])
 (.cond (T 71)
 (.seq
 (.ops [i_ 2 (.mv (.const (.slice none 0 0))),
 i_ 3 (.mv (KB false))])
 .ret)
 .skip)))))
 (.ops [i_ 72 (.ib .add (T 52) (KI 1)),
 i_ 52 (.mv (T 72))])))))))
 (.seq
 (.ops [i_ 73 (.mv (T 4)),
 i_ 2 (.mv (T 73)),
 i_ 3 (.mv (KB true))])
 .ret)))))
def m116 : MF := ⟨74, [(.tmp 2), (.tmp 3)], c116⟩
theorem r116 : resF Try.prog Try.f116 = some m116 := by kernel_rfl
end Go.Proofs.Ytcgbcbdgjhnlaaa

