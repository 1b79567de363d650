/- Functions of the program, resolved: made by a program of ours; each is checked by the kernel. -/
import Derived.Test.YtcgbcbdgjhnlaaaVPB
namespace Go.Proofs.Ytcgbcbdgjhnlaaa
def c14 : MC :=
 (.seq
 (.ops [i_ 2 (.mv (KB false))])
 (.seq
 (.seq
 (.ops [i_ 7 (.mv (T 0)),
 i_ 8 (.lenV (T 7)),
 i_ 9 (.ib .gtr (T 8) (KI 64)),
 i_ 10 (.mv (T 9)),
 ig 11 10 false (.mv (T 0)),
 ig 12 10 false (.call 57 [(T 11)]),
 ig 13 10 false (.ib .eql (T 12) (KI 0)),
 i_ 14 (.pick (T 10) (KB true) (T 13)),
 i_ 15 (.mv (T 14)),
 ig 16 15 false (.mv (T 0)),
 ig 17 15 false (.call 57 [(T 16)]),
 ig 18 15 false (.ib .gtr (T 17) (KI 16)),
 i_ 19 (.pick (T 15) (KB true) (T 18))])
 (.cond (T 19)
 (.seq
 (.ops [i_ 20 (.call 58 []),
 i_ 2 (.mv (T 20))])
 .ret)
 .skip))
 (.seq
 (.ops [i_ 22 (.mv (T 0)),
 i_ 23 (.call 59 [(T 22)]),
 i_ 24 (.sb .add (KS [110, 97, 109, 101, 115, 112, 97, 99, 101, 32, 97, 32, 123, 32, 114, 101, 108, 97, 116, 105, 111, 110, 32, 98, 32, 61, 32]) (T 23)),
 i_ 25 (.sb .add (T 24) (KS [59, 32, 125])),
 i_ 26 (.call 52 [(T 25)]),
 i_ 21 (.mv (T 26)),
 i_ 27 (.ext (T 21) 0),
 i_ 28 (.ext (T 21) 1),
 i_ 3 (.alloc 74 [(.slice none 0 0), (.slice none 0 0)]),
 n_ (.st 2 (T 3) (T 27)),
 i_ 4 (.mv (T 28))])
 (.seq
 (.seq
 (.ops [i_ 29 (.mv (T 4)),
 i_ 30 (.ib .eql (T 29) (KI 5))])
 (.cond (T 30)
 (.seq
 (.ops [i_ 31 (.call 58 []),
 i_ 2 (.mv (T 31))])
 .ret)
 .skip))
 (.seq
 (.seq
 (.ops [i_ 32 (.mv (T 4)),
 i_ 33 (.ib .neq (T 32) (KI 0)),
 i_ 34 (.mv (T 33)),
 ig 35 34 false (.faddr 0 (T 3)),
 ig 36 34 false (.ld1 (T 35)),
 ig 37 34 false (.lenV (T 36)),
 ig 38 34 false (.ib .neq (T 37) (KI 1)),
 i_ 39 (.pick (T 34) (KB true) (T 38)),
 i_ 40 (.mv (T 39)),
 ig 41 40 false (.faddr 0 (T 3)),
 ig 42 40 false (.ld1 (T 41)),
 ig 43 40 false (.iaddr 2 (T 42) (KI 0)),
 ig 44 40 false (.faddr 1 (T 43)),
 ig 45 40 false (.ld1 (T 44)),
 ig 46 40 false (.lenV (T 45)),
 ig 47 40 false (.ib .neq (T 46) (KI 1)),
 i_ 48 (.pick (T 40) (KB true) (T 47))])
 (.cond (T 48)
 (.seq
 (.ops [i_ 2 (.mv (KB false))])
 .ret)
 .skip))
 (.seq
 (.ops [i_ 49 (.faddr 0 (T 3)),
 i_ 50 (.ld1 (T 49)),
 i_ 51 (.iaddr 2 (T 50) (KI 0)),
 i_ 52 (.faddr 1 (T 51)),
 i_ 53 (.ld1 (T 52)),
 i_ 54 (.iaddr 3 (T 53) (KI 0)),
 i_ 55 (.faddr 2 (T 54)),
 i_ 56 (.ld1 (T 55)),
 i_ 5 (.mv (T 56))])
 (.seq
 (.seq
 (.ops [i_ 57 (.mv (T 5)),
 i_ 58 (.lenV (T 57)),
 i_ 59 (.mv (T 0)),
 i_ 60 (.lenV (T 59)),
 i_ 61 (.ib .neq (T 58) (T 60))])
 (.cond (T 61)
 (.seq
 (.ops [i_ 2 (.mv (KB false))])
 .ret)
 .skip))
 (.seq
 (.seq
 (.ops [i_ 6 (.mv (KI 0))])
 (.block 0
 (.loop [(62, 68), (68, 77), (2, 3), (6, 7)]
 (.seq
 (.seq
 (.ops [i_ 62 (.mv (T 6)),
 i_ 63 (.mv (T 0)),
 i_ 64 (.lenV (T 63)),
 i_ 65 (.ib .lss (T 62) (T 64))])
 (.cond (T 65)
 .skip
 (.exit 0)))
 (.seq
 (.block 1
 (.seq
 (.dops <|
 .op 0 (i_ 68 (.mv (T 5))) <|
 .op 1 (i_ 69 (.mv (T 6))) <|
 .op 2 (i_ 70 (.iaddr 5 (T 68) (T 69))) <|
 .op 3 (i_ 71 (.ldN 5 (T 70))) <|
 .op 4 (i_ 72 (.mv (T 0))) <|
 .op 5 (i_ 73 (.mv (T 6))) <|
 .op 6 (i_ 74 (.iaddr 5 (T 72) (T 73))) <|
 .op 7 (i_ 75 (.ldN 5 (T 74))) <|
 .op 8 (i_ 76 (.eqA true 93 [93] [1, 2, 2, 1, 1] (T 71) (T 75))) <|
 .nil)
 (.cond (T 76)
 (.seq
 (.ops [i_ 2 (.mv (KB false))])
 .ret)
 .skip)))
 (.ops [i_ 66 (.mv (T 6)),
 i_ 67 (.ib .add (T 66) (KI 1)),
 i_ 6 (.mv (T 67))]))))))
 (.seq
 (.ops [i_ 77 (.call 58 []),
 i_ 2 (.mv (T 77))])
 .ret)))))))))
def c60 : MC :=
 (.seq
 (.ops [i_ 1 (.box 74 (T 0)),
 i_ 2 (.alloc 74 [(.slice none 0 0), (.slice none 0 0)])])
 (.seq
 (.ops [i_ 12 (.build [(.slice none 0 0), (.slice none 0 0)] []),
 i_ 3 (.alloc 74 [(.slice none 0 0), (.slice none 0 0)]),
 n_ (.st 2 (T 3) (T 12))])
 (.seq
 (.seq
 (.ops [i_ 4 (.mv (KI 0))])
 (.block 0
 (.loop [(13, 24), (24, 47), (5, 10), (47, 86), (4, 5)]
 (.seq
 (.seq
 (.ops [i_ 13 (.mv (T 4)),
 i_ 14 (.faddr 0 (T 1)),
 i_ 15 (.ld1 (T 14)),
 i_ 16 (.lenV (T 15)),
 i_ 17 (.ib .lss (T 13) (T 16)),
 i_ 18 (.mv (T 17)),
 ig 19 18 true (.mv (T 4)),
 ig 20 18 true (.ib .lss (T 19) (KI 5)),
 i_ 21 (.pick (T 18) (T 20) (KB false))])
 (.cond (T 21)
 .skip
 (.exit 0)))
 (.seq
 (.block 1
 (.seq
 (.ops [i_ 24 (.faddr 0 (T 1)),
 i_ 25 (.ld1 (T 24)),
 i_ 26 (.mv (T 4)),
 i_ 27 (.iaddr 2 (T 25) (T 26)),
 i_ 28 (.faddr 0 (T 27)),
 i_ 29 (.ld1 (T 28)),
 i_ 30 (.call 21 [(T 29), (KI 40)]),
 i_ 31 (.build [(.string ⟨⟨[]⟩⟩), (.slice none 0 0)] [(0, (1, (T 30)))]),
 i_ 5 (.alloc 83 [(.string ⟨⟨[]⟩⟩), (.slice none 0 0)]),
 n_ (.st 2 (T 5) (T 31))])
 (.seq
 (.seq
 (.ops [i_ 6 (.mv (KI 0))])
 (.block 2
 (.loop [(32, 47), (47, 79), (7, 9), (6, 7)]
 (.seq
 (.seq
 (.ops [i_ 32 (.mv (T 6)),
 i_ 33 (.faddr 0 (T 1)),
 i_ 34 (.ld1 (T 33)),
 i_ 35 (.mv (T 4)),
 i_ 36 (.iaddr 2 (T 34) (T 35)),
 i_ 37 (.faddr 1 (T 36)),
 i_ 38 (.ld1 (T 37)),
 i_ 39 (.lenV (T 38)),
 i_ 40 (.ib .lss (T 32) (T 39)),
 i_ 41 (.mv (T 40)),
 ig 42 41 true (.mv (T 6)),
 ig 43 41 true (.ib .lss (T 42) (KI 6)),
 i_ 44 (.pick (T 41) (T 43) (KB false))])
 (.cond (T 44)
 .skip
 (.exit 2)))
 (.seq
 (.block 3
 (.seq
 (.ops [i_ 47 (.faddr 0 (T 1)),
 i_ 48 (.ld1 (T 47)),
 i_ 49 (.mv (T 4)),
 i_ 50 (.iaddr 2 (T 48) (T 49)),
 i_ 51 (.faddr 1 (T 50)),
 i_ 52 (.ld1 (T 51)),
 i_ 53 (.mv (T 6)),
 i_ 54 (.iaddr 3 (T 52) (T 53)),
 i_ 55 (.ldN 3 (T 54)),
 i_ 7 (.alloc 88 [(.string ⟨⟨[]⟩⟩), (.slice none 0 0), (.slice none 0 0)]),
 n_ (.st 3 (T 7) (T 55))])
 (.seq
 (.seq
 (.ops [i_ 56 (.faddr 1 (T 7)),
 i_ 57 (.ld1 (T 56)),
 i_ 58 (.lenV (T 57)),
 i_ 59 (.ib .gtr (T 58) (KI 9))])
 (.cond (T 59)
 (.ops [i_ 60 (.faddr 1 (T 7)),
 i_ 61 (.ld1 (T 60)),
 i_ 62 (.slV 2 (T 61) none (some (KI 9))),
 i_ 63 (.faddr 1 (T 7)),
 n_ (.st 1 (T 63) (T 62))])
 .skip))
 (.seq
 (.seq
 (.ops [i_ 64 (.faddr 2 (T 7)),
 i_ 65 (.ld1 (T 64)),
 i_ 66 (.lenV (T 65)),
 i_ 67 (.ib .gtr (T 66) (KI 66))])
 (.cond (T 67)
 (.ops [i_ 68 (.faddr 2 (T 7)),
 i_ 69 (.ld1 (T 68)),
 i_ 70 (.slV 5 (T 69) none (some (KI 66))),
 i_ 71 (.faddr 2 (T 7)),
 n_ (.st 1 (T 71) (T 70))])
 .skip))
 (.seq
 (.ops [i_ 72 (.faddr 1 (T 5)),
 i_ 73 (.ld1 (T 72)),
 i_ 8 (.mv (T 73))])
 (.ops [i_ 74 (.mv (T 8)),
 i_ 75 (.ldN 3 (T 7)),
 i_ 76 (.bslice 88 [(.string ⟨⟨[]⟩⟩), (.slice none 0 0), (.slice none 0 0)] 1 3 [(0, (3, (T 75)))]),
 i_ 77 (.append 88 3 64 (T 74) (T 76)),
 i_ 78 (.faddr 1 (T 5)),
 n_ (.st 1 (T 78) (T 77))]))))))
 (.ops [i_ 45 (.mv (T 6)),
 i_ 46 (.ib .add (T 45) (KI 1)),
 i_ 6 (.mv (T 46))]))))))
 (.seq
 (.ops [i_ 79 (.faddr 0 (T 3)),
 i_ 80 (.ld1 (T 79)),
 i_ 9 (.mv (T 80))])
 (.ops [i_ 81 (.mv (T 9)),
 i_ 82 (.ldN 2 (T 5)),
 i_ 83 (.bslice 83 [(.string ⟨⟨[]⟩⟩), (.slice none 0 0)] 1 2 [(0, (2, (T 82)))]),
 i_ 84 (.append 83 2 40 (T 81) (T 83)),
 i_ 85 (.faddr 0 (T 3)),
 n_ (.st 1 (T 85) (T 84))])))))
 (.ops [i_ 22 (.mv (T 4)),
 i_ 23 (.ib .add (T 22) (KI 1)),
 i_ 4 (.mv (T 23))]))))))
 (.seq
 (.seq
 (.ops [i_ 10 (.mv (KI 0))])
 (.block 4
 (.loop [(86, 97), (97, 108), (11, 12), (10, 11)]
 (.seq
 (.seq
 (.ops [i_ 86 (.mv (T 10)),
 i_ 87 (.faddr 1 (T 1)),
 i_ 88 (.ld1 (T 87)),
 i_ 89 (.lenV (T 88)),
 i_ 90 (.ib .lss (T 86) (T 89)),
 i_ 91 (.mv (T 90)),
 ig 92 91 true (.mv (T 10)),
 ig 93 91 true (.ib .lss (T 92) (KI 5)),
 i_ 94 (.pick (T 91) (T 93) (KB false))])
 (.cond (T 94)
 .skip
 (.exit 4)))
 (.seq
 (.block 5
 (.seq
 (.ops [i_ 97 (.faddr 1 (T 3)),
 i_ 98 (.ld1 (T 97)),
 i_ 11 (.mv (T 98))])
 (.ops [i_ 99 (.mv (T 11)),
 i_ 100 (.faddr 1 (T 1)),
 i_ 101 (.ld1 (T 100)),
 i_ 102 (.mv (T 10)),
 i_ 103 (.iaddr 4 (T 101) (T 102)),
 i_ 104 (.ldN 4 (T 103)),
 i_ 105 (.bslice 163 [(.string ⟨⟨[]⟩⟩), (.string ⟨⟨[]⟩⟩), (.string ⟨⟨[]⟩⟩), (.string ⟨⟨[]⟩⟩)] 1 4 [(0, (4, (T 104)))]),
 i_ 106 (.append 163 4 64 (T 99) (T 105)),
 i_ 107 (.faddr 1 (T 3)),
 n_ (.st 1 (T 107) (T 106))])))
 (.ops [i_ 95 (.mv (T 10)),
 i_ 96 (.ib .add (T 95) (KI 1)),
 i_ 10 (.mv (T 96))]))))))
 (.seq
 (.ops [i_ 108 (.ldN 2 (T 3)),
 n_ (.st 2 (T 2) (T 108))])
 .ret)))))
def m60 : MF := ⟨109, [(.cell 2 2)], c60⟩
theorem r60 : resF Try.prog Try.f60 = some m60 := by kernel_rfl
end Go.Proofs.Ytcgbcbdgjhnlaaa

