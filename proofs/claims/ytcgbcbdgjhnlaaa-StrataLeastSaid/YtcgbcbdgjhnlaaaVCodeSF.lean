/- Functions of the program, resolved: made by a program of ours; each is checked by the kernel. -/
import Derived.Test.YtcgbcbdgjhnlaaaVPB
namespace Go.Proofs.Ytcgbcbdgjhnlaaa
def c16 : MC :=
 (.seq
 (.ops [i_ 1 (.box 74 (T 0)),
 i_ 2 (.mv (KB false))])
 (.seq
 (.ops [i_ 14 (.ldN 2 (T 1)),
 i_ 15 (.call 60 [(T 14)]),
 n_ (.st 2 (T 1) (T 15))])
 (.seq
 (.ops [i_ 17 (.ldN 2 (T 1)),
 i_ 18 (.call 62 [(T 17)]),
 i_ 16 (.mv (T 18)),
 i_ 19 (.ext (T 16) 0),
 i_ 20 (.ext (T 16) 1),
 i_ 3 (.mv (T 19)),
 i_ 4 (.mv (T 20))])
 (.seq
 (.seq
 (.ops [i_ 21 (.mv (T 4)),
 i_ 22 (.ib .neq (T 21) (KI 0))])
 (.cond (T 22)
 (.seq
 (.ops [i_ 23 (.mv (T 3)),
 i_ 24 (.lenV (T 23)),
 i_ 25 (.ib .eql (T 24) (KI 0)),
 i_ 26 (.mv (T 25)),
 ig 27 26 true (.call 63 []),
 i_ 28 (.pick (T 26) (T 27) (KB false)),
 i_ 2 (.mv (T 28))])
 .ret)
 .skip))
 (.seq
 (.ops [i_ 30 (.ldN 2 (T 1)),
 i_ 31 (.call 64 [(T 30)]),
 i_ 29 (.mv (T 31)),
 i_ 32 (.ext (T 29) 0),
 i_ 33 (.ext (T 29) 1),
 i_ 5 (.mv (T 32)),
 i_ 6 (.mv (T 33))])
 (.seq
 (.ops [i_ 7 (.mv (.const (.slice none 0 0)))])
 (.seq
 (.seq
 (.ops [i_ 8 (.mv (KI 0))])
 (.block 0
 (.loop [(34, 40), (40, 46), (7, 9)]
 (.seq
 (.seq
 (.ops [i_ 34 (.mv (T 8)),
 i_ 35 (.mv (T 3)),
 i_ 36 (.lenV (T 35)),
 i_ 37 (.ib .lss (T 34) (T 36))])
 (.cond (T 37)
 .skip
 (.exit 0)))
 (.seq
 (.block 1
 (.ops [i_ 40 (.mv (T 7)),
 i_ 41 (.mv (T 3)),
 i_ 42 (.mv (T 8)),
 i_ 43 (.iaddr 1 (T 41) (T 42)),
 i_ 44 (.ld1 (T 43)),
 i_ 45 (.append 3 1 8 (T 40) (T 44)),
 i_ 7 (.mv (T 45))]))
 (.ops [i_ 38 (.mv (T 8)),
 i_ 39 (.ib .add (T 38) (KI 1)),
 i_ 8 (.mv (T 39))]))))))
 (.seq
 (.seq
 (.ops [i_ 46 (.mv (T 6)),
 i_ 47 (.not (T 46)),
 i_ 48 (.mv (T 47)),
 ig 49 48 false (.mv (T 7)),
 ig 50 48 false (.lenV (T 49)),
 ig 51 48 false (.ldN 2 (T 1)),
 ig 52 48 false (.call 65 [(T 51)]),
 ig 53 48 false (.lenV (T 52)),
 ig 54 48 false (.ib .neq (T 50) (T 53)),
 i_ 55 (.pick (T 48) (KB true) (T 54))])
 (.cond (T 55)
 (.seq
 (.ops [i_ 2 (.mv (KB false))])
 .ret)
 .skip))
 (.seq
 (.seq
 (.ops [i_ 9 (.mv (KI 0))])
 (.block 2
 (.loop [(56, 62), (62, 76), (2, 3), (9, 10)]
 (.seq
 (.seq
 (.ops [i_ 56 (.mv (T 9)),
 i_ 57 (.mv (T 7)),
 i_ 58 (.lenV (T 57)),
 i_ 59 (.ib .lss (T 56) (T 58))])
 (.cond (T 59)
 .skip
 (.exit 2)))
 (.seq
 (.block 3
 (.seq
 (.ops [i_ 62 (.mv (T 7)),
 i_ 63 (.mv (T 9)),
 i_ 64 (.iaddr 1 (T 62) (T 63)),
 i_ 65 (.ld1 (T 64)),
 i_ 66 (.ib .lss (T 65) (KI 0)),
 i_ 67 (.mv (T 66)),
 ig 68 67 false (.mv (T 7)),
 ig 69 67 false (.mv (T 9)),
 ig 70 67 false (.iaddr 1 (T 68) (T 69)),
 ig 71 67 false (.ld1 (T 70)),
 ig 72 67 false (.mv (T 7)),
 ig 73 67 false (.lenV (T 72)),
 ig 74 67 false (.ib .geq (T 71) (T 73)),
 i_ 75 (.pick (T 67) (KB true) (T 74))])
 (.cond (T 75)
 (.seq
 (.ops [i_ 2 (.mv (KB false))])
 .ret)
 .skip)))
 (.ops [i_ 60 (.mv (T 9)),
 i_ 61 (.ib .add (T 60) (KI 1)),
 i_ 9 (.mv (T 61))]))))))
 (.seq
 (.seq
 (.ops [i_ 10 (.mv (KI 0))])
 (.block 4
 (.loop [(76, 82), (11, 14), (82, 88), (88, 126), (2, 3), (10, 11)]
 (.seq
 (.seq
 (.ops [i_ 76 (.mv (T 10)),
 i_ 77 (.mv (T 7)),
 i_ 78 (.lenV (T 77)),
 i_ 79 (.ib .lss (T 76) (T 78))])
 (.cond (T 79)
 .skip
 (.exit 4)))
 (.seq
 (.block 5
 (.seq
 (.ops [i_ 11 (.mv (KI 0))])
 (.seq
 (.seq
 (.ops [i_ 12 (.mv (KI 0))])
 (.block 6
 (.loop [(82, 88), (88, 120), (13, 14), (2, 3), (11, 13)]
 (.seq
 (.seq
 (.ops [i_ 82 (.mv (T 12)),
 i_ 83 (.mv (T 5)),
 i_ 84 (.lenV (T 83)),
 i_ 85 (.ib .lss (T 82) (T 84))])
 (.cond (T 85)
 .skip
 (.exit 6)))
 (.seq
 (.block 7
 (.seq
 (.seq
 (.ops [i_ 88 (.mv (T 5)),
 i_ 89 (.mv (T 12)),
 i_ 90 (.iaddr 3 (T 88) (T 89)),
 i_ 91 (.faddr 0 (T 90)),
 i_ 92 (.ld1 (T 91)),
 i_ 93 (.mv (T 10)),
 i_ 94 (.ib .neq (T 92) (T 93))])
 (.cond (T 94)
 (.exit 7)
 .skip))
 (.seq
 (.ops [i_ 95 (.mv (T 7)),
 i_ 96 (.mv (T 5)),
 i_ 97 (.mv (T 12)),
 i_ 98 (.iaddr 3 (T 96) (T 97)),
 i_ 99 (.faddr 1 (T 98)),
 i_ 100 (.ld1 (T 99)),
 i_ 101 (.iaddr 1 (T 95) (T 100)),
 i_ 102 (.ld1 (T 101)),
 i_ 13 (.mv (T 102))])
 (.seq
 (.seq
 (.ops [i_ 103 (.mv (T 5)),
 i_ 104 (.mv (T 12)),
 i_ 105 (.iaddr 3 (T 103) (T 104)),
 i_ 106 (.faddr 2 (T 105)),
 i_ 107 (.ld1 (T 106))])
 (.cond (T 107)
 (.ops [i_ 108 (.mv (T 13)),
 i_ 109 (.ib .add (T 108) (KI 1)),
 i_ 13 (.mv (T 109))])
 .skip))
 (.seq
 (.seq
 (.ops [i_ 110 (.mv (T 13)),
 i_ 111 (.mv (T 7)),
 i_ 112 (.mv (T 10)),
 i_ 113 (.iaddr 1 (T 111) (T 112)),
 i_ 114 (.ld1 (T 113)),
 i_ 115 (.ib .gtr (T 110) (T 114))])
 (.cond (T 115)
 (.seq
 (.ops [i_ 2 (.mv (KB false))])
 .ret)
 .skip))
 (.seq
 (.ops [i_ 116 (.mv (T 13)),
 i_ 117 (.mv (T 11)),
 i_ 118 (.ib .gtr (T 116) (T 117))])
 (.cond (T 118)
 (.ops [i_ 119 (.mv (T 13)),
 i_ 11 (.mv (T 119))])
 .skip)))))))
 (.ops [i_ 86 (.mv (T 12)),
 i_ 87 (.ib .add (T 86) (KI 1)),
 i_ 12 (.mv (T 87))]))))))
 (.seq
 (.ops [i_ 120 (.mv (T 7)),
 i_ 121 (.mv (T 10)),
 i_ 122 (.iaddr 1 (T 120) (T 121)),
 i_ 123 (.ld1 (T 122)),
 i_ 124 (.mv (T 11)),
 i_ 125 (.ib .gtr (T 123) (T 124))])
 (.cond (T 125)
 (.seq
 (.ops [i_ 2 (.mv (KB false))])
 .ret)
 .skip)))))
 (.ops [i_ 80 (.mv (T 10)),
 i_ 81 (.ib .add (T 80) (KI 1)),
 i_ 10 (.mv (T 81))]))))))
 (.seq
 (.ops [i_ 126 (.call 63 []),
 i_ 2 (.mv (T 126))])
 .ret)))))))))))
def m16 : MF := ⟨127, [(.tmp 2)], c16⟩
theorem r16 : resF Try.prog Try.f16 = some m16 := by kernel_rfl
def c18 : MC :=
 (.seq
 (.ops [i_ 1 (.box 74 (T 0)),
 i_ 2 (.mv (KB false))])
 (.seq
 (.ops [i_ 7 (.ldN 2 (T 1)),
 i_ 8 (.call 60 [(T 7)]),
 n_ (.st 2 (T 1) (T 8))])
 (.seq
 (.ops [i_ 10 (.ldN 2 (T 1)),
 i_ 11 (.call 62 [(T 10)]),
 i_ 9 (.mv (T 11)),
 i_ 12 (.ext (T 9) 0),
 i_ 13 (.ext (T 9) 1),
 i_ 3 (.mv (T 12)),
 i_ 4 (.mv (T 13))])
 (.seq
 (.ops [i_ 15 (.ldN 2 (T 1)),
 i_ 16 (.call 66 [(T 15)]),
 i_ 14 (.mv (T 16)),
 i_ 17 (.ext (T 14) 0),
 i_ 18 (.ext (T 14) 1),
 i_ 5 (.mv (T 17)),
 i_ 6 (.mv (T 18))])
 (.seq
 (.ops [i_ 19 (.mv (T 3)),
 i_ 20 (.mv (T 5)),
 i_ 21 (.call 67 [(T 19), (T 20)]),
 i_ 22 (.mv (T 21)),
 ig 23 22 true (.mv (T 4)),
 ig 24 22 true (.mv (T 6)),
 ig 25 22 true (.ib .eql (T 23) (T 24)),
 i_ 26 (.pick (T 22) (T 25) (KB false)),
 i_ 27 (.mv (T 26)),
 ig 28 27 true (.ldN 2 (T 1)),
 ig 29 27 true (.call 68 [(T 28)]),
 ig 30 27 true (.mv (T 6)),
 ig 31 27 true (.ib .eql (T 29) (T 30)),
 i_ 32 (.pick (T 27) (T 31) (KB false)),
 i_ 33 (.mv (T 32)),
 ig 34 33 true (.call 63 []),
 i_ 35 (.pick (T 33) (T 34) (KB false)),
 i_ 2 (.mv (T 35))])
 .ret)))))
def m18 : MF := ⟨36, [(.tmp 2)], c18⟩
theorem r18 : resF Try.prog Try.f18 = some m18 := by kernel_rfl
def c68 : MC :=
 (.seq
 (.ops [i_ 1 (.box 74 (T 0)),
 i_ 2 (.mv (KI 0))])
 (.seq
 (.ops [i_ 6 (.ldN 2 (T 1)),
 i_ 7 (.call 62 [(T 6)]),
 i_ 5 (.mv (T 7)),
 i_ 8 (.ext (T 5) 0),
 i_ 9 (.ext (T 5) 1),
 i_ 3 (.mv (T 8)),
 i_ 4 (.mv (T 9))])
 (.seq
 (.ops [i_ 10 (.mv (T 4)),
 i_ 2 (.mv (T 10))])
 .ret)))
def m68 : MF := ⟨11, [(.tmp 2)], c68⟩
theorem r68 : resF Try.prog Try.f68 = some m68 := by kernel_rfl
end Go.Proofs.Ytcgbcbdgjhnlaaa

