/- Functions of the program, resolved: made by a program of ours; each is checked by the kernel. -/
import Derived.Test.YtcgbcbdgjhnlaaaVPB
namespace Go.Proofs.Ytcgbcbdgjhnlaaa
def c21 : MC :=
 (.seq
 (.ops [i_ 4 (.mv (KS []))])
 (.seq
 (.seq
 (.ops [i_ 5 (.mv (T 0)),
 i_ 6 (.lenS (T 5)),
 i_ 7 (.mv (T 1)),
 i_ 8 (.ib .gtr (T 6) (T 7))])
 (.cond (T 8)
 (.seq
 (.ops [i_ 9 (.mv (T 0)),
 i_ 10 (.mv (T 1)),
 i_ 11 (.slS (T 9) none (some (T 10))),
 i_ 4 (.mv (T 11))])
 .ret)
 .skip))
 (.seq
 (.ops [i_ 12 (.mv (T 0)),
 i_ 4 (.mv (T 12))])
 .ret)))
def m21 : MF := ⟨13, [(.tmp 4)], c21⟩
theorem r21 : resF Try.prog Try.f21 = some m21 := by kernel_rfl
end Go.Proofs.Ytcgbcbdgjhnlaaa

namespace Go.Proofs.Ytcgbcbdgjhnlaaa
def c3 : MC :=
 (.seq
 (.ops [i_ 6 (.mv (KB false))])
 (.seq
 (.ops [i_ 17 (.mv (T 0)),
 i_ 18 (.call 21 [(T 17), (KI 200)]),
 i_ 19 (.mv (T 1)),
 i_ 20 (.call 21 [(T 19), (KI 60)]),
 i_ 21 (.mv (T 2)),
 i_ 22 (.call 21 [(T 21), (KI 200)]),
 i_ 0 (.mv (T 18)),
 i_ 1 (.mv (T 20)),
 i_ 2 (.mv (T 22))])
 (.seq
 (.ops [i_ 24 (.mv (T 0)),
 i_ 25 (.call 22 [(T 24)]),
 i_ 23 (.mv (T 25)),
 i_ 26 (.ext (T 23) 0),
 i_ 27 (.ext (T 23) 1),
 i_ 7 (.mv (T 26)),
 i_ 8 (.mv (T 27))])
 (.seq
 (.ops [i_ 29 (.mv (T 2)),
 i_ 30 (.call 22 [(T 29)]),
 i_ 28 (.mv (T 30)),
 i_ 31 (.ext (T 28) 0),
 i_ 32 (.ext (T 28) 1),
 i_ 9 (.mv (T 31)),
 i_ 10 (.mv (T 32))])
 (.seq
 (.seq
 (.ops [i_ 33 (.mv (T 8)),
 i_ 34 (.ib .neq (T 33) (KI 0)),
 i_ 35 (.mv (T 34)),
 ig 36 35 false (.mv (T 10)),
 ig 37 35 false (.ib .neq (T 36) (KI 0)),
 i_ 38 (.pick (T 35) (KB true) (T 37))])
 (.cond (T 38)
 (.seq
 (.ops [i_ 39 (.call 23 []),
 i_ 6 (.mv (T 39))])
 .ret)
 .skip))
 (.seq
 (.seq
 (.ops [i_ 11 (.mv (KI 0))])
 (.block 0
 (.loop [(40, 46), (46, 51), (6, 7), (11, 12)]
 (.seq
 (.seq
 (.ops [i_ 40 (.mv (T 11)),
 i_ 41 (.mv (T 1)),
 i_ 42 (.lenS (T 41)),
 i_ 43 (.ib .lss (T 40) (T 42))])
 (.cond (T 43)
 .skip
 (.exit 0)))
 (.seq
 (.block 1
 (.seq
 (.ops [i_ 46 (.mv (T 1)),
 i_ 47 (.mv (T 11)),
 i_ 48 (.idx (T 46) (T 47)),
 i_ 49 (.ib .eql (T 48) (KU 10))])
 (.cond (T 49)
 (.seq
 (.ops [i_ 50 (.call 23 []),
 i_ 6 (.mv (T 50))])
 .ret)
 .skip)))
 (.ops [i_ 44 (.mv (T 11)),
 i_ 45 (.ib .add (T 44) (KI 1)),
 i_ 11 (.mv (T 45))]))))))
 (.seq
 (.ops [i_ 51 (.mv (T 0)),
 i_ 52 (.sb .add (T 51) (KS [10])),
 i_ 12 (.mv (T 52))])
 (.seq
 (.ops [i_ 54 (.mv (T 12)),
 i_ 55 (.sb .add (T 54) (KS [47, 47])),
 i_ 56 (.mv (T 1)),
 i_ 57 (.sb .add (T 55) (T 56)),
 i_ 58 (.sb .add (T 57) (KS [10])),
 i_ 59 (.mv (T 2)),
 i_ 60 (.sb .add (T 58) (T 59)),
 i_ 61 (.call 22 [(T 60)]),
 i_ 53 (.mv (T 61)),
 i_ 62 (.ext (T 53) 0),
 i_ 63 (.ext (T 53) 1),
 i_ 13 (.mv (T 62)),
 i_ 14 (.mv (T 63))])
 (.seq
 (.seq
 (.ops [i_ 64 (.mv (T 14)),
 i_ 65 (.ib .neq (T 64) (KI 0)),
 i_ 66 (.mv (T 65)),
 ig 67 66 false (.mv (T 13)),
 ig 68 66 false (.lenV (T 67)),
 ig 69 66 false (.mv (T 7)),
 ig 70 66 false (.lenV (T 69)),
 ig 71 66 false (.mv (T 9)),
 ig 72 66 false (.lenV (T 71)),
 ig 73 66 false (.ib .add (T 70) (T 72)),
 ig 74 66 false (.ib .neq (T 68) (T 73)),
 i_ 75 (.pick (T 66) (KB true) (T 74))])
 (.cond (T 75)
 (.seq
 (.ops [i_ 6 (.mv (KB false))])
 .ret)
 .skip))
 (.seq
 (.seq
 (.ops [i_ 15 (.mv (KI 0))])
 (.block 2
 (.loop [(76, 82), (82, 114), (16, 17), (6, 7), (15, 16)]
 (.seq
 (.seq
 (.ops [i_ 76 (.mv (T 15)),
 i_ 77 (.mv (T 13)),
 i_ 78 (.lenV (T 77)),
 i_ 79 (.ib .lss (T 76) (T 78))])
 (.cond (T 79)
 .skip
 (.exit 2)))
 (.seq
 (.block 3
 (.seq
 (.ops [i_ 82 (.build [(.int .i64 0), (.string ⟨⟨[]⟩⟩), (.int .i64 0)] []),
 i_ 16 (.alloc 29 [(.int .i64 0), (.string ⟨⟨[]⟩⟩), (.int .i64 0)]),
 n_ (.st 3 (T 16) (T 82))])
 (.seq
 (.seq
 (.ops [i_ 83 (.mv (T 15)),
 i_ 84 (.mv (T 7)),
 i_ 85 (.lenV (T 84)),
 i_ 86 (.ib .lss (T 83) (T 85))])
 (.cond (T 86)
 (.ops [i_ 87 (.mv (T 7)),
 i_ 88 (.mv (T 15)),
 i_ 89 (.iaddr 3 (T 87) (T 88)),
 i_ 90 (.ldN 3 (T 89)),
 n_ (.st 3 (T 16) (T 90))])
 (.seq
 (.ops [i_ 91 (.mv (T 9)),
 i_ 92 (.mv (T 15)),
 i_ 93 (.mv (T 7)),
 i_ 94 (.lenV (T 93)),
 i_ 95 (.ib .sub (T 92) (T 94)),
 i_ 96 (.iaddr 3 (T 91) (T 95)),
 i_ 97 (.ldN 3 (T 96)),
 n_ (.st 3 (T 16) (T 97))])
 (.ops [i_ 98 (.faddr 2 (T 16)),
 i_ 99 (.ld1 (T 98)),
 i_ 100 (.mv (T 12)),
 i_ 101 (.lenS (T 100)),
 i_ 102 (.ib .add (T 99) (T 101)),
 i_ 103 (.mv (T 1)),
 i_ 104 (.lenS (T 103)),
 i_ 105 (.ib .add (T 102) (T 104)),
 i_ 106 (.ib .add (T 105) (KI 3)),
 i_ 107 (.faddr 2 (T 16)),
 n_ (.st 1 (T 107) (T 106))]))))
 (.seq
 (.dops <|
 .op 0 (i_ 108 (.mv (T 13))) <|
 .op 1 (i_ 109 (.mv (T 15))) <|
 .op 2 (i_ 110 (.iaddr 3 (T 108) (T 109))) <|
 .op 3 (i_ 111 (.ldN 3 (T 110))) <|
 .op 4 (i_ 112 (.ldN 3 (T 16))) <|
 .op 5 (i_ 113 (.eqA true 29 [29] [1, 2, 1] (T 111) (T 112))) <|
 .nil)
 (.cond (T 113)
 (.seq
 (.ops [i_ 6 (.mv (KB false))])
 .ret)
 .skip)))))
 (.ops [i_ 80 (.mv (T 15)),
 i_ 81 (.ib .add (T 80) (KI 1)),
 i_ 15 (.mv (T 81))]))))))
 (.seq
 (.ops [i_ 114 (.call 23 []),
 i_ 6 (.mv (T 114))])
 .ret)))))))))))
def m3 : MF := ⟨115, [(.tmp 6)], c3⟩
theorem r3 : resF Try.prog Try.f3 = some m3 := by kernel_rfl
theorem k3 : Callable Try.prog 3 := ⟨_, Try.func3, by kernel_rfl, by kernel_rfl⟩

def c4 : MC :=
 (.seq
 (.ops [i_ 2 (.mv (KB false))])
 (.seq
 (.ops [i_ 7 (.mv (T 0)),
 i_ 8 (.call 24 [(T 7), (KI 16381), (KI 16387)]),
 i_ 0 (.mv (T 8))])
 (.seq
 (.ops [i_ 9 (.mv (T 0)),
 i_ 10 (.mkslice 5 1 1 [(.int .u8 0)] (T 9) (T 9)),
 i_ 3 (.mv (T 10))])
 (.seq
 (.seq
 (.ops [i_ 4 (.mv (KI 0))])
 (.block 0
 (.loop [(11, 16), (16, 19), (4, 5)]
 (.seq
 (.seq
 (.ops [i_ 11 (.mv (T 4)),
 i_ 12 (.mv (T 0)),
 i_ 13 (.ib .lss (T 11) (T 12))])
 (.cond (T 13)
 .skip
 (.exit 0)))
 (.seq
 (.block 1
 (.ops [i_ 16 (.mv (T 3)),
 i_ 17 (.mv (T 4)),
 i_ 18 (.iaddr 1 (T 16) (T 17)),
 n_ (.st 1 (T 18) (KU 32))]))
 (.ops [i_ 14 (.mv (T 4)),
 i_ 15 (.ib .add (T 14) (KI 1)),
 i_ 4 (.mv (T 15))]))))))
 (.seq
 (.ops [i_ 19 (.mv (T 3)),
 i_ 20 (.iaddr 1 (T 19) (KI 0)),
 n_ (.st 1 (T 20) (KU 97))])
 (.seq
 (.ops [i_ 22 (.mv (T 3)),
 i_ 23 (.b2s (T 22)),
 i_ 24 (.call 22 [(T 23)]),
 i_ 21 (.mv (T 24)),
 i_ 25 (.ext (T 21) 0),
 i_ 26 (.ext (T 21) 1),
 i_ 5 (.mv (T 25)),
 i_ 6 (.mv (T 26))])
 (.seq
 (.ops [i_ 27 (.mv (T 6)),
 i_ 28 (.ib .eql (T 27) (KI 0)),
 i_ 29 (.mv (T 0)),
 i_ 30 (.ib .leq (T 29) (KI 16384)),
 i_ 31 (.bb .eql (T 28) (T 30)),
 i_ 32 (.mv (T 31)),
 ig 33 32 true (.mv (T 6)),
 ig 34 32 true (.ib .eql (T 33) (KI 0)),
 ig 35 32 true (.mv (T 34)),
 ig 36 35 true (.mv (T 5)),
 ig 37 35 true (.lenV (T 36)),
 ig 38 35 true (.ib .eql (T 37) (KI 1)),
 ig 39 32 true (.pick (T 35) (T 38) (KB false)),
 ig 40 32 true (.mv (T 39)),
 ig 41 40 false (.mv (T 6)),
 ig 42 40 false (.ib .eql (T 41) (KI 5)),
 ig 43 40 false (.mv (T 42)),
 ig 44 43 true (.mv (T 5)),
 ig 45 43 true (.lenV (T 44)),
 ig 46 43 true (.ib .eql (T 45) (KI 0)),
 ig 47 40 false (.pick (T 43) (T 46) (KB false)),
 ig 48 32 true (.pick (T 40) (KB true) (T 47)),
 i_ 49 (.pick (T 32) (T 48) (KB false)),
 i_ 50 (.mv (T 49)),
 ig 51 50 true (.call 23 []),
 i_ 52 (.pick (T 50) (T 51) (KB false)),
 i_ 2 (.mv (T 52))])
 .ret)))))))
def m4 : MF := ⟨53, [(.tmp 2)], c4⟩
theorem r4 : resF Try.prog Try.f4 = some m4 := by kernel_rfl
theorem k4 : Callable Try.prog 4 := ⟨_, Try.func4, by kernel_rfl, by kernel_rfl⟩

def c5 : MC :=
 (.seq
 (.ops [i_ 2 (.mv (KB false))])
 (.seq
 (.ops [i_ 7 (.mv (T 0)),
 i_ 8 (.call 21 [(T 7), (KI 400)]),
 i_ 0 (.mv (T 8))])
 (.seq
 (.ops [i_ 10 (.mv (T 0)),
 i_ 11 (.call 22 [(T 10)]),
 i_ 9 (.mv (T 11)),
 i_ 12 (.ext (T 9) 0),
 i_ 13 (.ext (T 9) 1),
 i_ 3 (.mv (T 12)),
 i_ 4 (.mv (T 13))])
 (.seq
 (.ops [i_ 15 (.mv (T 0)),
 i_ 16 (.call 25 [(T 15)]),
 i_ 14 (.mv (T 16)),
 i_ 17 (.ext (T 14) 0),
 i_ 18 (.ext (T 14) 1),
 i_ 5 (.mv (T 17)),
 i_ 6 (.mv (T 18))])
 (.seq
 (.ops [i_ 19 (.mv (T 3)),
 i_ 20 (.mv (T 5)),
 i_ 21 (.call 26 [(T 19), (T 20)]),
 i_ 22 (.mv (T 21)),
 ig 23 22 true (.mv (T 4)),
 ig 24 22 true (.mv (T 6)),
 ig 25 22 true (.ib .eql (T 23) (T 24)),
 i_ 26 (.pick (T 22) (T 25) (KB false)),
 i_ 27 (.mv (T 26)),
 ig 28 27 true (.mv (T 3)),
 ig 29 27 true (.call 27 [(T 28)]),
 ig 30 27 true (.mv (T 5)),
 ig 31 27 true (.call 28 [(T 30)]),
 ig 32 27 true (.sb .eql (T 29) (T 31)),
 i_ 33 (.pick (T 27) (T 32) (KB false)),
 i_ 34 (.mv (T 33)),
 ig 35 34 true (.call 23 []),
 i_ 36 (.pick (T 34) (T 35) (KB false)),
 i_ 2 (.mv (T 36))])
 .ret)))))
def m5 : MF := ⟨37, [(.tmp 2)], c5⟩
theorem r5 : resF Try.prog Try.f5 = some m5 := by kernel_rfl
theorem k5 : Callable Try.prog 5 := ⟨_, Try.func5, by kernel_rfl, by kernel_rfl⟩

def c6 : MC :=
 (.seq
 (.ops [i_ 2 (.mv (KB false))])
 (.seq
 (.ops [i_ 8 (.mv (T 0)),
 i_ 9 (.call 21 [(T 8), (KI 400)]),
 i_ 0 (.mv (T 9))])
 (.seq
 (.ops [i_ 11 (.mv (T 0)),
 i_ 12 (.call 22 [(T 11)]),
 i_ 10 (.mv (T 12)),
 i_ 13 (.ext (T 10) 0),
 i_ 14 (.ext (T 10) 1),
 i_ 3 (.mv (T 13)),
 i_ 4 (.mv (T 14))])
 (.seq
 (.seq
 (.ops [i_ 15 (.mv (T 4)),
 i_ 16 (.ib .neq (T 15) (KI 0))])
 (.cond (T 16)
 (.seq
 (.ops [i_ 17 (.mv (T 3)),
 i_ 18 (.lenV (T 17)),
 i_ 19 (.ib .eql (T 18) (KI 0)),
 i_ 20 (.mv (T 19)),
 ig 21 20 true (.call 23 []),
 i_ 22 (.pick (T 20) (T 21) (KB false)),
 i_ 2 (.mv (T 22))])
 .ret)
 .skip))
 (.seq
 (.ops [i_ 24 (.mv (T 3)),
 i_ 25 (.call 27 [(T 24)]),
 i_ 26 (.call 22 [(T 25)]),
 i_ 23 (.mv (T 26)),
 i_ 27 (.ext (T 23) 0),
 i_ 28 (.ext (T 23) 1),
 i_ 5 (.mv (T 27)),
 i_ 6 (.mv (T 28))])
 (.seq
 (.seq
 (.ops [i_ 29 (.mv (T 6)),
 i_ 30 (.ib .neq (T 29) (KI 0)),
 i_ 31 (.mv (T 30)),
 ig 32 31 false (.mv (T 3)),
 ig 33 31 false (.lenV (T 32)),
 ig 34 31 false (.mv (T 5)),
 ig 35 31 false (.lenV (T 34)),
 ig 36 31 false (.ib .neq (T 33) (T 35)),
 i_ 37 (.pick (T 31) (KB true) (T 36))])
 (.cond (T 37)
 (.seq
 (.ops [i_ 2 (.mv (KB false))])
 .ret)
 .skip))
 (.seq
 (.seq
 (.ops [i_ 7 (.mv (KI 0))])
 (.block 0
 (.loop [(38, 44), (44, 68), (2, 3), (7, 8)]
 (.seq
 (.seq
 (.ops [i_ 38 (.mv (T 7)),
 i_ 39 (.mv (T 3)),
 i_ 40 (.lenV (T 39)),
 i_ 41 (.ib .lss (T 38) (T 40))])
 (.cond (T 41)
 .skip
 (.exit 0)))
 (.seq
 (.block 1
 (.seq
 (.dops <|
 .op 0 (i_ 44 (.mv (T 3))) <|
 .op 1 (i_ 45 (.mv (T 7))) <|
 .op 2 (i_ 46 (.iaddr 3 (T 44) (T 45))) <|
 .op 3 (i_ 47 (.faddr 0 (T 46))) <|
 .op 4 (i_ 48 (.ld1 (T 47))) <|
 .op 5 (i_ 49 (.mv (T 5))) <|
 .op 6 (i_ 50 (.mv (T 7))) <|
 .op 7 (i_ 51 (.iaddr 3 (T 49) (T 50))) <|
 .op 8 (i_ 52 (.faddr 0 (T 51))) <|
 .op 9 (i_ 53 (.ld1 (T 52))) <|
 .op 10 (i_ 54 (.ib .neq (T 48) (T 53))) <|
 .op 11 (i_ 55 (.mv (T 54))) <|
 .op 12 (ig 56 55 false (.mv (T 3))) <|
 .op 13 (ig 57 55 false (.mv (T 7))) <|
 .op 14 (ig 58 55 false (.iaddr 3 (T 56) (T 57))) <|
 .op 15 (ig 59 55 false (.faddr 1 (T 58))) <|
 .op 16 (ig 60 55 false (.ld1 (T 59))) <|
 .op 17 (ig 61 55 false (.mv (T 5))) <|
 .op 18 (ig 62 55 false (.mv (T 7))) <|
 .op 19 (ig 63 55 false (.iaddr 3 (T 61) (T 62))) <|
 .op 20 (ig 64 55 false (.faddr 1 (T 63))) <|
 .op 21 (ig 65 55 false (.ld1 (T 64))) <|
 .op 22 (ig 66 55 false (.sb .neq (T 60) (T 65))) <|
 .op 23 (i_ 67 (.pick (T 55) (KB true) (T 66))) <|
 .nil)
 (.cond (T 67)
 (.seq
 (.ops [i_ 2 (.mv (KB false))])
 .ret)
 .skip)))
 (.ops [i_ 42 (.mv (T 7)),
 i_ 43 (.ib .add (T 42) (KI 1)),
 i_ 7 (.mv (T 43))]))))))
 (.seq
 (.ops [i_ 68 (.call 23 []),
 i_ 2 (.mv (T 68))])
 .ret))))))))
theorem k6 : Callable Try.prog 6 := ⟨_, Try.func6, by kernel_rfl, by kernel_rfl⟩

def c22 : MC :=
 (.seq
 (.ops [i_ 2 (.mv (.const (.slice none 0 0))),
 i_ 3 (.mv (KI 0))])
 (.seq
 (.seq
 (.ops [i_ 8 (.mv (T 0)),
 i_ 9 (.lenS (T 8)),
 i_ 10 (.ib .gtr (T 9) (KI 16384))])
 (.cond (T 10)
 (.seq
 (.ops [i_ 2 (.mv (.const (.slice none 0 0))),
 i_ 3 (.mv (KI 5))])
 .ret)
 .skip))
 (.seq
 (.ops [i_ 11 (.mv (T 0)),
 i_ 12 (.build [(.string ⟨⟨[]⟩⟩), (.int .i64 0)] [(0, (1, (T 11)))]),
 i_ 13 (.box 139 (T 12)),
 i_ 4 (.mv (T 13))])
 (.seq
 (.ops [i_ 5 (.mv (.const (.slice none 0 0)))])
 (.block 0
 (.loop [(14, 25), (2, 4), (25, 35), (6, 8), (5, 6)]
 (.block 1
 (.seq
 (.ops [i_ 14 (.mv (T 4)),
 i_ 15 (.call 80 [(T 14)])])
 (.seq
 (.seq
 (.ops [i_ 16 (.mv (T 4)),
 i_ 17 (.nilck (T 16)),
 i_ 18 (.faddr 1 (T 17)),
 i_ 19 (.ld1 (T 18)),
 i_ 20 (.mv (T 0)),
 i_ 21 (.lenS (T 20)),
 i_ 22 (.ib .eql (T 19) (T 21))])
 (.cond (T 22)
 (.seq
 (.ops [i_ 23 (.mv (T 5)),
 i_ 2 (.mv (T 23)),
 i_ 3 (.mv (KI 0))])
 .ret)
 .skip))
 (.seq
 (.ops [i_ 25 (.mv (T 4)),
 i_ 26 (.call 81 [(T 25)]),
 i_ 24 (.mv (T 26)),
 i_ 27 (.ext (T 24) 0),
 i_ 28 (.ext (T 24) 1),
 i_ 6 (.alloc 29 [(.int .i64 0), (.string ⟨⟨[]⟩⟩), (.int .i64 0)]),
 n_ (.st 3 (T 6) (T 27)),
 i_ 7 (.mv (T 28))])
 (.seq
 (.seq
 (.ops [i_ 29 (.mv (T 7)),
 i_ 30 (.not (T 29))])
 (.cond (T 30)
 (.seq
 (.ops [i_ 2 (.mv (.const (.slice none 0 0))),
 i_ 3 (.mv (KI 4))])
 .ret)
 .skip))
 (.ops [i_ 31 (.mv (T 5)),
 i_ 32 (.ldN 3 (T 6)),
 i_ 33 (.bslice 29 [(.int .i64 0), (.string ⟨⟨[]⟩⟩), (.int .i64 0)] 1 3 [(0, (3, (T 32)))]),
 i_ 34 (.append 29 3 32 (T 31) (T 33)),
 i_ 5 (.mv (T 34))]))))))))))))
def m22 : MF := ⟨35, [(.tmp 2), (.tmp 3)], c22⟩
theorem r22 : resF Try.prog Try.f22 = some m22 := by kernel_rfl
def c80 : MC :=
 (.block 0
 (.loop [(2, 17)]
 (.block 1
 (.seq
 (.ops [i_ 2 (.mv (T 0)),
 i_ 3 (.call 127 [(T 2), (FN 128)])])
 (.seq
 (.seq
 (.dops <|
 .op 0 (i_ 4 (.mv (T 0))) <|
 .op 1 (i_ 5 (.nilck (T 4))) <|
 .op 2 (i_ 6 (.faddr 0 (T 5))) <|
 .op 3 (i_ 7 (.ld1 (T 6))) <|
 .op 4 (i_ 8 (.mv (T 0))) <|
 .op 5 (i_ 9 (.nilck (T 8))) <|
 .op 6 (i_ 10 (.faddr 1 (T 9))) <|
 .op 7 (i_ 11 (.ld1 (T 10))) <|
 .op 8 (i_ 12 (.slS (T 7) (some (T 11)) none)) <|
 .op 9 (id_ 13 (.call 129 [(T 12), (KS [47, 47])]) [3, 7]) <|
 .op 10 (i_ 14 (.not (T 13))) <|
 .nil)
 (.cond (T 14)
 .ret
 .skip))
 (.ops [i_ 15 (.mv (T 0)),
 i_ 16 (.call 127 [(T 15), (FN 130)])]))))))
def m80 : MF := ⟨17, [], c80⟩
theorem r80 : resF Try.prog Try.f80 = some m80 := by kernel_rfl
theorem k80 : Callable Try.prog 80 := ⟨_, Try.func80, by kernel_rfl, by kernel_rfl⟩

def c81 : MC :=
 (.seq
 (.ops [i_ 2 (.alloc 29 [(.int .i64 0), (.string ⟨⟨[]⟩⟩), (.int .i64 0)]),
 i_ 3 (.mv (KB false))])
 (.seq
 (.ops [i_ 8 (.mv (T 0)),
 i_ 9 (.nilck (T 8)),
 i_ 10 (.faddr 1 (T 9)),
 i_ 11 (.ld1 (T 10)),
 i_ 12 (.build [(.int .i64 0), (.string ⟨⟨[]⟩⟩), (.int .i64 0)] [(2, (1, (T 11)))]),
 i_ 4 (.alloc 29 [(.int .i64 0), (.string ⟨⟨[]⟩⟩), (.int .i64 0)]),
 n_ (.st 3 (T 4) (T 12))])
 (.seq
 (.dops <|
 .op 0 (i_ 13 (.mv (T 0))) <|
 .op 1 (i_ 14 (.nilck (T 13))) <|
 .op 2 (i_ 15 (.faddr 0 (T 14))) <|
 .op 3 (i_ 16 (.ld1 (T 15))) <|
 .op 4 (i_ 17 (.mv (T 0))) <|
 .op 5 (i_ 18 (.nilck (T 17))) <|
 .op 6 (i_ 19 (.faddr 1 (T 18))) <|
 .op 7 (i_ 20 (.ld1 (T 19))) <|
 .op 8 (i_ 21 (.idx (T 16) (T 20))) <|
 .op 9 (i_ 5 (.mv (T 21))) <|
 .nil)
 (.seq
 (.block 0
 (.seq
 (.ops [i_ 24 (.mv (T 5)),
 i_ 25 (.call 131 [(T 24)]),
 i_ 23 (.mv (T 25))])
 (.cond (T 23)
 (.ops [i_ 26 (.mv (T 0)),
 i_ 27 (.call 127 [(T 26), (FN 131)]),
 i_ 28 (.faddr 0 (T 4)),
 n_ (.st 1 (T 28) (KI 1)),
 i_ 29 (.faddr 1 (T 4)),
 n_ (.st 1 (T 29) (T 27))])
 (.seq
 (.ops [i_ 31 (.mv (T 5)),
 i_ 32 (.ib .eql (T 31) (KU 34)),
 i_ 30 (.mv (T 32))])
 (.cond (T 30)
 (.seq
 (.ops [i_ 34 (.mv (T 0)),
 i_ 35 (.call 132 [(T 34)]),
 i_ 33 (.mv (T 35)),
 i_ 36 (.ext (T 33) 0),
 i_ 37 (.ext (T 33) 1),
 i_ 6 (.mv (T 36)),
 i_ 7 (.mv (T 37))])
 (.seq
 (.ops [i_ 38 (.mv (T 6)),
 i_ 39 (.faddr 0 (T 4)),
 n_ (.st 1 (T 39) (KI 2)),
 i_ 40 (.faddr 1 (T 4)),
 n_ (.st 1 (T 40) (T 38))])
 (.seq
 (.ops [i_ 41 (.ldN 3 (T 4)),
 i_ 42 (.mv (T 7)),
 n_ (.st 3 (T 2) (T 41)),
 i_ 3 (.mv (T 42))])
 .ret)))
 (.seq
 (.dops <|
 .op 0 (i_ 44 (.mv (T 0))) <|
 .op 1 (i_ 45 (.nilck (T 44))) <|
 .op 2 (i_ 46 (.faddr 0 (T 45))) <|
 .op 3 (i_ 47 (.ld1 (T 46))) <|
 .op 4 (i_ 48 (.mv (T 0))) <|
 .op 5 (i_ 49 (.nilck (T 48))) <|
 .op 6 (i_ 50 (.faddr 1 (T 49))) <|
 .op 7 (i_ 51 (.ld1 (T 50))) <|
 .op 8 (i_ 52 (.slS (T 47) (some (T 51)) none)) <|
 .op 9 (id_ 53 (.call 129 [(T 52), (KS [45, 62])]) [3, 7]) <|
 .op 10 (i_ 43 (.mv (T 53))) <|
 .nil)
 (.cond (T 43)
 (.seq
 (.ops [i_ 54 (.faddr 0 (T 4)),
 n_ (.st 1 (T 54) (KI 3)),
 i_ 55 (.faddr 1 (T 4)),
 n_ (.st 1 (T 55) (KS [45, 62]))])
 (.ops [i_ 56 (.mv (T 0)),
 i_ 57 (.nilck (T 56)),
 i_ 58 (.faddr 1 (T 57)),
 i_ 59 (.ld1 (T 58)),
 i_ 60 (.ib .add (T 59) (KI 2)),
 i_ 61 (.nilck (T 56)),
 i_ 62 (.faddr 1 (T 61)),
 n_ (.st 1 (T 62) (T 60))]))
 (.seq
 (.ops [i_ 64 (.mv (T 5)),
 i_ 65 (.call 133 [(KS [123, 125, 59, 58, 61, 124, 38, 45, 40, 41, 35, 44]), (T 64)]),
 i_ 66 (.ib .geq (T 65) (KI 0)),
 i_ 63 (.mv (T 66))])
 (.cond (T 63)
 (.seq
 (.dops <|
 .op 0 (i_ 67 (.mv (T 0))) <|
 .op 1 (i_ 68 (.nilck (T 67))) <|
 .op 2 (i_ 69 (.faddr 0 (T 68))) <|
 .op 3 (i_ 70 (.ld1 (T 69))) <|
 .op 4 (i_ 71 (.mv (T 0))) <|
 .op 5 (i_ 72 (.nilck (T 71))) <|
 .op 6 (i_ 73 (.faddr 1 (T 72))) <|
 .op 7 (i_ 74 (.ld1 (T 73))) <|
 .op 8 (i_ 75 (.mv (T 0))) <|
 .op 9 (i_ 76 (.nilck (T 75))) <|
 .op 10 (i_ 77 (.faddr 1 (T 76))) <|
 .op 11 (i_ 78 (.ld1 (T 77))) <|
 .op 12 (i_ 79 (.ib .add (T 78) (KI 1))) <|
 .op 13 (i_ 80 (.slS (T 70) (some (T 74)) (some (T 79)))) <|
 .op 14 (i_ 81 (.faddr 0 (T 4))) <|
 .op 15 (n_ (.st 1 (T 81) (KI 3))) <|
 .op 16 (i_ 82 (.faddr 1 (T 4))) <|
 .op 17 (nd_ (.st 1 (T 82) (T 80)) [3, 7, 11]) <|
 .nil)
 (.ops [i_ 83 (.mv (T 0)),
 i_ 84 (.nilck (T 83)),
 i_ 85 (.faddr 1 (T 84)),
 i_ 86 (.ld1 (T 85)),
 i_ 87 (.ib .add (T 86) (KI 1)),
 i_ 88 (.nilck (T 83)),
 i_ 89 (.faddr 1 (T 88)),
 n_ (.st 1 (T 89) (T 87))]))
 (.seq
 (.ops [i_ 22 (.ldN 3 (T 4)),
 n_ (.st 3 (T 2) (T 22)),
 i_ 3 (.mv (KB false))])
 .ret))))))))))
 (.seq
 (.ops [i_ 90 (.ldN 3 (T 4)),
 n_ (.st 3 (T 2) (T 90)),
 i_ 3 (.mv (KB true))])
 .ret)))))
def m81 : MF := ⟨91, [(.cell 2 3), (.tmp 3)], c81⟩
theorem r81 : resF Try.prog Try.f81 = some m81 := by kernel_rfl
theorem k81 : Callable Try.prog 81 := ⟨_, Try.func81, by kernel_rfl, by kernel_rfl⟩

def c127 : MC :=
 (.seq
 (.ops [i_ 4 (.mv (KS []))])
 (.seq
 (.ops [i_ 6 (.mv (T 0)),
 i_ 7 (.nilck (T 6)),
 i_ 8 (.faddr 1 (T 7)),
 i_ 9 (.ld1 (T 8)),
 i_ 5 (.mv (T 9))])
 (.seq
 (.block 0
 (.loop [(10, 40)]
 (.seq
 (.seq
 (.dops <|
 .op 0 (i_ 10 (.mv (T 0))) <|
 .op 1 (i_ 11 (.nilck (T 10))) <|
 .op 2 (i_ 12 (.faddr 1 (T 11))) <|
 .op 3 (i_ 13 (.ld1 (T 12))) <|
 .op 4 (i_ 14 (.mv (T 0))) <|
 .op 5 (i_ 15 (.nilck (T 14))) <|
 .op 6 (i_ 16 (.faddr 0 (T 15))) <|
 .op 7 (i_ 17 (.ld1 (T 16))) <|
 .op 8 (i_ 18 (.lenS (T 17))) <|
 .op 9 (i_ 19 (.ib .lss (T 13) (T 18))) <|
 .op 10 (i_ 20 (.mv (T 19))) <|
 .op 11 (ig 21 20 true (.mv (T 1))) <|
 .op 12 (ig 22 20 true (.mv (T 0))) <|
 .op 13 (ig 23 20 true (.nilck (T 22))) <|
 .op 14 (ig 24 20 true (.faddr 0 (T 23))) <|
 .op 15 (ig 25 20 true (.ld1 (T 24))) <|
 .op 16 (ig 26 20 true (.mv (T 0))) <|
 .op 17 (ig 27 20 true (.nilck (T 26))) <|
 .op 18 (ig 28 20 true (.faddr 1 (T 27))) <|
 .op 19 (ig 29 20 true (.ld1 (T 28))) <|
 .op 20 (ig 30 20 true (.idx (T 25) (T 29))) <|
 .op 21 (igd 31 20 true (.callv (T 21) [(T 30)]) [15, 19, 3, 7]) <|
 .op 22 (i_ 32 (.pick (T 20) (T 31) (KB false))) <|
 .nil)
 (.cond (T 32)
 .skip
 (.exit 0)))
 (.block 1
 (.ops [i_ 33 (.mv (T 0)),
 i_ 34 (.nilck (T 33)),
 i_ 35 (.faddr 1 (T 34)),
 i_ 36 (.ld1 (T 35)),
 i_ 37 (.ib .add (T 36) (KI 1)),
 i_ 38 (.nilck (T 33)),
 i_ 39 (.faddr 1 (T 38)),
 n_ (.st 1 (T 39) (T 37))])))))
 (.seq
 (.dops <|
 .op 0 (i_ 40 (.mv (T 0))) <|
 .op 1 (i_ 41 (.nilck (T 40))) <|
 .op 2 (i_ 42 (.faddr 0 (T 41))) <|
 .op 3 (i_ 43 (.ld1 (T 42))) <|
 .op 4 (i_ 44 (.mv (T 5))) <|
 .op 5 (i_ 45 (.mv (T 0))) <|
 .op 6 (i_ 46 (.nilck (T 45))) <|
 .op 7 (i_ 47 (.faddr 1 (T 46))) <|
 .op 8 (i_ 48 (.ld1 (T 47))) <|
 .op 9 (i_ 49 (.slS (T 43) (some (T 44)) (some (T 48)))) <|
 .op 10 (i_ 4 (.mv (T 49))) <|
 .nil)
 .ret))))
def m127 : MF := ⟨50, [(.tmp 4)], c127⟩
theorem r127 : resF Try.prog Try.f127 = some m127 := by kernel_rfl
theorem k127 : Callable Try.prog 127 := ⟨_, Try.func127, by kernel_rfl, by kernel_rfl⟩

def c128 : MC :=
 (.seq
 (.ops [i_ 2 (.mv (KB false))])
 (.seq
 (.ops [i_ 3 (.mv (T 0)),
 i_ 4 (.ib .eql (T 3) (KU 32)),
 i_ 5 (.mv (T 4)),
 ig 6 5 false (.mv (T 0)),
 ig 7 5 false (.ib .eql (T 6) (KU 9)),
 i_ 8 (.pick (T 5) (KB true) (T 7)),
 i_ 9 (.mv (T 8)),
 ig 10 9 false (.mv (T 0)),
 ig 11 9 false (.ib .eql (T 10) (KU 10)),
 i_ 12 (.pick (T 9) (KB true) (T 11)),
 i_ 13 (.mv (T 12)),
 ig 14 13 false (.mv (T 0)),
 ig 15 13 false (.ib .eql (T 14) (KU 13)),
 i_ 16 (.pick (T 13) (KB true) (T 15)),
 i_ 2 (.mv (T 16))])
 .ret))
def m128 : MF := ⟨17, [(.tmp 2)], c128⟩
theorem r128 : resF Try.prog Try.f128 = some m128 := by kernel_rfl
def c130 : MC :=
 (.seq
 (.ops [i_ 2 (.mv (KB false))])
 (.seq
 (.ops [i_ 3 (.mv (T 0)),
 i_ 4 (.ib .neq (T 3) (KU 10)),
 i_ 2 (.mv (T 4))])
 .ret))
def m130 : MF := ⟨5, [(.tmp 2)], c130⟩
theorem r130 : resF Try.prog Try.f130 = some m130 := by kernel_rfl
def c131 : MC :=
 (.seq
 (.ops [i_ 2 (.mv (KB false))])
 (.seq
 (.ops [i_ 3 (.mv (T 0)),
 i_ 4 (.ib .geq (T 3) (KU 97)),
 i_ 5 (.mv (T 4)),
 ig 6 5 true (.mv (T 0)),
 ig 7 5 true (.ib .leq (T 6) (KU 122)),
 i_ 8 (.pick (T 5) (T 7) (KB false)),
 i_ 9 (.mv (T 8)),
 ig 10 9 false (.mv (T 0)),
 ig 11 9 false (.ib .geq (T 10) (KU 65)),
 ig 12 9 false (.mv (T 11)),
 ig 13 12 true (.mv (T 0)),
 ig 14 12 true (.ib .leq (T 13) (KU 90)),
 ig 15 9 false (.pick (T 12) (T 14) (KB false)),
 i_ 16 (.pick (T 9) (KB true) (T 15)),
 i_ 17 (.mv (T 16)),
 ig 18 17 false (.mv (T 0)),
 ig 19 17 false (.ib .geq (T 18) (KU 48)),
 ig 20 17 false (.mv (T 19)),
 ig 21 20 true (.mv (T 0)),
 ig 22 20 true (.ib .leq (T 21) (KU 57)),
 ig 23 17 false (.pick (T 20) (T 22) (KB false)),
 i_ 24 (.pick (T 17) (KB true) (T 23)),
 i_ 25 (.mv (T 24)),
 ig 26 25 false (.mv (T 0)),
 ig 27 25 false (.ib .eql (T 26) (KU 95)),
 i_ 28 (.pick (T 25) (KB true) (T 27)),
 i_ 2 (.mv (T 28))])
 .ret))
def m131 : MF := ⟨29, [(.tmp 2)], c131⟩
theorem r131 : resF Try.prog Try.f131 = some m131 := by kernel_rfl
def c132 : MC :=
 (.seq
 (.ops [i_ 2 (.mv (KS [])),
 i_ 3 (.mv (KB false))])
 (.seq
 (.ops [i_ 5 (.mv (T 0)),
 i_ 6 (.nilck (T 5)),
 i_ 7 (.faddr 1 (T 6)),
 i_ 8 (.ld1 (T 7)),
 i_ 9 (.ib .add (T 8) (KI 1)),
 i_ 10 (.nilck (T 5)),
 i_ 11 (.faddr 1 (T 10)),
 n_ (.st 1 (T 11) (T 9))])
 (.seq
 (.ops [i_ 12 (.mv (T 0)),
 i_ 13 (.call 127 [(T 12), (FN 159)]),
 i_ 4 (.mv (T 13))])
 (.seq
 (.seq
 (.dops <|
 .op 0 (i_ 14 (.mv (T 0))) <|
 .op 1 (i_ 15 (.nilck (T 14))) <|
 .op 2 (i_ 16 (.faddr 1 (T 15))) <|
 .op 3 (i_ 17 (.ld1 (T 16))) <|
 .op 4 (i_ 18 (.mv (T 0))) <|
 .op 5 (i_ 19 (.nilck (T 18))) <|
 .op 6 (i_ 20 (.faddr 0 (T 19))) <|
 .op 7 (i_ 21 (.ld1 (T 20))) <|
 .op 8 (i_ 22 (.lenS (T 21))) <|
 .op 9 (i_ 23 (.ib .eql (T 17) (T 22))) <|
 .op 10 (i_ 24 (.mv (T 23))) <|
 .op 11 (ig 25 24 false (.mv (T 0))) <|
 .op 12 (ig 26 24 false (.nilck (T 25))) <|
 .op 13 (ig 27 24 false (.faddr 0 (T 26))) <|
 .op 14 (ig 28 24 false (.ld1 (T 27))) <|
 .op 15 (ig 29 24 false (.mv (T 0))) <|
 .op 16 (ig 30 24 false (.nilck (T 29))) <|
 .op 17 (ig 31 24 false (.faddr 1 (T 30))) <|
 .op 18 (ig 32 24 false (.ld1 (T 31))) <|
 .op 19 (ig 33 24 false (.idx (T 28) (T 32))) <|
 .op 20 (ig 34 24 false (.ib .neq (T 33) (KU 34))) <|
 .op 21 (i_ 35 (.pick (T 24) (KB true) (T 34))) <|
 .nil)
 (.cond (T 35)
 (.seq
 (.ops [i_ 2 (.mv (KS [])),
 i_ 3 (.mv (KB false))])
 .ret)
 .skip))
 (.seq
 (.ops [i_ 36 (.mv (T 0)),
 i_ 37 (.nilck (T 36)),
 i_ 38 (.faddr 1 (T 37)),
 i_ 39 (.ld1 (T 38)),
 i_ 40 (.ib .add (T 39) (KI 1)),
 i_ 41 (.nilck (T 36)),
 i_ 42 (.faddr 1 (T 41)),
 n_ (.st 1 (T 42) (T 40))])
 (.seq
 (.ops [i_ 43 (.mv (T 4)),
 i_ 2 (.mv (T 43)),
 i_ 3 (.mv (KB true))])
 .ret))))))
def m132 : MF := ⟨44, [(.tmp 2), (.tmp 3)], c132⟩
theorem r132 : resF Try.prog Try.f132 = some m132 := by kernel_rfl
theorem k132 : Callable Try.prog 132 := ⟨_, Try.func132, by kernel_rfl, by kernel_rfl⟩

def c158 : MC :=
 (.seq
 (.ops [i_ 4 (.mv (KB false))])
 (.seq
 (.ops [i_ 5 (.mv (T 0)),
 i_ 6 (.lenS (T 5)),
 i_ 7 (.mv (T 1)),
 i_ 8 (.lenS (T 7)),
 i_ 9 (.ib .geq (T 6) (T 8)),
 i_ 10 (.mv (T 9)),
 ig 11 10 true (.mv (T 0)),
 ig 12 10 true (.mv (T 1)),
 ig 13 10 true (.lenS (T 12)),
 ig 14 10 true (.slS (T 11) none (some (T 13))),
 ig 15 10 true (.mv (T 1)),
 ig 16 10 true (.sb .eql (T 14) (T 15)),
 i_ 17 (.pick (T 10) (T 16) (KB false)),
 i_ 4 (.mv (T 17))])
 .ret))
def m158 : MF := ⟨18, [(.tmp 4)], c158⟩
theorem r158 : resF Try.prog Try.f158 = some m158 := by kernel_rfl
def c129 : MC :=
 (.seq
 (.ops [i_ 4 (.mv (KB false))])
 (.seq
 (.ops [i_ 5 (.mv (T 0)),
 i_ 6 (.mv (T 1)),
 i_ 7 (.call 158 [(T 5), (T 6)]),
 i_ 4 (.mv (T 7))])
 .ret))
def m129 : MF := ⟨8, [(.tmp 4)], c129⟩
theorem r129 : resF Try.prog Try.f129 = some m129 := by kernel_rfl
def c159 : MC :=
 (.seq
 (.ops [i_ 2 (.mv (KB false))])
 (.seq
 (.ops [i_ 3 (.mv (T 0)),
 i_ 4 (.ib .geq (T 3) (KU 32)),
 i_ 5 (.mv (T 4)),
 ig 6 5 true (.mv (T 0)),
 ig 7 5 true (.ib .leq (T 6) (KU 126)),
 i_ 8 (.pick (T 5) (T 7) (KB false)),
 i_ 9 (.mv (T 8)),
 ig 10 9 true (.mv (T 0)),
 ig 11 9 true (.ib .neq (T 10) (KU 34)),
 i_ 12 (.pick (T 9) (T 11) (KB false)),
 i_ 2 (.mv (T 12))])
 .ret))
def m159 : MF := ⟨13, [(.tmp 2)], c159⟩
theorem r159 : resF Try.prog Try.f159 = some m159 := by kernel_rfl
end Go.Proofs.Ytcgbcbdgjhnlaaa

namespace Go.Proofs.Ytcgbcbdgjhnlaaa
def c7 : MC :=
 (.seq
 (.ops [i_ 2 (.mv (KB false))])
 (.seq
 (.ops [i_ 15 (.mv (T 0)),
 i_ 16 (.call 21 [(T 15), (KI 200)]),
 i_ 0 (.mv (T 16))])
 (.seq
 (.ops [i_ 18 (.mv (T 0)),
 i_ 19 (.call 29 [(T 18)]),
 i_ 17 (.mv (T 19)),
 i_ 20 (.ext (T 17) 0),
 i_ 21 (.ext (T 17) 1),
 i_ 3 (.alloc 42 [(.string ⟨⟨[]⟩⟩), (.string ⟨⟨[]⟩⟩)]),
 n_ (.st 2 (T 3) (T 20)),
 i_ 4 (.mv (T 21))])
 (.seq
 (.ops [i_ 23 (.mv (T 0)),
 i_ 24 (.call 30 [(T 23)]),
 i_ 22 (.mv (T 24)),
 i_ 25 (.ext (T 22) 0),
 i_ 26 (.ext (T 22) 1),
 i_ 5 (.alloc 42 [(.string ⟨⟨[]⟩⟩), (.string ⟨⟨[]⟩⟩)]),
 n_ (.st 2 (T 5) (T 25)),
 i_ 6 (.mv (T 26))])
 (.seq
 (.seq
 (.ops [i_ 27 (.mv (T 4)),
 i_ 28 (.ib .eql (T 27) (KI 0)),
 i_ 29 (.mv (T 6)),
 i_ 30 (.bb .neq (T 28) (T 29)),
 i_ 31 (.mv (T 30)),
 ig 32 31 false (.mv (T 6)),
 ig 33 31 false (.mv (T 32)),
 ig 34 33 true (.ldN 2 (T 3)),
 ig 35 33 true (.ldN 2 (T 5)),
 ig 36 33 true (.eqA true 42 [42] [2, 2] (T 34) (T 35)),
 ig 37 31 false (.pick (T 33) (T 36) (KB false)),
 i_ 38 (.pick (T 31) (KB true) (T 37)),
 i_ 39 (.mv (T 38)),
 ig 40 39 false (.mv (T 6)),
 ig 41 39 false (.not (T 40)),
 ig 42 39 false (.mv (T 41)),
 ig 43 42 true (.mv (T 4)),
 ig 44 42 true (.ib .neq (T 43) (KI 4)),
 ig 45 42 true (.mv (T 44)),
 ig 46 45 false (.ldN 2 (T 3)),
 ig 47 45 false (.build [(.string ⟨⟨[]⟩⟩), (.string ⟨⟨[]⟩⟩)] []),
 ig 48 45 false (.eqA true 42 [42] [2, 2] (T 46) (T 47)),
 ig 49 42 true (.pick (T 45) (KB true) (T 48)),
 ig 50 39 false (.pick (T 42) (T 49) (KB false)),
 i_ 51 (.pick (T 39) (KB true) (T 50))])
 (.cond (T 51)
 (.seq
 (.ops [i_ 2 (.mv (KB false))])
 .ret)
 .skip))
 (.seq
 (.ops [i_ 53 (.mv (T 0)),
 i_ 54 (.call 31 [(T 53)]),
 i_ 52 (.mv (T 54)),
 i_ 55 (.ext (T 52) 0),
 i_ 56 (.ext (T 52) 1),
 i_ 7 (.alloc 48 [(.string ⟨⟨[]⟩⟩), (.string ⟨⟨[]⟩⟩), (.string ⟨⟨[]⟩⟩), (.string ⟨⟨[]⟩⟩)]),
 n_ (.st 4 (T 7) (T 55)),
 i_ 8 (.mv (T 56))])
 (.seq
 (.ops [i_ 58 (.mv (T 0)),
 i_ 59 (.call 32 [(T 58)]),
 i_ 57 (.mv (T 59)),
 i_ 60 (.ext (T 57) 0),
 i_ 61 (.ext (T 57) 1),
 i_ 9 (.alloc 48 [(.string ⟨⟨[]⟩⟩), (.string ⟨⟨[]⟩⟩), (.string ⟨⟨[]⟩⟩), (.string ⟨⟨[]⟩⟩)]),
 n_ (.st 4 (T 9) (T 60)),
 i_ 10 (.mv (T 61))])
 (.seq
 (.seq
 (.ops [i_ 62 (.mv (T 8)),
 i_ 63 (.ib .eql (T 62) (KI 0)),
 i_ 64 (.mv (T 10)),
 i_ 65 (.bb .neq (T 63) (T 64)),
 i_ 66 (.mv (T 65)),
 ig 67 66 false (.mv (T 10)),
 ig 68 66 false (.mv (T 67)),
 ig 69 68 true (.ldN 4 (T 7)),
 ig 70 68 true (.ldN 4 (T 9)),
 ig 71 68 true (.eqA true 48 [48, 42] [2, 2, 2, 2] (T 69) (T 70)),
 ig 72 66 false (.pick (T 68) (T 71) (KB false)),
 i_ 73 (.pick (T 66) (KB true) (T 72)),
 i_ 74 (.mv (T 73)),
 ig 75 74 false (.mv (T 10)),
 ig 76 74 false (.not (T 75)),
 ig 77 74 false (.mv (T 76)),
 ig 78 77 true (.mv (T 8)),
 ig 79 77 true (.ib .neq (T 78) (KI 4)),
 ig 80 77 true (.mv (T 79)),
 ig 81 80 false (.ldN 4 (T 7)),
 ig 82 80 false (.build [(.string ⟨⟨[]⟩⟩), (.string ⟨⟨[]⟩⟩), (.string ⟨⟨[]⟩⟩), (.string ⟨⟨[]⟩⟩)] []),
 ig 83 80 false (.eqA true 48 [48, 42] [2, 2, 2, 2] (T 81) (T 82)),
 ig 84 77 true (.pick (T 80) (KB true) (T 83)),
 ig 85 74 false (.pick (T 77) (T 84) (KB false)),
 i_ 86 (.pick (T 74) (KB true) (T 85))])
 (.cond (T 86)
 (.seq
 (.ops [i_ 2 (.mv (KB false))])
 .ret)
 .skip))
 (.seq
 (.ops [i_ 88 (.mv (T 0)),
 i_ 89 (.call 33 [(T 88)]),
 i_ 87 (.mv (T 89)),
 i_ 90 (.ext (T 87) 0),
 i_ 91 (.ext (T 87) 1),
 i_ 11 (.alloc 54 [(.string ⟨⟨[]⟩⟩), (.string ⟨⟨[]⟩⟩), (.string ⟨⟨[]⟩⟩), (.string ⟨⟨[]⟩⟩), (.string ⟨⟨[]⟩⟩), (.string ⟨⟨[]⟩⟩), (.string ⟨⟨[]⟩⟩)]),
 n_ (.st 7 (T 11) (T 90)),
 i_ 12 (.mv (T 91))])
 (.seq
 (.ops [i_ 93 (.mv (T 0)),
 i_ 94 (.call 34 [(T 93)]),
 i_ 92 (.mv (T 94)),
 i_ 95 (.ext (T 92) 0),
 i_ 96 (.ext (T 92) 1),
 i_ 13 (.alloc 54 [(.string ⟨⟨[]⟩⟩), (.string ⟨⟨[]⟩⟩), (.string ⟨⟨[]⟩⟩), (.string ⟨⟨[]⟩⟩), (.string ⟨⟨[]⟩⟩), (.string ⟨⟨[]⟩⟩), (.string ⟨⟨[]⟩⟩)]),
 n_ (.st 7 (T 13) (T 95)),
 i_ 14 (.mv (T 96))])
 (.seq
 (.ops [i_ 97 (.ldN 7 (T 11)),
 i_ 98 (.ldN 7 (T 13)),
 i_ 99 (.eqA false 54 [54, 42, 48, 42] [2, 2, 2, 2, 2, 2, 2] (T 97) (T 98)),
 i_ 100 (.mv (T 99)),
 ig 101 100 true (.mv (T 12)),
 ig 102 100 true (.mv (T 14)),
 ig 103 100 true (.ib .eql (T 101) (T 102)),
 i_ 104 (.pick (T 100) (T 103) (KB false)),
 i_ 105 (.mv (T 104)),
 ig 106 105 true (.call 35 []),
 i_ 107 (.pick (T 105) (T 106) (KB false)),
 i_ 2 (.mv (T 107))])
 .ret)))))))))))
def c8 : MC :=
 (.seq
 (.ops [i_ 3 (.box 54 (T 1)),
 i_ 4 (.mv (KB false))])
 (.seq
 (.dops <|
 .op 0 (i_ 5 (.mv (T 0))) <|
 .op 2 (i_ 7 (.ldN 7 (T 3))) <|
 .op 1 (i_ 6 (.call 21 [(T 5), (KI 40)])) <|
 .op 3 (id_ 8 (.call 36 [(T 7)]) [2]) <|
 .op 4 (i_ 0 (.mv (T 6))) <|
 .op 5 (nd_ (.st 7 (T 3) (T 8)) [2]) <|
 .nil)
 (.seq
 (.dops <|
 .op 0 (i_ 9 (.mv (T 0))) <|
 .op 2 (i_ 11 (.mv (T 0))) <|
 .op 1 (i_ 10 (.call 37 [(T 9)])) <|
 .op 3 (i_ 12 (.call 38 [(T 11)])) <|
 .op 4 (i_ 13 (.bb .eql (T 10) (T 12))) <|
 .op 5 (i_ 14 (.mv (T 13))) <|
 .op 6 (ig 15 14 true (.mv (T 0))) <|
 .op 8 (ig 17 14 true (.mv (T 0))) <|
 .op 7 (ig 16 14 true (.call 39 [(T 15)])) <|
 .op 9 (ig 18 14 true (.call 40 [(T 17)])) <|
 .op 10 (ig 19 14 true (.bb .eql (T 16) (T 18))) <|
 .op 11 (i_ 20 (.pick (T 14) (T 19) (KB false))) <|
 .op 12 (i_ 21 (.mv (T 20))) <|
 .op 13 (ig 22 21 true (.ldN 7 (T 3))) <|
 .op 16 (ig 25 21 true (.ldN 7 (T 3))) <|
 .op 14 (igd 23 21 true (.call 41 [(T 22)]) [13]) <|
 .op 15 (ig 24 21 true (.ib .eql (T 23) (KI 0))) <|
 .op 17 (igd 26 21 true (.call 42 [(T 25)]) [13, 16]) <|
 .op 18 (ig 27 21 true (.bb .eql (T 24) (T 26))) <|
 .op 19 (i_ 28 (.pick (T 21) (T 27) (KB false))) <|
 .op 20 (i_ 29 (.mv (T 28))) <|
 .op 21 (ig 30 29 true (.faddr 0 (T 3))) <|
 .op 22 (ig 31 29 true (.ldN 2 (T 30))) <|
 .op 25 (ig 34 29 true (.faddr 0 (T 3))) <|
 .op 26 (ig 35 29 true (.ldN 2 (T 34))) <|
 .op 23 (igd 32 29 true (.call 43 [(T 31)]) [13, 16, 22]) <|
 .op 24 (ig 33 29 true (.ib .eql (T 32) (KI 0))) <|
 .op 27 (igd 36 29 true (.call 44 [(T 35)]) [22, 13, 16, 26]) <|
 .op 28 (ig 37 29 true (.bb .eql (T 33) (T 36))) <|
 .op 29 (i_ 38 (.pick (T 29) (T 37) (KB false))) <|
 .op 30 (i_ 39 (.mv (T 38))) <|
 .op 31 (ig 40 39 true (.faddr 3 (T 3))) <|
 .op 32 (ig 41 39 true (.ldN 4 (T 40))) <|
 .op 35 (ig 44 39 true (.faddr 3 (T 3))) <|
 .op 36 (ig 45 39 true (.ldN 4 (T 44))) <|
 .op 33 (igd 42 39 true (.call 45 [(T 41)]) [22, 26, 13, 16, 32]) <|
 .op 34 (ig 43 39 true (.ib .eql (T 42) (KI 0))) <|
 .op 37 (igd 46 39 true (.call 46 [(T 45)]) [32, 22, 26, 13, 16, 36]) <|
 .op 38 (ig 47 39 true (.bb .eql (T 43) (T 46))) <|
 .op 39 (i_ 48 (.pick (T 39) (T 47) (KB false))) <|
 .op 40 (i_ 49 (.mv (T 48))) <|
 .op 41 (ig 50 49 true (.ldN 7 (T 3))) <|
 .op 44 (ig 53 49 true (.ldN 7 (T 3))) <|
 .op 42 (igd 51 49 true (.call 41 [(T 50)]) [16, 13, 26, 22, 36, 32, 41]) <|
 .op 43 (ig 52 49 true (.ib .eql (T 51) (KI 9))) <|
 .op 45 (igd 54 49 true (.call 42 [(T 53)]) [41, 16, 13, 26, 22, 36, 32, 44]) <|
 .op 46 (ig 55 49 true (.not (T 54))) <|
 .op 47 (ig 56 49 true (.bb .eql (T 52) (T 55))) <|
 .op 48 (i_ 57 (.pick (T 49) (T 56) (KB false))) <|
 .op 49 (i_ 58 (.mv (T 57))) <|
 .op 50 (igd 59 58 true (.call 35 []) [41, 44, 32, 36, 22, 26, 13, 16]) <|
 .op 51 (i_ 60 (.pick (T 58) (T 59) (KB false))) <|
 .op 52 (i_ 4 (.mv (T 60))) <|
 .nil)
 .ret)))
def c9 : MC :=
 (.seq
 (.ops [i_ 3 (.box 54 (T 0)),
 i_ 4 (.box 54 (T 1)),
 i_ 6 (.mv (KB false))])
 (.seq
 (.dops <|
 .op 0 (i_ 11 (.ldN 7 (T 3))) <|
 .op 2 (i_ 13 (.ldN 7 (T 4))) <|
 .op 4 (i_ 15 (.mv (T 2))) <|
 .op 1 (id_ 12 (.call 36 [(T 11)]) [0]) <|
 .op 3 (id_ 14 (.call 36 [(T 13)]) [0, 2]) <|
 .op 5 (id_ 16 (.call 21 [(T 15), (KI 200)]) [2, 0]) <|
 .op 6 (nd_ (.st 7 (T 3) (T 12)) [2, 0]) <|
 .op 7 (nd_ (.st 7 (T 4) (T 14)) [2, 0]) <|
 .op 8 (i_ 2 (.mv (T 16))) <|
 .nil)
 (.seq
 (.ops [i_ 18 (.ldN 7 (T 3)),
 i_ 19 (.call 47 [(T 18)]),
 i_ 20 (.call 33 [(T 19)]),
 i_ 17 (.mv (T 20)),
 i_ 21 (.ext (T 17) 0),
 i_ 22 (.ext (T 17) 1),
 i_ 7 (.alloc 54 [(.string ⟨⟨[]⟩⟩), (.string ⟨⟨[]⟩⟩), (.string ⟨⟨[]⟩⟩), (.string ⟨⟨[]⟩⟩), (.string ⟨⟨[]⟩⟩), (.string ⟨⟨[]⟩⟩), (.string ⟨⟨[]⟩⟩)]),
 n_ (.st 7 (T 7) (T 21)),
 i_ 8 (.mv (T 22))])
 (.seq
 (.seq
 (.ops [i_ 23 (.ldN 7 (T 3)),
 i_ 24 (.call 41 [(T 23)]),
 i_ 25 (.ib .eql (T 24) (KI 0)),
 i_ 26 (.mv (T 25)),
 ig 27 26 true (.mv (T 8)),
 ig 28 26 true (.ib .neq (T 27) (KI 0)),
 ig 29 26 true (.mv (T 28)),
 ig 30 29 false (.ldN 7 (T 7)),
 ig 31 29 false (.ldN 7 (T 3)),
 ig 32 29 false (.eqA true 54 [54, 42, 48, 42] [2, 2, 2, 2, 2, 2, 2] (T 30) (T 31)),
 ig 33 26 true (.pick (T 29) (KB true) (T 32)),
 i_ 34 (.pick (T 26) (T 33) (KB false))])
 (.cond (T 34)
 (.seq
 (.ops [i_ 6 (.mv (KB false))])
 .ret)
 .skip))
 (.seq
 (.ops [i_ 36 (.mv (T 2)),
 i_ 37 (.call 33 [(T 36)]),
 i_ 35 (.mv (T 37)),
 i_ 38 (.ext (T 35) 0),
 i_ 39 (.ext (T 35) 1),
 i_ 9 (.alloc 54 [(.string ⟨⟨[]⟩⟩), (.string ⟨⟨[]⟩⟩), (.string ⟨⟨[]⟩⟩), (.string ⟨⟨[]⟩⟩), (.string ⟨⟨[]⟩⟩), (.string ⟨⟨[]⟩⟩), (.string ⟨⟨[]⟩⟩)]),
 n_ (.st 7 (T 9) (T 38)),
 i_ 10 (.mv (T 39))])
 (.seq
 (.seq
 (.ops [i_ 40 (.mv (T 10)),
 i_ 41 (.ib .eql (T 40) (KI 0)),
 i_ 42 (.mv (T 41)),
 ig 43 42 true (.ldN 7 (T 9)),
 ig 44 42 true (.call 47 [(T 43)]),
 ig 45 42 true (.mv (T 2)),
 ig 46 42 true (.sb .neq (T 44) (T 45)),
 i_ 47 (.pick (T 42) (T 46) (KB false))])
 (.cond (T 47)
 (.seq
 (.ops [i_ 6 (.mv (KB false))])
 .ret)
 .skip))
 (.seq
 (.dops <|
 .op 0 (i_ 48 (.ldN 7 (T 3))) <|
 .op 1 (id_ 49 (.call 41 [(T 48)]) [0]) <|
 .op 2 (i_ 50 (.ib .neq (T 49) (KI 0))) <|
 .op 3 (i_ 51 (.mv (T 50))) <|
 .op 4 (ig 52 51 false (.ldN 7 (T 4))) <|
 .op 5 (igd 53 51 false (.call 41 [(T 52)]) [0, 4]) <|
 .op 6 (ig 54 51 false (.ib .neq (T 53) (KI 0))) <|
 .op 7 (i_ 55 (.pick (T 51) (KB true) (T 54))) <|
 .op 8 (i_ 56 (.mv (T 55))) <|
 .op 9 (ig 57 56 false (.ldN 7 (T 3))) <|
 .op 11 (ig 59 56 false (.ldN 7 (T 4))) <|
 .op 14 (ig 62 56 false (.ldN 7 (T 3))) <|
 .op 15 (ig 63 56 false (.ldN 7 (T 4))) <|
 .op 16 (ig 64 56 false (.eqA false 54 [54, 42, 48, 42] [2, 2, 2, 2, 2, 2, 2] (T 62) (T 63))) <|
 .op 10 (igd 58 56 false (.call 47 [(T 57)]) [0, 4, 9]) <|
 .op 12 (igd 60 56 false (.call 47 [(T 59)]) [9, 0, 4, 11]) <|
 .op 13 (ig 61 56 false (.sb .eql (T 58) (T 60))) <|
 .op 17 (ig 65 56 false (.bb .eql (T 61) (T 64))) <|
 .op 18 (i_ 66 (.pick (T 56) (KB true) (T 65))) <|
 .op 19 (i_ 67 (.mv (T 66))) <|
 .op 20 (igd 68 67 true (.call 35 []) [11, 9, 15, 14, 4, 0]) <|
 .op 21 (i_ 69 (.pick (T 67) (T 68) (KB false))) <|
 .op 22 (i_ 6 (.mv (T 69))) <|
 .nil)
 .ret)))))))
def c10 : MC :=
 (.seq
 (.ops [i_ 1 (.box 54 (T 0)),
 i_ 2 (.mv (KB false))])
 (.seq
 (.ops [i_ 6 (.ldN 7 (T 1)),
 i_ 7 (.call 36 [(T 6)]),
 n_ (.st 7 (T 1) (T 7))])
 (.seq
 (.ops [i_ 3 (.mv (KS [])),
 i_ 4 (.mv (KS [])),
 i_ 5 (.mv (KS []))])
 (.seq
 (.seq
 (.ops [i_ 8 (.faddr 0 (T 1)),
 i_ 9 (.ldN 2 (T 8)),
 i_ 10 (.call 44 [(T 9)])])
 (.cond (T 10)
 (.ops [i_ 11 (.faddr 0 (T 1)),
 i_ 12 (.faddr 0 (T 11)),
 i_ 13 (.ld1 (T 12)),
 i_ 14 (.sb .add (T 13) (KS [58])),
 i_ 15 (.faddr 0 (T 1)),
 i_ 16 (.faddr 1 (T 15)),
 i_ 17 (.ld1 (T 16)),
 i_ 18 (.sb .add (T 14) (T 17)),
 i_ 3 (.mv (T 18))])
 .skip))
 (.seq
 (.seq
 (.ops [i_ 19 (.faddr 3 (T 1)),
 i_ 20 (.ldN 4 (T 19)),
 i_ 21 (.call 46 [(T 20)])])
 (.cond (T 21)
 (.ops [i_ 22 (.faddr 3 (T 1)),
 i_ 23 (.ldN 4 (T 22)),
 i_ 24 (.call 48 [(T 23)]),
 i_ 4 (.mv (T 24))])
 .skip))
 (.seq
 (.seq
 (.ops [i_ 25 (.ldN 7 (T 1)),
 i_ 26 (.call 42 [(T 25)])])
 (.cond (T 26)
 (.ops [i_ 27 (.ldN 7 (T 1)),
 i_ 28 (.call 49 [(T 27)]),
 i_ 5 (.mv (T 28))])
 .skip))
 (.seq
 (.ops [i_ 29 (.faddr 0 (T 1)),
 i_ 30 (.ldN 2 (T 29)),
 i_ 31 (.call 50 [(T 30)]),
 i_ 32 (.mv (T 3)),
 i_ 33 (.sb .eql (T 31) (T 32)),
 i_ 34 (.mv (T 33)),
 ig 35 34 true (.faddr 3 (T 1)),
 ig 36 34 true (.ldN 4 (T 35)),
 ig 37 34 true (.call 51 [(T 36)]),
 ig 38 34 true (.mv (T 4)),
 ig 39 34 true (.sb .eql (T 37) (T 38)),
 i_ 40 (.pick (T 34) (T 39) (KB false)),
 i_ 41 (.mv (T 40)),
 ig 42 41 true (.ldN 7 (T 1)),
 ig 43 41 true (.call 47 [(T 42)]),
 ig 44 41 true (.mv (T 5)),
 ig 45 41 true (.sb .eql (T 43) (T 44)),
 i_ 46 (.pick (T 41) (T 45) (KB false)),
 i_ 47 (.mv (T 46)),
 ig 48 47 true (.call 35 []),
 i_ 49 (.pick (T 47) (T 48) (KB false)),
 i_ 2 (.mv (T 49))])
 .ret)))))))
def c29 : MC :=
 (.seq
 (.ops [i_ 2 (.alloc 42 [(.string ⟨⟨[]⟩⟩), (.string ⟨⟨[]⟩⟩)]),
 i_ 3 (.mv (KI 0))])
 (.seq
 (.ops [i_ 9 (.mv (T 0)),
 i_ 10 (.call 85 [(T 9), (KS [58])]),
 i_ 8 (.mv (T 10)),
 i_ 11 (.ext (T 8) 0),
 i_ 12 (.ext (T 8) 1),
 i_ 13 (.ext (T 8) 2),
 i_ 4 (.mv (T 11)),
 i_ 5 (.mv (T 12)),
 i_ 6 (.mv (T 13))])
 (.seq
 (.ops [i_ 14 (.mv (T 4)),
 i_ 15 (.mv (T 5)),
 i_ 16 (.build [(.string ⟨⟨[]⟩⟩), (.string ⟨⟨[]⟩⟩)] [(0, (1, (T 14))), (1, (1, (T 15)))]),
 i_ 7 (.alloc 42 [(.string ⟨⟨[]⟩⟩), (.string ⟨⟨[]⟩⟩)]),
 n_ (.st 2 (T 7) (T 16))])
 (.seq
 (.seq
 (.ops [i_ 17 (.mv (T 6)),
 i_ 18 (.not (T 17)),
 i_ 19 (.mv (T 18)),
 ig 20 19 false (.ldN 2 (T 7)),
 ig 21 19 false (.call 43 [(T 20)]),
 ig 22 19 false (.ib .neq (T 21) (KI 0)),
 i_ 23 (.pick (T 19) (KB true) (T 22))])
 (.cond (T 23)
 (.seq
 (.ops [i_ 24 (.build [(.string ⟨⟨[]⟩⟩), (.string ⟨⟨[]⟩⟩)] []),
 n_ (.st 2 (T 2) (T 24)),
 i_ 3 (.mv (KI 4))])
 .ret)
 .skip))
 (.seq
 (.ops [i_ 25 (.ldN 2 (T 7)),
 n_ (.st 2 (T 2) (T 25)),
 i_ 3 (.mv (KI 0))])
 .ret)))))
def m29 : MF := ⟨26, [(.cell 2 2), (.tmp 3)], c29⟩
theorem r29 : resF Try.prog Try.f29 = some m29 := by kernel_rfl
def c37 : MC :=
 (.seq
 (.ops [i_ 2 (.mv (KB false))])
 (.seq
 (.seq
 (.ops [i_ 3 (.mv (T 0))])
 (.block 0
 (.seq
 (.seq
 (.ops [i_ 5 (.sb .eql (T 3) (KS [117, 115, 101, 114])),
 i_ 4 (.mv (T 5))])
 (.cond (T 4)
 .skip
 (.seq
 (.ops [i_ 6 (.sb .eql (T 3) (KS [116, 104, 105, 115])),
 i_ 4 (.mv (T 6))])
 (.cond (T 4)
 .skip
 (.seq
 (.ops [i_ 7 (.sb .eql (T 3) (KS [110, 97, 109, 101, 115, 112, 97, 99, 101])),
 i_ 4 (.mv (T 7))])
 (.cond (T 4)
 .skip
 (.seq
 (.ops [i_ 8 (.sb .eql (T 3) (KS [114, 101, 108, 97, 116, 105, 111, 110])),
 i_ 4 (.mv (T 8))])
 (.cond (T 4)
 .skip
 (.ops [i_ 9 (.sb .eql (T 3) (KS [115, 99, 111, 112, 101])),
 i_ 4 (.mv (T 9))])))))))))
 (.cond (T 4)
 (.seq
 (.ops [i_ 2 (.mv (KB false))])
 .ret)
 .skip))))
 (.seq
 (.ops [i_ 10 (.mv (T 0)),
 i_ 11 (.call 88 [(T 10), (FN 89)]),
 i_ 12 (.mv (T 11)),
 ig 13 12 true (.mv (T 0)),
 ig 14 12 true (.idx (T 13) (KI 0)),
 ig 15 12 true (.call 90 [(T 14)]),
 i_ 16 (.pick (T 12) (T 15) (KB false)),
 i_ 2 (.mv (T 16))])
 .ret)))
def m37 : MF := ⟨17, [(.tmp 2)], c37⟩
theorem r37 : resF Try.prog Try.f37 = some m37 := by kernel_rfl
def c38 : MC :=
 (.seq
 (.ops [i_ 2 (.mv (KB false))])
 (.seq
 (.seq
 (.ops [i_ 5 (.mv (T 0)),
 i_ 6 (.lenS (T 5)),
 i_ 7 (.ib .lss (T 6) (KI 1)),
 i_ 8 (.mv (T 7)),
 ig 9 8 false (.mv (T 0)),
 ig 10 8 false (.lenS (T 9)),
 ig 11 8 false (.ib .gtr (T 10) (KI 32)),
 i_ 12 (.pick (T 8) (KB true) (T 11)),
 i_ 13 (.mv (T 12)),
 ig 14 13 false (.mv (T 0)),
 ig 15 13 false (.idx (T 14) (KI 0)),
 ig 16 13 false (.ib .lss (T 15) (KU 97)),
 i_ 17 (.pick (T 13) (KB true) (T 16)),
 i_ 18 (.mv (T 17)),
 ig 19 18 false (.mv (T 0)),
 ig 20 18 false (.idx (T 19) (KI 0)),
 ig 21 18 false (.ib .gtr (T 20) (KU 122)),
 i_ 22 (.pick (T 18) (KB true) (T 21))])
 (.cond (T 22)
 (.seq
 (.ops [i_ 2 (.mv (KB false))])
 .ret)
 .skip))
 (.seq
 (.seq
 (.ops [i_ 3 (.mv (KI 0))])
 (.block 0
 (.loop [(23, 29), (29, 51), (4, 5), (2, 4)]
 (.seq
 (.seq
 (.ops [i_ 23 (.mv (T 3)),
 i_ 24 (.mv (T 0)),
 i_ 25 (.lenS (T 24)),
 i_ 26 (.ib .lss (T 23) (T 25))])
 (.cond (T 26)
 .skip
 (.exit 0)))
 (.seq
 (.block 1
 (.seq
 (.ops [i_ 29 (.mv (T 0)),
 i_ 30 (.mv (T 3)),
 i_ 31 (.idx (T 29) (T 30)),
 i_ 4 (.mv (T 31))])
 (.seq
 (.ops [i_ 32 (.mv (T 4)),
 i_ 33 (.ib .geq (T 32) (KU 97)),
 i_ 34 (.mv (T 33)),
 ig 35 34 true (.mv (T 4)),
 ig 36 34 true (.ib .leq (T 35) (KU 122)),
 i_ 37 (.pick (T 34) (T 36) (KB false)),
 i_ 38 (.mv (T 37)),
 ig 39 38 false (.mv (T 4)),
 ig 40 38 false (.ib .geq (T 39) (KU 48)),
 ig 41 38 false (.mv (T 40)),
 ig 42 41 true (.mv (T 4)),
 ig 43 41 true (.ib .leq (T 42) (KU 57)),
 ig 44 38 false (.pick (T 41) (T 43) (KB false)),
 i_ 45 (.pick (T 38) (KB true) (T 44)),
 i_ 46 (.mv (T 45)),
 ig 47 46 false (.mv (T 4)),
 ig 48 46 false (.ib .eql (T 47) (KU 95)),
 i_ 49 (.pick (T 46) (KB true) (T 48)),
 i_ 50 (.not (T 49))])
 (.cond (T 50)
 (.seq
 (.ops [i_ 2 (.mv (KB false))])
 .ret)
 .skip))))
 (.ops [i_ 27 (.mv (T 3)),
 i_ 28 (.ib .add (T 27) (KI 1)),
 i_ 3 (.mv (T 28))]))))))
 (.seq
 (.ops [i_ 51 (.mv (T 0)),
 i_ 52 (.sb .neq (T 51) (KS [117, 115, 101, 114])),
 i_ 53 (.mv (T 52)),
 ig 54 53 true (.mv (T 0)),
 ig 55 53 true (.sb .neq (T 54) (KS [116, 104, 105, 115])),
 i_ 56 (.pick (T 53) (T 55) (KB false)),
 i_ 57 (.mv (T 56)),
 ig 58 57 true (.mv (T 0)),
 ig 59 57 true (.sb .neq (T 58) (KS [110, 97, 109, 101, 115, 112, 97, 99, 101])),
 i_ 60 (.pick (T 57) (T 59) (KB false)),
 i_ 61 (.mv (T 60)),
 ig 62 61 true (.mv (T 0)),
 ig 63 61 true (.sb .neq (T 62) (KS [114, 101, 108, 97, 116, 105, 111, 110])),
 i_ 64 (.pick (T 61) (T 63) (KB false)),
 i_ 65 (.mv (T 64)),
 ig 66 65 true (.mv (T 0)),
 ig 67 65 true (.sb .neq (T 66) (KS [115, 99, 111, 112, 101])),
 i_ 68 (.pick (T 65) (T 67) (KB false)),
 i_ 2 (.mv (T 68))])
 .ret))))
def m38 : MF := ⟨69, [(.tmp 2)], c38⟩
theorem r38 : resF Try.prog Try.f38 = some m38 := by kernel_rfl
def c39 : MC :=
 (.seq
 (.ops [i_ 2 (.mv (KB false))])
 (.seq
 (.ops [i_ 3 (.mv (T 0)),
 i_ 4 (.call 88 [(T 3), (FN 92)]),
 i_ 2 (.mv (T 4))])
 .ret))
def m39 : MF := ⟨5, [(.tmp 2)], c39⟩
theorem r39 : resF Try.prog Try.f39 = some m39 := by kernel_rfl
def c40 : MC :=
 (.seq
 (.ops [i_ 2 (.mv (KB false))])
 (.seq
 (.seq
 (.ops [i_ 3 (.mv (KI 0))])
 (.block 0
 (.loop [(5, 11), (11, 49), (4, 5), (2, 4)]
 (.seq
 (.seq
 (.ops [i_ 5 (.mv (T 3)),
 i_ 6 (.mv (T 0)),
 i_ 7 (.lenS (T 6)),
 i_ 8 (.ib .lss (T 5) (T 7))])
 (.cond (T 8)
 .skip
 (.exit 0)))
 (.seq
 (.block 1
 (.seq
 (.ops [i_ 11 (.mv (T 0)),
 i_ 12 (.mv (T 3)),
 i_ 13 (.idx (T 11) (T 12)),
 i_ 4 (.mv (T 13))])
 (.seq
 (.ops [i_ 14 (.mv (T 4)),
 i_ 15 (.ib .geq (T 14) (KU 97)),
 i_ 16 (.mv (T 15)),
 ig 17 16 true (.mv (T 4)),
 ig 18 16 true (.ib .leq (T 17) (KU 122)),
 i_ 19 (.pick (T 16) (T 18) (KB false)),
 i_ 20 (.mv (T 19)),
 ig 21 20 false (.mv (T 4)),
 ig 22 20 false (.ib .geq (T 21) (KU 65)),
 ig 23 20 false (.mv (T 22)),
 ig 24 23 true (.mv (T 4)),
 ig 25 23 true (.ib .leq (T 24) (KU 90)),
 ig 26 20 false (.pick (T 23) (T 25) (KB false)),
 i_ 27 (.pick (T 20) (KB true) (T 26)),
 i_ 28 (.mv (T 27)),
 ig 29 28 false (.mv (T 4)),
 ig 30 28 false (.ib .geq (T 29) (KU 48)),
 ig 31 28 false (.mv (T 30)),
 ig 32 31 true (.mv (T 4)),
 ig 33 31 true (.ib .leq (T 32) (KU 57)),
 ig 34 28 false (.pick (T 31) (T 33) (KB false)),
 i_ 35 (.pick (T 28) (KB true) (T 34)),
 i_ 36 (.mv (T 35)),
 ig 37 36 false (.mv (T 4)),
 ig 38 36 false (.ib .eql (T 37) (KU 95)),
 i_ 39 (.pick (T 36) (KB true) (T 38)),
 i_ 40 (.mv (T 39)),
 ig 41 40 false (.mv (T 4)),
 ig 42 40 false (.ib .eql (T 41) (KU 46)),
 i_ 43 (.pick (T 40) (KB true) (T 42)),
 i_ 44 (.mv (T 43)),
 ig 45 44 false (.mv (T 4)),
 ig 46 44 false (.ib .eql (T 45) (KU 45)),
 i_ 47 (.pick (T 44) (KB true) (T 46)),
 i_ 48 (.not (T 47))])
 (.cond (T 48)
 (.seq
 (.ops [i_ 2 (.mv (KB false))])
 .ret)
 .skip))))
 (.ops [i_ 9 (.mv (T 3)),
 i_ 10 (.ib .add (T 9) (KI 1)),
 i_ 3 (.mv (T 10))]))))))
 (.seq
 (.ops [i_ 49 (.mv (T 0)),
 i_ 50 (.lenS (T 49)),
 i_ 51 (.ib .geq (T 50) (KI 1)),
 i_ 52 (.mv (T 51)),
 ig 53 52 true (.mv (T 0)),
 ig 54 52 true (.lenS (T 53)),
 ig 55 52 true (.ib .leq (T 54) (KI 32)),
 i_ 56 (.pick (T 52) (T 55) (KB false)),
 i_ 2 (.mv (T 56))])
 .ret)))
def m40 : MF := ⟨57, [(.tmp 2)], c40⟩
theorem r40 : resF Try.prog Try.f40 = some m40 := by kernel_rfl
def c43 : MC :=
 (.seq
 (.ops [i_ 1 (.box 42 (T 0)),
 i_ 2 (.mv (KI 0))])
 (.seq
 (.ops [i_ 3 (.faddr 0 (T 1)),
 i_ 4 (.ld1 (T 3)),
 i_ 5 (.call 37 [(T 4)]),
 i_ 6 (.mv (T 5)),
 ig 7 6 true (.faddr 1 (T 1)),
 ig 8 6 true (.ld1 (T 7)),
 ig 9 6 true (.call 39 [(T 8)]),
 i_ 10 (.pick (T 6) (T 9) (KB false)),
 i_ 11 (.call 93 [(T 10)]),
 i_ 2 (.mv (T 11))])
 .ret))
def m43 : MF := ⟨12, [(.tmp 2)], c43⟩
theorem r43 : resF Try.prog Try.f43 = some m43 := by kernel_rfl
def c44 : MC :=
 (.seq
 (.ops [i_ 1 (.box 42 (T 0)),
 i_ 2 (.mv (KB false))])
 (.seq
 (.ops [i_ 3 (.faddr 0 (T 1)),
 i_ 4 (.ld1 (T 3)),
 i_ 5 (.call 38 [(T 4)]),
 i_ 6 (.mv (T 5)),
 ig 7 6 true (.faddr 1 (T 1)),
 ig 8 6 true (.ld1 (T 7)),
 ig 9 6 true (.call 40 [(T 8)]),
 i_ 10 (.pick (T 6) (T 9) (KB false)),
 i_ 2 (.mv (T 10))])
 .ret))
def m44 : MF := ⟨11, [(.tmp 2)], c44⟩
theorem r44 : resF Try.prog Try.f44 = some m44 := by kernel_rfl
def c85 : MC :=
 (.seq
 (.ops [i_ 4 (.mv (KS [])),
 i_ 5 (.mv (KS [])),
 i_ 6 (.mv (KB false))])
 (.seq
 (.ops [i_ 7 (.mv (T 0)),
 i_ 8 (.mv (T 1)),
 i_ 9 (.call 135 [(T 7), (T 8)]),
 i_ 10 (.ext (T 9) 0),
 i_ 11 (.ext (T 9) 1),
 i_ 12 (.ext (T 9) 2),
 i_ 4 (.mv (T 10)),
 i_ 5 (.mv (T 11)),
 i_ 6 (.mv (T 12))])
 .ret))
def m85 : MF := ⟨13, [(.tmp 4), (.tmp 5), (.tmp 6)], c85⟩
theorem r85 : resF Try.prog Try.f85 = some m85 := by kernel_rfl
def c88 : MC :=
 (.seq
 (.ops [i_ 4 (.mv (KB false))])
 (.seq
 (.seq
 (.ops [i_ 6 (.mv (T 0)),
 i_ 7 (.lenS (T 6)),
 i_ 8 (.mv (KI 0))])
 (.block 0
 (.loop [(9, 18), (5, 6), (4, 5), (8, 9)]
 (.seq
 (.ops [i_ 9 (.ib .lss (T 8) (T 7))])
 (.seq
 (.cond (T 9)
 .skip
 (.exit 0))
 (.seq
 (.block 1
 (.seq
 (.ops [i_ 10 (.mv (T 8)),
 i_ 5 (.mv (T 10))])
 (.seq
 (.ops [i_ 11 (.mv (T 1)),
 i_ 12 (.mv (T 0)),
 i_ 13 (.mv (T 5)),
 i_ 14 (.idx (T 12) (T 13)),
 i_ 15 (.callv (T 11) [(T 14)]),
 i_ 16 (.not (T 15))])
 (.cond (T 16)
 (.seq
 (.ops [i_ 4 (.mv (KB false))])
 .ret)
 .skip))))
 (.ops [i_ 17 (.ib .add (T 8) (KI 1)),
 i_ 8 (.mv (T 17))])))))))
 (.seq
 (.ops [i_ 18 (.mv (T 0)),
 i_ 19 (.lenS (T 18)),
 i_ 20 (.ib .geq (T 19) (KI 1)),
 i_ 21 (.mv (T 20)),
 ig 22 21 true (.mv (T 0)),
 ig 23 21 true (.lenS (T 22)),
 ig 24 21 true (.ib .leq (T 23) (KI 32)),
 i_ 25 (.pick (T 21) (T 24) (KB false)),
 i_ 4 (.mv (T 25))])
 .ret)))
def m88 : MF := ⟨26, [(.tmp 4)], c88⟩
theorem r88 : resF Try.prog Try.f88 = some m88 := by kernel_rfl
def c89 : MC :=
 (.seq
 (.ops [i_ 2 (.mv (KB false))])
 (.seq
 (.ops [i_ 3 (.mv (T 0)),
 i_ 4 (.call 90 [(T 3)]),
 i_ 5 (.mv (T 4)),
 ig 6 5 false (.mv (T 0)),
 ig 7 5 false (.call 91 [(T 6)]),
 i_ 8 (.pick (T 5) (KB true) (T 7)),
 i_ 2 (.mv (T 8))])
 .ret))
def m89 : MF := ⟨9, [(.tmp 2)], c89⟩
theorem r89 : resF Try.prog Try.f89 = some m89 := by kernel_rfl
def c90 : MC :=
 (.seq
 (.ops [i_ 2 (.mv (KB false))])
 (.seq
 (.ops [i_ 3 (.mv (T 0)),
 i_ 4 (.ib .geq (T 3) (KU 97)),
 i_ 5 (.mv (T 4)),
 ig 6 5 true (.mv (T 0)),
 ig 7 5 true (.ib .leq (T 6) (KU 122)),
 i_ 8 (.pick (T 5) (T 7) (KB false)),
 i_ 2 (.mv (T 8))])
 .ret))
def m90 : MF := ⟨9, [(.tmp 2)], c90⟩
theorem r90 : resF Try.prog Try.f90 = some m90 := by kernel_rfl
def c91 : MC :=
 (.seq
 (.ops [i_ 2 (.mv (KB false))])
 (.seq
 (.ops [i_ 3 (.mv (T 0)),
 i_ 4 (.ib .geq (T 3) (KU 48)),
 i_ 5 (.mv (T 4)),
 ig 6 5 true (.mv (T 0)),
 ig 7 5 true (.ib .leq (T 6) (KU 57)),
 i_ 8 (.pick (T 5) (T 7) (KB false)),
 i_ 9 (.mv (T 8)),
 ig 10 9 false (.mv (T 0)),
 ig 11 9 false (.ib .eql (T 10) (KU 95)),
 i_ 12 (.pick (T 9) (KB true) (T 11)),
 i_ 2 (.mv (T 12))])
 .ret))
def m91 : MF := ⟨13, [(.tmp 2)], c91⟩
theorem r91 : resF Try.prog Try.f91 = some m91 := by kernel_rfl
def c92 : MC :=
 (.seq
 (.ops [i_ 2 (.mv (KB false))])
 (.seq
 (.ops [i_ 3 (.mv (T 0)),
 i_ 4 (.call 90 [(T 3)]),
 i_ 5 (.mv (T 4)),
 ig 6 5 false (.mv (T 0)),
 ig 7 5 false (.call 91 [(T 6)]),
 i_ 8 (.pick (T 5) (KB true) (T 7)),
 i_ 9 (.mv (T 8)),
 ig 10 9 false (.mv (T 0)),
 ig 11 9 false (.ib .geq (T 10) (KU 65)),
 ig 12 9 false (.mv (T 11)),
 ig 13 12 true (.mv (T 0)),
 ig 14 12 true (.ib .leq (T 13) (KU 90)),
 ig 15 9 false (.pick (T 12) (T 14) (KB false)),
 i_ 16 (.pick (T 9) (KB true) (T 15)),
 i_ 17 (.mv (T 16)),
 ig 18 17 false (.mv (T 0)),
 ig 19 17 false (.ib .eql (T 18) (KU 46)),
 i_ 20 (.pick (T 17) (KB true) (T 19)),
 i_ 21 (.mv (T 20)),
 ig 22 21 false (.mv (T 0)),
 ig 23 21 false (.ib .eql (T 22) (KU 45)),
 i_ 24 (.pick (T 21) (KB true) (T 23)),
 i_ 2 (.mv (T 24))])
 .ret))
def m92 : MF := ⟨25, [(.tmp 2)], c92⟩
theorem r92 : resF Try.prog Try.f92 = some m92 := by kernel_rfl
def c93 : MC :=
 (.seq
 (.ops [i_ 2 (.mv (KI 0))])
 (.seq
 (.seq
 (.ops [i_ 3 (.mv (T 0))])
 (.cond (T 3)
 (.seq
 (.ops [i_ 2 (.mv (KI 0))])
 .ret)
 .skip))
 (.seq
 (.ops [i_ 2 (.mv (KI 9))])
 .ret)))
def m93 : MF := ⟨4, [(.tmp 2)], c93⟩
theorem r93 : resF Try.prog Try.f93 = some m93 := by kernel_rfl
def c135 : MC :=
 (.seq
 (.ops [i_ 4 (.mv (KS [])),
 i_ 5 (.mv (KS [])),
 i_ 6 (.mv (KB false))])
 (.seq
 (.seq
 (.ops [i_ 8 (.mv (T 0)),
 i_ 9 (.mv (T 1)),
 i_ 10 (.call 162 [(T 8), (T 9)]),
 i_ 7 (.mv (T 10))])
 (.seq
 (.ops [i_ 11 (.mv (T 7)),
 i_ 12 (.ib .geq (T 11) (KI 0))])
 (.cond (T 12)
 (.seq
 (.dops <|
 .op 0 (i_ 13 (.mv (T 0))) <|
 .op 1 (i_ 14 (.mv (T 7))) <|
 .op 2 (i_ 15 (.slS (T 13) none (some (T 14)))) <|
 .op 3 (i_ 16 (.mv (T 0))) <|
 .op 4 (i_ 17 (.mv (T 7))) <|
 .op 5 (i_ 18 (.mv (T 1))) <|
 .op 6 (i_ 19 (.lenS (T 18))) <|
 .op 7 (i_ 20 (.ib .add (T 17) (T 19))) <|
 .op 8 (i_ 21 (.slS (T 16) (some (T 20)) none)) <|
 .op 9 (i_ 4 (.mv (T 15))) <|
 .op 10 (i_ 5 (.mv (T 21))) <|
 .op 11 (i_ 6 (.mv (KB true))) <|
 .nil)
 .ret)
 .skip)))
 (.seq
 (.ops [i_ 22 (.mv (T 0)),
 i_ 4 (.mv (T 22)),
 i_ 5 (.mv (KS [])),
 i_ 6 (.mv (KB false))])
 .ret)))
def m135 : MF := ⟨23, [(.tmp 4), (.tmp 5), (.tmp 6)], c135⟩
theorem r135 : resF Try.prog Try.f135 = some m135 := by kernel_rfl
end Go.Proofs.Ytcgbcbdgjhnlaaa

namespace Go.Proofs.Ytcgbcbdgjhnlaaa
def c139 : MC :=
 (.seq
 (.ops [i_ 2 (.mv (T 0)),
 i_ 3 (.nilck (T 2)),
 i_ 4 (.faddr 1 (T 3)),
 n_ (.st 1 (T 4) (KB true))])
 (.ops [i_ 5 (.mv (T 0)),
 i_ 6 (.nilck (T 5)),
 i_ 7 (.faddr 0 (T 6)),
 n_ (.st 1 (T 7) (.const (.slice none 0 0)))]))
def m139 : MF := ⟨8, [], c139⟩
theorem r139 : resF Try.prog Try.f139 = some m139 := by kernel_rfl
theorem k139 : Callable Try.prog 139 := ⟨_, Try.func139, by kernel_rfl, by kernel_rfl⟩

def c163 : MC :=
 (.seq
 (.ops [i_ 2 (.alloc 29 [(.int .i64 0), (.string ⟨⟨[]⟩⟩), (.int .i64 0)])])
 (.seq
 (.seq
 (.ops [i_ 3 (.mv (T 0)),
 i_ 4 (.nilck (T 3)),
 i_ 5 (.faddr 0 (T 4)),
 i_ 6 (.ld1 (T 5)),
 i_ 7 (.lenV (T 6)),
 i_ 8 (.ib .eql (T 7) (KI 0))])
 (.cond (T 8)
 (.seq
 (.ops [i_ 9 (.build [(.int .i64 0), (.string ⟨⟨[]⟩⟩), (.int .i64 0)] []),
 n_ (.st 3 (T 2) (T 9))])
 .ret)
 .skip))
 (.seq
 (.ops [i_ 10 (.mv (T 0)),
 i_ 11 (.nilck (T 10)),
 i_ 12 (.faddr 0 (T 11)),
 i_ 13 (.ld1 (T 12)),
 i_ 14 (.iaddr 3 (T 13) (KI 0)),
 i_ 15 (.ldN 3 (T 14)),
 n_ (.st 3 (T 2) (T 15))])
 .ret)))
def m163 : MF := ⟨16, [(.cell 2 3)], c163⟩
theorem r163 : resF Try.prog Try.f163 = some m163 := by kernel_rfl
theorem k163 : Callable Try.prog 163 := ⟨_, Try.func163, by kernel_rfl, by kernel_rfl⟩

def c165 : MC :=
 (.seq
 (.ops [i_ 4 (.mv (T 0)),
 i_ 5 (.mv (T 1)),
 i_ 6 (.call 136 [(T 4), (T 5)]),
 i_ 7 (.not (T 6))])
 (.cond (T 7)
 (.ops [i_ 8 (.mv (T 0)),
 i_ 9 (.call 139 [(T 8)])])
 .skip))
def m165 : MF := ⟨10, [], c165⟩
theorem r165 : resF Try.prog Try.f165 = some m165 := by kernel_rfl
theorem k165 : Callable Try.prog 165 := ⟨_, Try.func165, by kernel_rfl, by kernel_rfl⟩

def c136 : MC :=
 (.seq
 (.ops [i_ 4 (.mv (KB false))])
 (.seq
 (.ops [i_ 6 (.mv (T 0)),
 i_ 7 (.call 163 [(T 6)]),
 i_ 5 (.alloc 29 [(.int .i64 0), (.string ⟨⟨[]⟩⟩), (.int .i64 0)]),
 n_ (.st 3 (T 5) (T 7))])
 (.seq
 (.seq
 (.ops [i_ 8 (.faddr 0 (T 5)),
 i_ 9 (.ld1 (T 8)),
 i_ 10 (.ib .eql (T 9) (KI 0)),
 i_ 11 (.mv (T 10)),
 ig 12 11 false (.faddr 0 (T 5)),
 ig 13 11 false (.ld1 (T 12)),
 ig 14 11 false (.ib .eql (T 13) (KI 2)),
 i_ 15 (.pick (T 11) (KB true) (T 14)),
 i_ 16 (.mv (T 15)),
 ig 17 16 false (.faddr 1 (T 5)),
 ig 18 16 false (.ld1 (T 17)),
 ig 19 16 false (.mv (T 1)),
 ig 20 16 false (.sb .neq (T 18) (T 19)),
 i_ 21 (.pick (T 16) (KB true) (T 20))])
 (.cond (T 21)
 (.seq
 (.ops [i_ 4 (.mv (KB false))])
 .ret)
 .skip))
 (.seq
 (.ops [i_ 22 (.mv (T 0)),
 i_ 23 (.mv (T 0)),
 i_ 24 (.nilck (T 23)),
 i_ 25 (.faddr 0 (T 24)),
 i_ 26 (.ld1 (T 25)),
 i_ 27 (.slV 3 (T 26) (some (KI 1)) none),
 i_ 28 (.nilck (T 22)),
 i_ 29 (.faddr 0 (T 28)),
 n_ (.st 1 (T 29) (T 27))])
 (.seq
 (.ops [i_ 4 (.mv (KB true))])
 .ret)))))
def m136 : MF := ⟨30, [(.tmp 4)], c136⟩
theorem r136 : resF Try.prog Try.f136 = some m136 := by kernel_rfl
theorem k136 : Callable Try.prog 136 := ⟨_, Try.func136, by kernel_rfl, by kernel_rfl⟩

def c164 : MC :=
 (.seq
 (.ops [i_ 2 (.mv (KS []))])
 (.seq
 (.ops [i_ 4 (.mv (T 0)),
 i_ 5 (.call 163 [(T 4)]),
 i_ 3 (.alloc 29 [(.int .i64 0), (.string ⟨⟨[]⟩⟩), (.int .i64 0)]),
 n_ (.st 3 (T 3) (T 5))])
 (.seq
 (.seq
 (.ops [i_ 6 (.faddr 0 (T 3)),
 i_ 7 (.ld1 (T 6)),
 i_ 8 (.ib .neq (T 7) (KI 1)),
 i_ 9 (.mv (T 8)),
 ig 10 9 false (.faddr 1 (T 3)),
 ig 11 9 false (.ld1 (T 10)),
 ig 12 9 false (.call 37 [(T 11)]),
 ig 13 9 false (.not (T 12)),
 i_ 14 (.pick (T 9) (KB true) (T 13))])
 (.cond (T 14)
 (.seq
 (.ops [i_ 15 (.mv (T 0)),
 i_ 16 (.call 139 [(T 15)])])
 (.seq
 (.ops [i_ 2 (.mv (KS []))])
 .ret))
 .skip))
 (.seq
 (.ops [i_ 17 (.mv (T 0)),
 i_ 18 (.mv (T 0)),
 i_ 19 (.nilck (T 18)),
 i_ 20 (.faddr 0 (T 19)),
 i_ 21 (.ld1 (T 20)),
 i_ 22 (.slV 3 (T 21) (some (KI 1)) none),
 i_ 23 (.nilck (T 17)),
 i_ 24 (.faddr 0 (T 23)),
 n_ (.st 1 (T 24) (T 22))])
 (.seq
 (.ops [i_ 25 (.faddr 1 (T 3)),
 i_ 26 (.ld1 (T 25)),
 i_ 2 (.mv (T 26))])
 .ret)))))
def m164 : MF := ⟨27, [(.tmp 2)], c164⟩
theorem r164 : resF Try.prog Try.f164 = some m164 := by kernel_rfl
theorem k164 : Callable Try.prog 164 := ⟨_, Try.func164, by kernel_rfl, by kernel_rfl⟩

def c181 : MC :=
 (.seq
 (.ops [i_ 2 (.alloc 166 [(.string ⟨⟨[]⟩⟩), (.string ⟨⟨[]⟩⟩)])])
 (.seq
 (.seq
 (.ops [i_ 4 (.mv (T 0)),
 i_ 5 (.call 136 [(T 4), (KS [117, 115, 101, 114])])])
 (.cond (T 5)
 (.seq
 (.ops [i_ 6 (.build [(.string ⟨⟨[]⟩⟩), (.string ⟨⟨[]⟩⟩)] []),
 n_ (.st 2 (T 2) (T 6))])
 .ret)
 .skip))
 (.seq
 (.ops [i_ 7 (.mv (T 0)),
 i_ 8 (.call 164 [(T 7)]),
 i_ 9 (.build [(.string ⟨⟨[]⟩⟩), (.string ⟨⟨[]⟩⟩)] [(0, (1, (T 8)))]),
 i_ 3 (.alloc 166 [(.string ⟨⟨[]⟩⟩), (.string ⟨⟨[]⟩⟩)]),
 n_ (.st 2 (T 3) (T 9))])
 (.seq
 (.ops [i_ 10 (.mv (T 0)),
 i_ 11 (.call 165 [(T 10), (KS [35])])])
 (.seq
 (.ops [i_ 12 (.mv (T 0)),
 i_ 13 (.call 164 [(T 12)]),
 i_ 14 (.faddr 1 (T 3)),
 n_ (.st 1 (T 14) (T 13))])
 (.seq
 (.ops [i_ 15 (.ldN 2 (T 3)),
 n_ (.st 2 (T 2) (T 15))])
 .ret))))))
def m181 : MF := ⟨16, [(.cell 2 2)], c181⟩
theorem r181 : resF Try.prog Try.f181 = some m181 := by kernel_rfl
theorem k181 : Callable Try.prog 181 := ⟨_, Try.func181, by kernel_rfl, by kernel_rfl⟩

def c182 : MC :=
 (.seq
 (.ops [i_ 4 (.mv (.const (.slice none 0 0)))])
 (.seq
 (.ops [i_ 7 (.mv (T 0)),
 i_ 8 (.mv (T 1)),
 i_ 9 (.call 186 [(T 7), (T 8)]),
 i_ 1 (.mv (T 9))])
 (.seq
 (.seq
 (.ops [i_ 10 (.mv (T 0)),
 i_ 11 (.call 187 [(T 10)]),
 i_ 5 (.mv (T 11))])
 (.block 0
 (.loop [(12, 23), (23, 32), (6, 7), (1, 2), (5, 6)]
 (.seq
 (.seq
 (.ops [i_ 12 (.mv (T 5)),
 i_ 13 (.ib .neq (T 12) (KI 0)),
 i_ 14 (.mv (T 13)),
 ig 15 14 true (.mv (T 0)),
 ig 16 14 true (.nilck (T 15)),
 ig 17 14 true (.faddr 1 (T 16)),
 ig 18 14 true (.ld1 (T 17)),
 ig 19 14 true (.not (T 18)),
 i_ 20 (.pick (T 14) (T 19) (KB false))])
 (.cond (T 20)
 .skip
 (.exit 0)))
 (.seq
 (.block 1
 (.seq
 (.ops [i_ 23 (.mv (T 1)),
 i_ 24 (.lenV (T 23)),
 i_ 25 (.ib .sub (T 24) (KI 1)),
 i_ 6 (.mv (T 25))])
 (.ops [i_ 26 (.mv (T 0)),
 i_ 27 (.mv (T 1)),
 i_ 28 (.call 186 [(T 26), (T 27)]),
 i_ 29 (.mv (T 5)),
 i_ 30 (.mv (T 6)),
 i_ 31 (.call 188 [(T 28), (T 29), (T 30)]),
 i_ 1 (.mv (T 31))])))
 (.ops [i_ 21 (.mv (T 0)),
 i_ 22 (.call 187 [(T 21)]),
 i_ 5 (.mv (T 22))]))))))
 (.seq
 (.ops [i_ 32 (.mv (T 1)),
 i_ 4 (.mv (T 32))])
 .ret))))
def m182 : MF := ⟨33, [(.tmp 4)], c182⟩
theorem r182 : resF Try.prog Try.f182 = some m182 := by kernel_rfl
theorem k182 : Callable Try.prog 182 := ⟨_, Try.func182, by kernel_rfl, by kernel_rfl⟩

def c186 : MC :=
 (.seq
 (.ops [i_ 4 (.mv (.const (.slice none 0 0)))])
 (.seq
 (.ops [i_ 6 (.mv (T 0)),
 i_ 7 (.mv (T 1)),
 i_ 8 (.call 191 [(T 6), (T 7)]),
 i_ 1 (.mv (T 8))])
 (.seq
 (.block 0
 (.loop [(9, 26), (5, 6), (1, 2)]
 (.seq
 (.seq
 (.ops [i_ 9 (.mv (T 0)),
 i_ 10 (.nilck (T 9)),
 i_ 11 (.faddr 1 (T 10)),
 i_ 12 (.ld1 (T 11)),
 i_ 13 (.not (T 12)),
 i_ 14 (.mv (T 13)),
 ig 15 14 true (.mv (T 0)),
 ig 16 14 true (.call 136 [(T 15), (KS [38])]),
 i_ 17 (.pick (T 14) (T 16) (KB false))])
 (.cond (T 17)
 .skip
 (.exit 0)))
 (.block 1
 (.seq
 (.ops [i_ 18 (.mv (T 1)),
 i_ 19 (.lenV (T 18)),
 i_ 20 (.ib .sub (T 19) (KI 1)),
 i_ 5 (.mv (T 20))])
 (.ops [i_ 21 (.mv (T 0)),
 i_ 22 (.mv (T 1)),
 i_ 23 (.call 191 [(T 21), (T 22)]),
 i_ 24 (.mv (T 5)),
 i_ 25 (.call 188 [(T 23), (KI 5), (T 24)]),
 i_ 1 (.mv (T 25))]))))))
 (.seq
 (.ops [i_ 26 (.mv (T 1)),
 i_ 4 (.mv (T 26))])
 .ret))))
def m186 : MF := ⟨27, [(.tmp 4)], c186⟩
theorem r186 : resF Try.prog Try.f186 = some m186 := by kernel_rfl
theorem k186 : Callable Try.prog 186 := ⟨_, Try.func186, by kernel_rfl, by kernel_rfl⟩

def c187 : MC :=
 (.seq
 (.ops [i_ 2 (.mv (KI 0))])
 (.seq
 (.block 0
 (.seq
 (.ops [i_ 4 (.mv (T 0)),
 i_ 5 (.call 136 [(T 4), (KS [124])]),
 i_ 3 (.mv (T 5))])
 (.cond (T 3)
 (.seq
 (.ops [i_ 2 (.mv (KI 4))])
 .ret)
 (.seq
 (.ops [i_ 7 (.mv (T 0)),
 i_ 8 (.call 136 [(T 7), (KS [45])]),
 i_ 6 (.mv (T 8))])
 (.cond (T 6)
 (.seq
 (.ops [i_ 2 (.mv (KI 6))])
 .ret)
 .skip)))))
 (.seq
 (.ops [i_ 2 (.mv (KI 0))])
 .ret)))
def m187 : MF := ⟨9, [(.tmp 2)], c187⟩
theorem r187 : resF Try.prog Try.f187 = some m187 := by kernel_rfl
theorem k187 : Callable Try.prog 187 := ⟨_, Try.func187, by kernel_rfl, by kernel_rfl⟩

def c188 : MC :=
 (.seq
 (.ops [i_ 6 (.mv (.const (.slice none 0 0)))])
 (.seq
 (.ops [i_ 7 (.mv (T 0)),
 i_ 8 (.mv (T 1)),
 i_ 9 (.mv (T 2)),
 i_ 10 (.mv (T 0)),
 i_ 11 (.lenV (T 10)),
 i_ 12 (.ib .sub (T 11) (KI 1)),
 i_ 13 (.build [(.int .i64 0), (.string ⟨⟨[]⟩⟩), (.string ⟨⟨[]⟩⟩), (.int .i64 0), (.int .i64 0)] [(0, (1, (T 8))), (3, (1, (T 9))), (4, (1, (T 12)))]),
 i_ 14 (.bslice 93 [(.int .i64 0), (.string ⟨⟨[]⟩⟩), (.string ⟨⟨[]⟩⟩), (.int .i64 0), (.int .i64 0)] 1 5 [(0, (5, (T 13)))]),
 i_ 15 (.append 93 5 56 (T 7) (T 14)),
 i_ 6 (.mv (T 15))])
 .ret))
def m188 : MF := ⟨16, [(.tmp 6)], c188⟩
theorem r188 : resF Try.prog Try.f188 = some m188 := by kernel_rfl
theorem k188 : Callable Try.prog 188 := ⟨_, Try.func188, by kernel_rfl, by kernel_rfl⟩

def c191 : MC :=
 (.seq
 (.ops [i_ 4 (.mv (.const (.slice none 0 0)))])
 (.seq
 (.block 0
 (.seq
 (.ops [i_ 7 (.mv (T 0)),
 i_ 8 (.call 136 [(T 7), (KS [116, 104, 105, 115])]),
 i_ 6 (.mv (T 8))])
 (.cond (T 6)
 (.seq
 (.ops [i_ 9 (.mv (T 1)),
 i_ 10 (.build [(.int .i64 0), (.string ⟨⟨[]⟩⟩), (.string ⟨⟨[]⟩⟩), (.int .i64 0), (.int .i64 0)] [(0, (1, (KI 1)))]),
 i_ 11 (.bslice 93 [(.int .i64 0), (.string ⟨⟨[]⟩⟩), (.string ⟨⟨[]⟩⟩), (.int .i64 0), (.int .i64 0)] 1 5 [(0, (5, (T 10)))]),
 i_ 12 (.append 93 5 56 (T 9) (T 11)),
 i_ 4 (.mv (T 12))])
 .ret)
 (.seq
 (.ops [i_ 14 (.mv (T 0)),
 i_ 15 (.call 136 [(T 14), (KS [40])]),
 i_ 13 (.mv (T 15))])
 (.cond (T 13)
 (.seq
 (.ops [i_ 16 (.mv (T 0)),
 i_ 17 (.mv (T 1)),
 i_ 18 (.call 182 [(T 16), (T 17)]),
 i_ 1 (.mv (T 18))])
 (.seq
 (.ops [i_ 19 (.mv (T 0)),
 i_ 20 (.call 165 [(T 19), (KS [41])])])
 (.seq
 (.ops [i_ 21 (.mv (T 1)),
 i_ 4 (.mv (T 21))])
 .ret)))
 .skip)))))
 (.seq
 (.ops [i_ 22 (.mv (T 0)),
 i_ 23 (.call 164 [(T 22)]),
 i_ 24 (.build [(.int .i64 0), (.string ⟨⟨[]⟩⟩), (.string ⟨⟨[]⟩⟩), (.int .i64 0), (.int .i64 0)] [(0, (1, (KI 2))), (1, (1, (T 23)))]),
 i_ 5 (.alloc 93 [(.int .i64 0), (.string ⟨⟨[]⟩⟩), (.string ⟨⟨[]⟩⟩), (.int .i64 0), (.int .i64 0)]),
 n_ (.st 5 (T 5) (T 24))])
 (.seq
 (.seq
 (.ops [i_ 25 (.mv (T 0)),
 i_ 26 (.call 136 [(T 25), (KS [45, 62])])])
 (.cond (T 26)
 (.ops [i_ 27 (.mv (T 0)),
 i_ 28 (.call 164 [(T 27)]),
 i_ 29 (.faddr 0 (T 5)),
 n_ (.st 1 (T 29) (KI 3)),
 i_ 30 (.faddr 2 (T 5)),
 n_ (.st 1 (T 30) (T 28))])
 .skip))
 (.seq
 (.ops [i_ 31 (.mv (T 1)),
 i_ 32 (.ldN 5 (T 5)),
 i_ 33 (.bslice 93 [(.int .i64 0), (.string ⟨⟨[]⟩⟩), (.string ⟨⟨[]⟩⟩), (.int .i64 0), (.int .i64 0)] 1 5 [(0, (5, (T 32)))]),
 i_ 34 (.append 93 5 56 (T 31) (T 33)),
 i_ 4 (.mv (T 34))])
 .ret)))))
def m191 : MF := ⟨35, [(.tmp 4)], c191⟩
theorem r191 : resF Try.prog Try.f191 = some m191 := by kernel_rfl
theorem k191 : Callable Try.prog 191 := ⟨_, Try.func191, by kernel_rfl, by kernel_rfl⟩

def c137 : MC :=
 (.seq
 (.ops [i_ 2 (.alloc 83 [(.string ⟨⟨[]⟩⟩), (.slice none 0 0)])])
 (.seq
 (.ops [i_ 4 (.mv (T 0)),
 i_ 5 (.call 164 [(T 4)]),
 i_ 6 (.build [(.string ⟨⟨[]⟩⟩), (.slice none 0 0)] [(0, (1, (T 5)))]),
 i_ 3 (.alloc 83 [(.string ⟨⟨[]⟩⟩), (.slice none 0 0)]),
 n_ (.st 2 (T 3) (T 6))])
 (.seq
 (.ops [i_ 7 (.mv (T 0)),
 i_ 8 (.call 165 [(T 7), (KS [123])])])
 (.seq
 (.block 0
 (.loop [(9, 18)]
 (.seq
 (.seq
 (.ops [i_ 9 (.mv (T 0)),
 i_ 10 (.call 136 [(T 9), (KS [114, 101, 108, 97, 116, 105, 111, 110])])])
 (.cond (T 10)
 .skip
 (.exit 0)))
 (.block 1
 (.dops <|
 .op 0 (i_ 11 (.faddr 1 (T 3))) <|
 .op 1 (i_ 12 (.ld1 (T 11))) <|
 .op 2 (i_ 13 (.mv (T 0))) <|
 .op 3 (i_ 14 (.call 166 [(T 13)])) <|
 .op 4 (i_ 15 (.bslice 88 [(.string ⟨⟨[]⟩⟩), (.slice none 0 0), (.slice none 0 0)] 1 3 [(0, (3, (T 14)))])) <|
 .op 5 (id_ 16 (.append 88 3 64 (T 12) (T 15)) [1]) <|
 .op 6 (i_ 17 (.faddr 1 (T 3))) <|
 .op 7 (nd_ (.st 1 (T 17) (T 16)) [1]) <|
 .nil)))))
 (.seq
 (.ops [i_ 18 (.mv (T 0)),
 i_ 19 (.call 165 [(T 18), (KS [125])])])
 (.seq
 (.ops [i_ 20 (.ldN 2 (T 3)),
 n_ (.st 2 (T 2) (T 20))])
 .ret))))))
def m137 : MF := ⟨21, [(.cell 2 2)], c137⟩
theorem r137 : resF Try.prog Try.f137 = some m137 := by kernel_rfl
theorem k137 : Callable Try.prog 137 := ⟨_, Try.func137, by kernel_rfl, by kernel_rfl⟩

def c138 : MC :=
 (.seq
 (.ops [i_ 2 (.alloc 163 [(.string ⟨⟨[]⟩⟩), (.string ⟨⟨[]⟩⟩), (.string ⟨⟨[]⟩⟩), (.string ⟨⟨[]⟩⟩)])])
 (.seq
 (.ops [i_ 10 (.mv (T 0)),
 i_ 11 (.call 164 [(T 10)]),
 i_ 12 (.build [(.string ⟨⟨[]⟩⟩), (.string ⟨⟨[]⟩⟩), (.string ⟨⟨[]⟩⟩), (.string ⟨⟨[]⟩⟩)] [(0, (1, (T 11)))]),
 i_ 3 (.alloc 163 [(.string ⟨⟨[]⟩⟩), (.string ⟨⟨[]⟩⟩), (.string ⟨⟨[]⟩⟩), (.string ⟨⟨[]⟩⟩)]),
 n_ (.st 4 (T 3) (T 12))])
 (.seq
 (.ops [i_ 13 (.mv (T 0)),
 i_ 14 (.call 165 [(T 13), (KS [61])])])
 (.seq
 (.ops [i_ 15 (.mv (T 0)),
 i_ 16 (.call 163 [(T 15)]),
 i_ 4 (.alloc 29 [(.int .i64 0), (.string ⟨⟨[]⟩⟩), (.int .i64 0)]),
 n_ (.st 3 (T 4) (T 16))])
 (.seq
 (.ops [i_ 18 (.faddr 1 (T 4)),
 i_ 19 (.ld1 (T 18)),
 i_ 20 (.call 85 [(T 19), (KS [35])]),
 i_ 17 (.mv (T 20)),
 i_ 21 (.ext (T 17) 0),
 i_ 22 (.ext (T 17) 1),
 i_ 23 (.ext (T 17) 2),
 i_ 5 (.mv (T 21)),
 i_ 6 (.mv (T 22)),
 i_ 7 (.mv (T 23))])
 (.seq
 (.ops [i_ 25 (.mv (T 5)),
 i_ 26 (.call 29 [(T 25)]),
 i_ 24 (.mv (T 26)),
 i_ 27 (.ext (T 24) 0),
 i_ 28 (.ext (T 24) 1),
 i_ 8 (.alloc 42 [(.string ⟨⟨[]⟩⟩), (.string ⟨⟨[]⟩⟩)]),
 n_ (.st 2 (T 8) (T 27)),
 i_ 9 (.mv (T 28))])
 (.seq
 (.seq
 (.ops [i_ 29 (.faddr 0 (T 4)),
 i_ 30 (.ld1 (T 29)),
 i_ 31 (.ib .neq (T 30) (KI 2)),
 i_ 32 (.mv (T 31)),
 ig 33 32 false (.mv (T 9)),
 ig 34 32 false (.ib .neq (T 33) (KI 0)),
 i_ 35 (.pick (T 32) (KB true) (T 34)),
 i_ 36 (.mv (T 35)),
 ig 37 36 false (.mv (T 6)),
 ig 38 36 false (.call 37 [(T 37)]),
 ig 39 36 false (.not (T 38)),
 i_ 40 (.pick (T 36) (KB true) (T 39))])
 (.cond (T 40)
 (.seq
 (.ops [i_ 41 (.mv (T 0)),
 i_ 42 (.call 139 [(T 41)])])
 (.seq
 (.ops [i_ 43 (.ldN 4 (T 3)),
 n_ (.st 4 (T 2) (T 43))])
 .ret))
 .skip))
 (.seq
 (.ops [i_ 44 (.mv (T 0)),
 i_ 45 (.mv (T 0)),
 i_ 46 (.nilck (T 45)),
 i_ 47 (.faddr 0 (T 46)),
 i_ 48 (.ld1 (T 47)),
 i_ 49 (.slV 3 (T 48) (some (KI 1)) none),
 i_ 50 (.nilck (T 44)),
 i_ 51 (.faddr 0 (T 50)),
 n_ (.st 1 (T 51) (T 49))])
 (.seq
 (.ops [i_ 52 (.ldN 2 (T 8)),
 i_ 53 (.mv (T 6)),
 i_ 54 (.faddr 1 (T 3)),
 n_ (.st 2 (T 54) (T 52)),
 i_ 55 (.faddr 3 (T 3)),
 n_ (.st 1 (T 55) (T 53))])
 (.seq
 (.ops [i_ 56 (.mv (T 0)),
 i_ 57 (.call 165 [(T 56), (KS [59])])])
 (.seq
 (.ops [i_ 58 (.ldN 4 (T 3)),
 n_ (.st 4 (T 2) (T 58))])
 .ret)))))))))))
def m138 : MF := ⟨59, [(.cell 2 4)], c138⟩
theorem r138 : resF Try.prog Try.f138 = some m138 := by kernel_rfl
theorem k138 : Callable Try.prog 138 := ⟨_, Try.func138, by kernel_rfl, by kernel_rfl⟩

def c166 : MC :=
 (.seq
 (.ops [i_ 2 (.alloc 88 [(.string ⟨⟨[]⟩⟩), (.slice none 0 0), (.slice none 0 0)])])
 (.seq
 (.ops [i_ 4 (.mv (T 0)),
 i_ 5 (.call 164 [(T 4)]),
 i_ 6 (.build [(.int .i64 0), (.string ⟨⟨[]⟩⟩), (.string ⟨⟨[]⟩⟩), (.int .i64 0), (.int .i64 0)] [(0, (1, (KI 1)))]),
 i_ 7 (.bslice 93 [(.int .i64 0), (.string ⟨⟨[]⟩⟩), (.string ⟨⟨[]⟩⟩), (.int .i64 0), (.int .i64 0)] 1 5 [(0, (5, (T 6)))]),
 i_ 8 (.build [(.string ⟨⟨[]⟩⟩), (.slice none 0 0), (.slice none 0 0)] [(0, (1, (T 5))), (2, (1, (T 7)))]),
 i_ 3 (.alloc 88 [(.string ⟨⟨[]⟩⟩), (.slice none 0 0), (.slice none 0 0)]),
 n_ (.st 3 (T 3) (T 8))])
 (.seq
 (.seq
 (.ops [i_ 9 (.mv (T 0)),
 i_ 10 (.call 136 [(T 9), (KS [58])])])
 (.cond (T 10)
 (.seq
 (.dops <|
 .op 0 (i_ 11 (.faddr 1 (T 3))) <|
 .op 1 (i_ 12 (.ld1 (T 11))) <|
 .op 2 (i_ 13 (.mv (T 0))) <|
 .op 3 (i_ 14 (.call 181 [(T 13)])) <|
 .op 4 (i_ 15 (.bslice 166 [(.string ⟨⟨[]⟩⟩), (.string ⟨⟨[]⟩⟩)] 1 2 [(0, (2, (T 14)))])) <|
 .op 5 (id_ 16 (.append 166 2 32 (T 12) (T 15)) [1]) <|
 .op 6 (i_ 17 (.faddr 1 (T 3))) <|
 .op 7 (nd_ (.st 1 (T 17) (T 16)) [1]) <|
 .nil)
 (.block 0
 (.loop [(18, 27)]
 (.seq
 (.seq
 (.ops [i_ 18 (.mv (T 0)),
 i_ 19 (.call 136 [(T 18), (KS [124])])])
 (.cond (T 19)
 .skip
 (.exit 0)))
 (.block 1
 (.dops <|
 .op 0 (i_ 20 (.faddr 1 (T 3))) <|
 .op 1 (i_ 21 (.ld1 (T 20))) <|
 .op 2 (i_ 22 (.mv (T 0))) <|
 .op 3 (i_ 23 (.call 181 [(T 22)])) <|
 .op 4 (i_ 24 (.bslice 166 [(.string ⟨⟨[]⟩⟩), (.string ⟨⟨[]⟩⟩)] 1 2 [(0, (2, (T 23)))])) <|
 .op 5 (id_ 25 (.append 166 2 32 (T 21) (T 24)) [1]) <|
 .op 6 (i_ 26 (.faddr 1 (T 3))) <|
 .op 7 (nd_ (.st 1 (T 26) (T 25)) [1]) <|
 .nil))))))
 .skip))
 (.seq
 (.seq
 (.ops [i_ 27 (.mv (T 0)),
 i_ 28 (.call 136 [(T 27), (KS [61])])])
 (.cond (T 28)
 (.ops [i_ 29 (.mv (T 0)),
 i_ 30 (.call 182 [(T 29), (.const (.slice none 0 0))]),
 i_ 31 (.faddr 2 (T 3)),
 n_ (.st 1 (T 31) (T 30))])
 .skip))
 (.seq
 (.ops [i_ 32 (.mv (T 0)),
 i_ 33 (.call 165 [(T 32), (KS [59])])])
 (.seq
 (.ops [i_ 34 (.ldN 3 (T 3)),
 n_ (.st 3 (T 2) (T 34))])
 .ret))))))
def m166 : MF := ⟨35, [(.cell 2 3)], c166⟩
theorem r166 : resF Try.prog Try.f166 = some m166 := by kernel_rfl
theorem k166 : Callable Try.prog 166 := ⟨_, Try.func166, by kernel_rfl, by kernel_rfl⟩

def c97 : MC :=
 (.seq
 (.ops [i_ 2 (.alloc 74 [(.slice none 0 0), (.slice none 0 0)])])
 (.seq
 (.ops [i_ 3 (.alloc 74 [(.slice none 0 0), (.slice none 0 0)])])
 (.seq
 (.block 0
 (.loop [(4, 19), (20, 30), (19, 20), (30, 39)]
 (.seq
 (.seq
 (.ops [i_ 4 (.mv (T 0)),
 i_ 5 (.nilck (T 4)),
 i_ 6 (.faddr 1 (T 5)),
 i_ 7 (.ld1 (T 6)),
 i_ 8 (.not (T 7)),
 i_ 9 (.mv (T 8)),
 ig 10 9 true (.mv (T 0)),
 ig 11 9 true (.nilck (T 10)),
 ig 12 9 true (.faddr 0 (T 11)),
 ig 13 9 true (.ld1 (T 12)),
 ig 14 9 true (.lenV (T 13)),
 ig 15 9 true (.ib .gtr (T 14) (KI 0)),
 i_ 16 (.pick (T 9) (T 15) (KB false))])
 (.cond (T 16)
 .skip
 (.exit 0)))
 (.block 1
 (.block 2
 (.seq
 (.ops [i_ 20 (.mv (T 0)),
 i_ 21 (.call 136 [(T 20), (KS [110, 97, 109, 101, 115, 112, 97, 99, 101])]),
 i_ 19 (.mv (T 21))])
 (.cond (T 19)
 (.dops <|
 .op 0 (i_ 22 (.faddr 0 (T 3))) <|
 .op 1 (i_ 23 (.ld1 (T 22))) <|
 .op 2 (i_ 24 (.mv (T 0))) <|
 .op 3 (i_ 25 (.call 137 [(T 24)])) <|
 .op 4 (i_ 26 (.bslice 83 [(.string ⟨⟨[]⟩⟩), (.slice none 0 0)] 1 2 [(0, (2, (T 25)))])) <|
 .op 5 (id_ 27 (.append 83 2 40 (T 23) (T 26)) [1]) <|
 .op 6 (i_ 28 (.faddr 0 (T 3))) <|
 .op 7 (nd_ (.st 1 (T 28) (T 27)) [1]) <|
 .nil)
 (.seq
 (.ops [i_ 30 (.mv (T 0)),
 i_ 31 (.call 136 [(T 30), (KS [115, 99, 111, 112, 101])]),
 i_ 29 (.mv (T 31))])
 (.cond (T 29)
 (.dops <|
 .op 0 (i_ 32 (.faddr 1 (T 3))) <|
 .op 1 (i_ 33 (.ld1 (T 32))) <|
 .op 2 (i_ 34 (.mv (T 0))) <|
 .op 3 (i_ 35 (.call 138 [(T 34)])) <|
 .op 4 (i_ 36 (.bslice 163 [(.string ⟨⟨[]⟩⟩), (.string ⟨⟨[]⟩⟩), (.string ⟨⟨[]⟩⟩), (.string ⟨⟨[]⟩⟩)] 1 4 [(0, (4, (T 35)))])) <|
 .op 5 (id_ 37 (.append 163 4 64 (T 33) (T 36)) [1]) <|
 .op 6 (i_ 38 (.faddr 1 (T 3))) <|
 .op 7 (nd_ (.st 1 (T 38) (T 37)) [1]) <|
 .nil)
 (.ops [i_ 17 (.mv (T 0)),
 i_ 18 (.call 139 [(T 17)])]))))))))))
 (.seq
 (.ops [i_ 39 (.ldN 2 (T 3)),
 n_ (.st 2 (T 2) (T 39))])
 .ret))))
def m97 : MF := ⟨40, [(.cell 2 2)], c97⟩
theorem r97 : resF Try.prog Try.f97 = some m97 := by kernel_rfl
theorem k97 : Callable Try.prog 97 := ⟨_, Try.func97, by kernel_rfl, by kernel_rfl⟩

def c96 : MC :=
 (.seq
 (.ops [i_ 2 (.mv (KB false))])
 (.seq
 (.ops [i_ 3 (.mv (KI 0))])
 (.seq
 (.seq
 (.ops [i_ 6 (.mv (T 0)),
 i_ 7 (.lenV (T 6)),
 i_ 8 (.mv (KI 0))])
 (.block 0
 (.loop [(9, 13), (5, 6), (13, 24), (3, 4), (24, 38), (2, 3), (8, 9)]
 (.seq
 (.ops [i_ 9 (.ib .lss (T 8) (T 7))])
 (.seq
 (.cond (T 9)
 .skip
 (.exit 0))
 (.seq
 (.block 1
 (.seq
 (.ops [i_ 10 (.iaddr 3 (T 6) (T 8)),
 i_ 11 (.ldN 3 (T 10)),
 i_ 5 (.alloc 29 [(.int .i64 0), (.string ⟨⟨[]⟩⟩), (.int .i64 0)]),
 n_ (.st 3 (T 5) (T 11))])
 (.seq
 (.block 2
 (.seq
 (.ops [i_ 13 (.faddr 0 (T 5)),
 i_ 14 (.ld1 (T 13)),
 i_ 15 (.ib .eql (T 14) (KI 3)),
 i_ 16 (.mv (T 15)),
 ig 17 16 true (.faddr 1 (T 5)),
 ig 18 16 true (.ld1 (T 17)),
 ig 19 16 true (.sb .eql (T 18) (KS [40])),
 i_ 20 (.pick (T 16) (T 19) (KB false)),
 i_ 12 (.mv (T 20))])
 (.cond (T 12)
 (.ops [i_ 21 (.mv (T 3)),
 i_ 22 (.ib .add (T 21) (KI 1)),
 i_ 3 (.mv (T 22))])
 (.seq
 (.ops [i_ 24 (.faddr 0 (T 5)),
 i_ 25 (.ld1 (T 24)),
 i_ 26 (.ib .eql (T 25) (KI 3)),
 i_ 27 (.mv (T 26)),
 ig 28 27 true (.faddr 1 (T 5)),
 ig 29 27 true (.ld1 (T 28)),
 ig 30 27 true (.sb .eql (T 29) (KS [41])),
 i_ 31 (.pick (T 27) (T 30) (KB false)),
 i_ 23 (.mv (T 31))])
 (.cond (T 23)
 (.ops [i_ 32 (.mv (T 3)),
 i_ 33 (.ib .sub (T 32) (KI 1)),
 i_ 34 (.maxI (T 33) (KI 0)),
 i_ 3 (.mv (T 34))])
 .skip)))))
 (.seq
 (.ops [i_ 35 (.mv (T 3)),
 i_ 36 (.ib .gtr (T 35) (KI 16))])
 (.cond (T 36)
 (.seq
 (.ops [i_ 2 (.mv (KB true))])
 .ret)
 .skip)))))
 (.ops [i_ 37 (.ib .add (T 8) (KI 1)),
 i_ 8 (.mv (T 37))])))))))
 (.seq
 (.ops [i_ 2 (.mv (KB false))])
 .ret))))
def m96 : MF := ⟨38, [(.tmp 2)], c96⟩
theorem r96 : resF Try.prog Try.f96 = some m96 := by kernel_rfl
def c98 : MC :=
 (.seq
 (.ops [i_ 1 (.box 74 (T 0)),
 i_ 2 (.mv (KB false))])
 (.seq
 (.seq
 (.ops [i_ 5 (.faddr 0 (T 1)),
 i_ 6 (.ld1 (T 5)),
 i_ 7 (.lenV (T 6)),
 i_ 8 (.ib .gtr (T 7) (KI 16)),
 i_ 9 (.mv (T 8)),
 ig 10 9 false (.faddr 1 (T 1)),
 ig 11 9 false (.ld1 (T 10)),
 ig 12 9 false (.lenV (T 11)),
 ig 13 9 false (.ib .gtr (T 12) (KI 16)),
 i_ 14 (.pick (T 9) (KB true) (T 13))])
 (.cond (T 14)
 (.seq
 (.ops [i_ 2 (.mv (KB false))])
 .ret)
 .skip))
 (.seq
 (.seq
 (.ops [i_ 15 (.faddr 0 (T 1)),
 i_ 16 (.ld1 (T 15)),
 i_ 17 (.lenV (T 16)),
 i_ 18 (.mv (KI 0))])
 (.block 0
 (.loop [(19, 32), (4, 5), (2, 3), (18, 19)]
 (.seq
 (.ops [i_ 19 (.ib .lss (T 18) (T 17))])
 (.seq
 (.cond (T 19)
 .skip
 (.exit 0))
 (.seq
 (.block 1
 (.seq
 (.ops [i_ 20 (.iaddr 2 (T 16) (T 18)),
 i_ 21 (.ldN 2 (T 20)),
 i_ 4 (.alloc 83 [(.string ⟨⟨[]⟩⟩), (.slice none 0 0)]),
 n_ (.st 2 (T 4) (T 21))])
 (.seq
 (.ops [i_ 22 (.faddr 1 (T 4)),
 i_ 23 (.ld1 (T 22)),
 i_ 24 (.lenV (T 23)),
 i_ 25 (.ib .gtr (T 24) (KI 16)),
 i_ 26 (.mv (T 25)),
 ig 27 26 false (.faddr 1 (T 4)),
 ig 28 26 false (.ld1 (T 27)),
 ig 29 26 false (.call 140 [(T 28), (FN 141)]),
 i_ 30 (.pick (T 26) (KB true) (T 29))])
 (.cond (T 30)
 (.seq
 (.ops [i_ 2 (.mv (KB false))])
 .ret)
 .skip))))
 (.ops [i_ 31 (.ib .add (T 18) (KI 1)),
 i_ 18 (.mv (T 31))])))))))
 (.seq
 (.ops [i_ 2 (.mv (KB true))])
 .ret))))
def m98 : MF := ⟨32, [(.tmp 2)], c98⟩
theorem r98 : resF Try.prog Try.f98 = some m98 := by kernel_rfl
def c52 : MC :=
 (.seq
 (.ops [i_ 2 (.alloc 74 [(.slice none 0 0), (.slice none 0 0)]),
 i_ 3 (.mv (KI 0))])
 (.seq
 (.ops [i_ 9 (.mv (T 0)),
 i_ 10 (.call 22 [(T 9)]),
 i_ 8 (.mv (T 10)),
 i_ 11 (.ext (T 8) 0),
 i_ 12 (.ext (T 8) 1),
 i_ 4 (.mv (T 11)),
 i_ 5 (.mv (T 12))])
 (.seq
 (.block 0
 (.seq
 (.ops [i_ 14 (.mv (T 5)),
 i_ 15 (.ib .neq (T 14) (KI 0)),
 i_ 13 (.mv (T 15))])
 (.cond (T 13)
 (.seq
 (.ops [i_ 16 (.build [(.slice none 0 0), (.slice none 0 0)] []),
 i_ 17 (.mv (T 5)),
 n_ (.st 2 (T 2) (T 16)),
 i_ 3 (.mv (T 17))])
 .ret)
 (.seq
 (.ops [i_ 19 (.mv (T 4)),
 i_ 20 (.call 96 [(T 19)]),
 i_ 18 (.mv (T 20))])
 (.cond (T 18)
 (.seq
 (.ops [i_ 21 (.build [(.slice none 0 0), (.slice none 0 0)] []),
 n_ (.st 2 (T 2) (T 21)),
 i_ 3 (.mv (KI 5))])
 .ret)
 .skip)))))
 (.seq
 (.ops [i_ 22 (.mv (T 4)),
 i_ 23 (.build [(.slice none 0 0), (.bool false)] [(0, (1, (T 22)))]),
 i_ 24 (.box 157 (T 23)),
 i_ 6 (.mv (T 24))])
 (.seq
 (.ops [i_ 25 (.mv (T 6)),
 i_ 26 (.call 97 [(T 25)]),
 i_ 7 (.alloc 74 [(.slice none 0 0), (.slice none 0 0)]),
 n_ (.st 2 (T 7) (T 26))])
 (.seq
 (.block 1
 (.seq
 (.ops [i_ 28 (.mv (T 6)),
 i_ 29 (.nilck (T 28)),
 i_ 30 (.faddr 1 (T 29)),
 i_ 31 (.ld1 (T 30)),
 i_ 27 (.mv (T 31))])
 (.cond (T 27)
 (.seq
 (.ops [i_ 32 (.build [(.slice none 0 0), (.slice none 0 0)] []),
 n_ (.st 2 (T 2) (T 32)),
 i_ 3 (.mv (KI 4))])
 .ret)
 (.seq
 (.ops [i_ 34 (.ldN 2 (T 7)),
 i_ 35 (.call 98 [(T 34)]),
 i_ 36 (.not (T 35)),
 i_ 33 (.mv (T 36))])
 (.cond (T 33)
 (.seq
 (.ops [i_ 37 (.build [(.slice none 0 0), (.slice none 0 0)] []),
 n_ (.st 2 (T 2) (T 37)),
 i_ 3 (.mv (KI 25))])
 .ret)
 .skip)))))
 (.seq
 (.ops [i_ 38 (.ldN 2 (T 7)),
 n_ (.st 2 (T 2) (T 38)),
 i_ 3 (.mv (KI 0))])
 .ret)))))))
def m52 : MF := ⟨39, [(.cell 2 2), (.tmp 3)], c52⟩
theorem r52 : resF Try.prog Try.f52 = some m52 := by kernel_rfl
def c141 : MC :=
 (.seq
 (.ops [i_ 1 (.box 88 (T 0)),
 i_ 2 (.mv (KB false))])
 (.seq
 (.ops [i_ 3 (.faddr 1 (T 1)),
 i_ 4 (.ld1 (T 3)),
 i_ 5 (.lenV (T 4)),
 i_ 6 (.ib .gtr (T 5) (KI 8)),
 i_ 7 (.mv (T 6)),
 ig 8 7 false (.faddr 2 (T 1)),
 ig 9 7 false (.ld1 (T 8)),
 ig 10 7 false (.lenV (T 9)),
 ig 11 7 false (.ib .gtr (T 10) (KI 64)),
 i_ 12 (.pick (T 7) (KB true) (T 11)),
 i_ 13 (.mv (T 12)),
 ig 14 13 false (.faddr 2 (T 1)),
 ig 15 13 false (.ld1 (T 14)),
 ig 16 13 false (.call 57 [(T 15)]),
 ig 17 13 false (.ib .gtr (T 16) (KI 16)),
 i_ 18 (.pick (T 13) (KB true) (T 17)),
 i_ 2 (.mv (T 18))])
 .ret))
def m141 : MF := ⟨19, [(.tmp 2)], c141⟩
theorem r141 : resF Try.prog Try.f141 = some m141 := by kernel_rfl
def c57 : MC :=
 (.seq
 (.ops [i_ 2 (.mv (KI 0))])
 (.seq
 (.dops <|
 .op 0 (i_ 7 (.mv (T 0))) <|
 .op 1 (i_ 8 (.lenV (T 7))) <|
 .op 3 (i_ 10 (.mv (T 0))) <|
 .op 4 (i_ 11 (.lenV (T 10))) <|
 .both
 (.op 2 (i_ 9 (.mkslice 3 1 8 [(.int .i64 0)] (T 8) (T 8))) <|
 .op 6 (i_ 3 (.mv (T 9))) <|
 .op 5 (i_ 12 (.mkslice 3 1 8 [(.int .i64 0)] (T 11) (T 11))) <|
 .op 7 (i_ 4 (.mv (T 12))) <|
 .nil)
 (.op 5 (i_ 12 (.mkslice 3 1 8 [(.int .i64 0)] (T 11) (T 11))) <|
 .op 2 (i_ 9 (.mkslice 3 1 8 [(.int .i64 0)] (T 8) (T 8))) <|
 .op 6 (i_ 3 (.mv (T 9))) <|
 .op 7 (i_ 4 (.mv (T 12))) <|
 .nil))
 (.seq
 (.seq
 (.ops [i_ 13 (.mv (T 0)),
 i_ 14 (.lenV (T 13)),
 i_ 15 (.mv (KI 0))])
 (.block 0
 (.loop [(16, 111), (6, 7), (5, 6), (2, 3), (15, 16)]
 (.seq
 (.ops [i_ 16 (.ib .lss (T 15) (T 14))])
 (.seq
 (.cond (T 16)
 .skip
 (.exit 0))
 (.seq
 (.block 1
 (.seq
 (.ops [i_ 17 (.mv (T 15)),
 i_ 18 (.iaddr 5 (T 13) (T 15)),
 i_ 19 (.ldN 5 (T 18)),
 i_ 6 (.alloc 93 [(.int .i64 0), (.string ⟨⟨[]⟩⟩), (.string ⟨⟨[]⟩⟩), (.int .i64 0), (.int .i64 0)]),
 i_ 5 (.mv (T 17)),
 n_ (.st 5 (T 6) (T 19))])
 (.seq
 (.seq
 (.ops [i_ 20 (.faddr 0 (T 6)),
 i_ 21 (.ld1 (T 20)),
 i_ 22 (.ib .neq (T 21) (KI 4)),
 i_ 23 (.mv (T 22)),
 ig 24 23 true (.faddr 0 (T 6)),
 ig 25 23 true (.ld1 (T 24)),
 ig 26 23 true (.ib .neq (T 25) (KI 5)),
 i_ 27 (.pick (T 23) (T 26) (KB false)),
 i_ 28 (.mv (T 27)),
 ig 29 28 true (.faddr 0 (T 6)),
 ig 30 28 true (.ld1 (T 29)),
 ig 31 28 true (.ib .neq (T 30) (KI 6)),
 i_ 32 (.pick (T 28) (T 31) (KB false))])
 (.cond (T 32)
 (.seq
 (.seq
 (.ops [i_ 33 (.ldN 5 (T 6)),
 i_ 34 (.call 108 [(T 33)]),
 i_ 35 (.not (T 34))])
 (.cond (T 35)
 (.seq
 (.ops [i_ 2 (.mv (KI 0))])
 .ret)
 .skip))
 (.seq
 (.ops [i_ 36 (.mv (T 3)),
 i_ 37 (.mv (T 5)),
 i_ 38 (.mv (T 4)),
 i_ 39 (.mv (T 5)),
 i_ 40 (.iaddr 1 (T 36) (T 37)),
 n_ (.st 1 (T 40) (KI 1)),
 i_ 41 (.iaddr 1 (T 38) (T 39)),
 n_ (.st 1 (T 41) (KI 1))])
 (.exit 1)))
 .skip))
 (.seq
 (.seq
 (.dops <|
 .op 0 (i_ 42 (.faddr 1 (T 6))) <|
 .op 1 (i_ 43 (.ld1 (T 42))) <|
 .op 2 (i_ 44 (.sb .neq (T 43) (KS []))) <|
 .op 3 (i_ 45 (.mv (T 44))) <|
 .op 4 (ig 46 45 false (.faddr 2 (T 6))) <|
 .op 5 (ig 47 45 false (.ld1 (T 46))) <|
 .op 6 (ig 48 45 false (.sb .neq (T 47) (KS []))) <|
 .op 7 (i_ 49 (.pick (T 45) (KB true) (T 48))) <|
 .op 8 (i_ 50 (.mv (T 49))) <|
 .op 9 (ig 51 50 false (.faddr 4 (T 6))) <|
 .op 10 (ig 52 50 false (.ld1 (T 51))) <|
 .op 11 (ig 53 50 false (.mv (T 5))) <|
 .op 12 (ig 54 50 false (.ib .sub (T 53) (KI 1))) <|
 .op 13 (ig 55 50 false (.ib .neq (T 52) (T 54))) <|
 .op 14 (i_ 56 (.pick (T 50) (KB true) (T 55))) <|
 .op 15 (i_ 57 (.mv (T 56))) <|
 .op 16 (ig 58 57 false (.faddr 4 (T 6))) <|
 .op 17 (ig 59 57 false (.ld1 (T 58))) <|
 .op 18 (ig 60 57 false (.ib .lss (T 59) (KI 0))) <|
 .op 19 (i_ 61 (.pick (T 57) (KB true) (T 60))) <|
 .op 20 (i_ 62 (.mv (T 61))) <|
 .op 21 (ig 63 62 false (.faddr 3 (T 6))) <|
 .op 22 (ig 64 62 false (.ld1 (T 63))) <|
 .op 23 (ig 65 62 false (.mv (T 5))) <|
 .op 24 (ig 66 62 false (.ib .sub (T 65) (KI 1))) <|
 .op 25 (ig 67 62 false (.mv (T 3))) <|
 .op 26 (ig 68 62 false (.mv (T 5))) <|
 .op 27 (ig 69 62 false (.ib .sub (T 68) (KI 1))) <|
 .op 28 (ig 70 62 false (.iaddr 1 (T 67) (T 69))) <|
 .op 29 (ig 71 62 false (.ld1 (T 70))) <|
 .op 30 (ig 72 62 false (.ib .sub (T 66) (T 71))) <|
 .op 31 (ig 73 62 false (.ib .neq (T 64) (T 72))) <|
 .op 32 (i_ 74 (.pick (T 62) (KB true) (T 73))) <|
 .op 33 (i_ 75 (.mv (T 74))) <|
 .op 34 (ig 76 75 false (.faddr 3 (T 6))) <|
 .op 35 (ig 77 75 false (.ld1 (T 76))) <|
 .op 36 (ig 78 75 false (.ib .lss (T 77) (KI 0))) <|
 .op 37 (i_ 79 (.pick (T 75) (KB true) (T 78))) <|
 .nil)
 (.cond (T 79)
 (.seq
 (.ops [i_ 2 (.mv (KI 0))])
 .ret)
 .skip))
 (.seq
 (.dops <|
 .op 0 (i_ 80 (.mv (T 3))) <|
 .op 1 (i_ 81 (.mv (T 5))) <|
 .op 2 (i_ 82 (.mv (T 3))) <|
 .op 3 (i_ 83 (.faddr 3 (T 6))) <|
 .op 4 (i_ 84 (.ld1 (T 83))) <|
 .op 5 (i_ 85 (.iaddr 1 (T 82) (T 84))) <|
 .op 6 (i_ 86 (.ld1 (T 85))) <|
 .op 7 (i_ 87 (.mv (T 3))) <|
 .op 8 (i_ 88 (.faddr 4 (T 6))) <|
 .op 9 (i_ 89 (.ld1 (T 88))) <|
 .op 10 (i_ 90 (.iaddr 1 (T 87) (T 89))) <|
 .op 11 (i_ 91 (.ld1 (T 90))) <|
 .op 12 (i_ 92 (.ib .add (T 86) (T 91))) <|
 .op 13 (i_ 93 (.ib .add (T 92) (KI 1))) <|
 .op 14 (i_ 94 (.iaddr 1 (T 80) (T 81))) <|
 .op 15 (nd_ (.st 1 (T 94) (T 93)) [4, 6, 9, 11]) <|
 .nil)
 (.dops <|
 .op 0 (i_ 95 (.mv (T 4))) <|
 .op 1 (i_ 96 (.mv (T 5))) <|
 .op 2 (i_ 97 (.mv (T 4))) <|
 .op 3 (i_ 98 (.faddr 3 (T 6))) <|
 .op 4 (i_ 99 (.ld1 (T 98))) <|
 .op 5 (i_ 100 (.iaddr 1 (T 97) (T 99))) <|
 .op 6 (i_ 101 (.ld1 (T 100))) <|
 .op 7 (i_ 102 (.mv (T 4))) <|
 .op 8 (i_ 103 (.faddr 4 (T 6))) <|
 .op 9 (i_ 104 (.ld1 (T 103))) <|
 .op 10 (i_ 105 (.iaddr 1 (T 102) (T 104))) <|
 .op 11 (i_ 106 (.ld1 (T 105))) <|
 .op 12 (i_ 107 (.maxI (T 101) (T 106))) <|
 .op 13 (i_ 108 (.ib .add (T 107) (KI 1))) <|
 .op 14 (i_ 109 (.iaddr 1 (T 95) (T 96))) <|
 .op 15 (nd_ (.st 1 (T 109) (T 108)) [4, 6, 9, 11]) <|
 .nil))))))
 (.ops [i_ 110 (.ib .add (T 15) (KI 1)),
 i_ 15 (.mv (T 110))])))))))
 (.seq
 (.seq
 (.ops [i_ 111 (.mv (T 0)),
 i_ 112 (.lenV (T 111)),
 i_ 113 (.ib .eql (T 112) (KI 0)),
 i_ 114 (.mv (T 113)),
 ig 115 114 false (.mv (T 3)),
 ig 116 114 false (.mv (T 0)),
 ig 117 114 false (.lenV (T 116)),
 ig 118 114 false (.ib .sub (T 117) (KI 1)),
 ig 119 114 false (.iaddr 1 (T 115) (T 118)),
 ig 120 114 false (.ld1 (T 119)),
 ig 121 114 false (.mv (T 0)),
 ig 122 114 false (.lenV (T 121)),
 ig 123 114 false (.ib .neq (T 120) (T 122)),
 i_ 124 (.pick (T 114) (KB true) (T 123))])
 (.cond (T 124)
 (.seq
 (.ops [i_ 2 (.mv (KI 0))])
 .ret)
 .skip))
 (.seq
 (.ops [i_ 125 (.mv (T 4)),
 i_ 126 (.mv (T 0)),
 i_ 127 (.lenV (T 126)),
 i_ 128 (.ib .sub (T 127) (KI 1)),
 i_ 129 (.iaddr 1 (T 125) (T 128)),
 i_ 130 (.ld1 (T 129)),
 i_ 2 (.mv (T 130))])
 .ret)))))
def m57 : MF := ⟨131, [(.tmp 2)], c57⟩
theorem r57 : resF Try.prog Try.f57 = some m57 := by kernel_rfl
def c108 : MC :=
 (.seq
 (.ops [i_ 1 (.box 93 (T 0)),
 i_ 2 (.mv (KB false))])
 (.seq
 (.seq
 (.ops [i_ 3 (.faddr 3 (T 1)),
 i_ 4 (.ld1 (T 3)),
 i_ 5 (.ib .neq (T 4) (KI 0)),
 i_ 6 (.mv (T 5)),
 ig 7 6 false (.faddr 4 (T 1)),
 ig 8 6 false (.ld1 (T 7)),
 ig 9 6 false (.ib .neq (T 8) (KI 0)),
 i_ 10 (.pick (T 6) (KB true) (T 9))])
 (.cond (T 10)
 (.seq
 (.ops [i_ 2 (.mv (KB false))])
 .ret)
 .skip))
 (.seq
 (.seq
 (.ops [i_ 11 (.faddr 0 (T 1)),
 i_ 12 (.ld1 (T 11))])
 (.block 0
 (.seq
 (.ops [i_ 14 (.ib .eql (T 12) (KI 1)),
 i_ 13 (.mv (T 14))])
 (.cond (T 13)
 (.seq
 (.ops [i_ 15 (.faddr 1 (T 1)),
 i_ 16 (.ld1 (T 15)),
 i_ 17 (.sb .eql (T 16) (KS [])),
 i_ 18 (.mv (T 17)),
 ig 19 18 true (.faddr 2 (T 1)),
 ig 20 18 true (.ld1 (T 19)),
 ig 21 18 true (.sb .eql (T 20) (KS [])),
 i_ 22 (.pick (T 18) (T 21) (KB false)),
 i_ 2 (.mv (T 22))])
 .ret)
 (.seq
 (.ops [i_ 24 (.ib .eql (T 12) (KI 2)),
 i_ 23 (.mv (T 24))])
 (.cond (T 23)
 (.seq
 (.ops [i_ 25 (.faddr 1 (T 1)),
 i_ 26 (.ld1 (T 25)),
 i_ 27 (.call 37 [(T 26)]),
 i_ 28 (.mv (T 27)),
 ig 29 28 true (.faddr 2 (T 1)),
 ig 30 28 true (.ld1 (T 29)),
 ig 31 28 true (.sb .eql (T 30) (KS [])),
 i_ 32 (.pick (T 28) (T 31) (KB false)),
 i_ 2 (.mv (T 32))])
 .ret)
 (.seq
 (.ops [i_ 34 (.ib .eql (T 12) (KI 3)),
 i_ 33 (.mv (T 34))])
 (.cond (T 33)
 (.seq
 (.ops [i_ 35 (.faddr 1 (T 1)),
 i_ 36 (.ld1 (T 35)),
 i_ 37 (.call 37 [(T 36)]),
 i_ 38 (.mv (T 37)),
 ig 39 38 true (.faddr 2 (T 1)),
 ig 40 38 true (.ld1 (T 39)),
 ig 41 38 true (.call 37 [(T 40)]),
 i_ 42 (.pick (T 38) (T 41) (KB false)),
 i_ 2 (.mv (T 42))])
 .ret)
 .skip))))))))
 (.seq
 (.ops [i_ 2 (.mv (KB false))])
 .ret))))
def m108 : MF := ⟨43, [(.tmp 2)], c108⟩
theorem r108 : resF Try.prog Try.f108 = some m108 := by kernel_rfl
def c105 : MC :=
 (.seq
 (.ops [i_ 1 (.box 166 (T 0)),
 i_ 2 (.mv (KB false))])
 (.seq
 (.ops [i_ 3 (.ldN 2 (T 1)),
 i_ 4 (.build [(.string ⟨⟨[]⟩⟩), (.string ⟨⟨[]⟩⟩)] []),
 i_ 5 (.eqA false 166 [166] [2, 2] (T 3) (T 4)),
 i_ 6 (.mv (T 5)),
 ig 7 6 false (.faddr 0 (T 1)),
 ig 8 6 false (.ld1 (T 7)),
 ig 9 6 false (.call 37 [(T 8)]),
 ig 10 6 false (.mv (T 9)),
 ig 11 10 true (.faddr 1 (T 1)),
 ig 12 10 true (.ld1 (T 11)),
 ig 13 10 true (.call 37 [(T 12)]),
 ig 14 6 false (.pick (T 10) (T 13) (KB false)),
 i_ 15 (.pick (T 6) (KB true) (T 14)),
 i_ 2 (.mv (T 15))])
 .ret))
def m105 : MF := ⟨16, [(.tmp 2)], c105⟩
theorem r105 : resF Try.prog Try.f105 = some m105 := by kernel_rfl
def c104 : MC :=
 (.seq
 (.ops [i_ 1 (.box 166 (T 0)),
 i_ 2 (.mv (KB false))])
 (.seq
 (.ops [i_ 3 (.ldN 2 (T 1)),
 i_ 4 (.call 105 [(T 3)]),
 i_ 5 (.not (T 4)),
 i_ 2 (.mv (T 5))])
 .ret))
def m104 : MF := ⟨6, [(.tmp 2)], c104⟩
theorem r104 : resF Try.prog Try.f104 = some m104 := by kernel_rfl
def c107 : MC :=
 (.seq
 (.ops [i_ 1 (.box 163 (T 0)),
 i_ 2 (.mv (KB false))])
 (.seq
 (.ops [i_ 3 (.faddr 0 (T 1)),
 i_ 4 (.ld1 (T 3)),
 i_ 5 (.call 37 [(T 4)]),
 i_ 6 (.not (T 5)),
 i_ 7 (.mv (T 6)),
 ig 8 7 false (.faddr 1 (T 1)),
 ig 9 7 false (.ldN 2 (T 8)),
 ig 10 7 false (.call 43 [(T 9)]),
 ig 11 7 false (.ib .neq (T 10) (KI 0)),
 i_ 12 (.pick (T 7) (KB true) (T 11)),
 i_ 13 (.mv (T 12)),
 ig 14 13 false (.faddr 3 (T 1)),
 ig 15 13 false (.ld1 (T 14)),
 ig 16 13 false (.call 37 [(T 15)]),
 ig 17 13 false (.not (T 16)),
 i_ 18 (.pick (T 13) (KB true) (T 17)),
 i_ 2 (.mv (T 18))])
 .ret))
def m107 : MF := ⟨19, [(.tmp 2)], c107⟩
theorem r107 : resF Try.prog Try.f107 = some m107 := by kernel_rfl
def c55 : MC :=
 (.seq
 (.ops [i_ 1 (.box 74 (T 0)),
 i_ 2 (.mv (KB false))])
 (.seq
 (.seq
 (.ops [i_ 7 (.ldN 2 (T 1)),
 i_ 8 (.call 98 [(T 7)]),
 i_ 9 (.not (T 8))])
 (.cond (T 9)
 (.seq
 (.ops [i_ 2 (.mv (KB false))])
 .ret)
 .skip))
 (.seq
 (.seq
 (.ops [i_ 10 (.faddr 0 (T 1)),
 i_ 11 (.ld1 (T 10)),
 i_ 12 (.lenV (T 11)),
 i_ 13 (.mv (KI 0))])
 (.block 0
 (.loop [(14, 45), (4, 5), (2, 3), (6, 7), (13, 14)]
 (.seq
 (.ops [i_ 14 (.ib .lss (T 13) (T 12))])
 (.seq
 (.cond (T 14)
 .skip
 (.exit 0))
 (.seq
 (.block 1
 (.seq
 (.ops [i_ 15 (.iaddr 2 (T 11) (T 13)),
 i_ 16 (.ldN 2 (T 15)),
 i_ 4 (.alloc 83 [(.string ⟨⟨[]⟩⟩), (.slice none 0 0)]),
 n_ (.st 2 (T 4) (T 16))])
 (.seq
 (.seq
 (.ops [i_ 17 (.faddr 0 (T 4)),
 i_ 18 (.ld1 (T 17)),
 i_ 19 (.call 37 [(T 18)]),
 i_ 20 (.not (T 19))])
 (.cond (T 20)
 (.seq
 (.ops [i_ 2 (.mv (KB false))])
 .ret)
 .skip))
 (.seq
 (.ops [i_ 21 (.faddr 1 (T 4)),
 i_ 22 (.ld1 (T 21)),
 i_ 23 (.lenV (T 22)),
 i_ 24 (.mv (KI 0))])
 (.block 2
 (.loop [(25, 44), (6, 7), (2, 3), (24, 25)]
 (.seq
 (.ops [i_ 25 (.ib .lss (T 24) (T 23))])
 (.seq
 (.cond (T 25)
 .skip
 (.exit 2))
 (.seq
 (.block 3
 (.seq
 (.ops [i_ 26 (.iaddr 3 (T 22) (T 24)),
 i_ 27 (.ldN 3 (T 26)),
 i_ 6 (.alloc 88 [(.string ⟨⟨[]⟩⟩), (.slice none 0 0), (.slice none 0 0)]),
 n_ (.st 3 (T 6) (T 27))])
 (.seq
 (.ops [i_ 28 (.faddr 0 (T 6)),
 i_ 29 (.ld1 (T 28)),
 i_ 30 (.call 37 [(T 29)]),
 i_ 31 (.not (T 30)),
 i_ 32 (.mv (T 31)),
 ig 33 32 false (.faddr 2 (T 6)),
 ig 34 32 false (.ld1 (T 33)),
 ig 35 32 false (.call 57 [(T 34)]),
 ig 36 32 false (.ib .eql (T 35) (KI 0)),
 i_ 37 (.pick (T 32) (KB true) (T 36)),
 i_ 38 (.mv (T 37)),
 ig 39 38 false (.faddr 1 (T 6)),
 ig 40 38 false (.ld1 (T 39)),
 ig 41 38 false (.call 103 [(T 40), (FN 104)]),
 i_ 42 (.pick (T 38) (KB true) (T 41))])
 (.cond (T 42)
 (.seq
 (.ops [i_ 2 (.mv (KB false))])
 .ret)
 .skip))))
 (.ops [i_ 43 (.ib .add (T 24) (KI 1)),
 i_ 24 (.mv (T 43))]))))))))))
 (.ops [i_ 44 (.ib .add (T 13) (KI 1)),
 i_ 13 (.mv (T 44))])))))))
 (.seq
 (.ops [i_ 45 (.faddr 1 (T 1)),
 i_ 46 (.ld1 (T 45)),
 i_ 47 (.call 106 [(T 46), (FN 107)]),
 i_ 48 (.not (T 47)),
 i_ 2 (.mv (T 48))])
 .ret))))
def m55 : MF := ⟨49, [(.tmp 2)], c55⟩
theorem r55 : resF Try.prog Try.f55 = some m55 := by kernel_rfl
end Go.Proofs.Ytcgbcbdgjhnlaaa

namespace Go.Proofs.Ytcgbcbdgjhnlaaa
def c140 : MC :=
 (.seq
 (.ops [i_ 4 (.mv (KB false))])
 (.seq
 (.ops [i_ 5 (.mv (T 0)),
 i_ 6 (.mv (T 1)),
 i_ 7 (.call 167 [(T 5), (T 6)]),
 i_ 8 (.ib .geq (T 7) (KI 0)),
 i_ 4 (.mv (T 8))])
 .ret))
def m140 : MF := ⟨9, [(.tmp 4)], c140⟩
theorem r140 : resF Try.prog Try.f140 = some m140 := by kernel_rfl
def c167 : MC :=
 (.seq
 (.ops [i_ 4 (.mv (KI 0))])
 (.seq
 (.seq
 (.ops [i_ 6 (.mv (T 0)),
 i_ 7 (.lenV (T 6)),
 i_ 8 (.mv (KI 0))])
 (.block 0
 (.loop [(9, 19), (5, 6), (4, 5), (8, 9)]
 (.seq
 (.ops [i_ 9 (.ib .lss (T 8) (T 7))])
 (.seq
 (.cond (T 9)
 .skip
 (.exit 0))
 (.seq
 (.block 1
 (.seq
 (.ops [i_ 10 (.mv (T 8)),
 i_ 5 (.mv (T 10))])
 (.seq
 (.ops [i_ 11 (.mv (T 1)),
 i_ 12 (.mv (T 0)),
 i_ 13 (.mv (T 5)),
 i_ 14 (.iaddr 3 (T 12) (T 13)),
 i_ 15 (.ldN 3 (T 14)),
 i_ 16 (.callv (T 11) [(T 15)])])
 (.cond (T 16)
 (.seq
 (.ops [i_ 17 (.mv (T 5)),
 i_ 4 (.mv (T 17))])
 .ret)
 .skip))))
 (.ops [i_ 18 (.ib .add (T 8) (KI 1)),
 i_ 8 (.mv (T 18))])))))))
 (.seq
 (.ops [i_ 4 (.mv (KI (-1)))])
 .ret)))
def m167 : MF := ⟨19, [(.tmp 4)], c167⟩
theorem r167 : resF Try.prog Try.f167 = some m167 := by kernel_rfl
def c103 : MC :=
 (.seq
 (.ops [i_ 4 (.mv (KB false))])
 (.seq
 (.ops [i_ 5 (.mv (T 0)),
 i_ 6 (.mv (T 1)),
 i_ 7 (.call 146 [(T 5), (T 6)]),
 i_ 8 (.ib .geq (T 7) (KI 0)),
 i_ 4 (.mv (T 8))])
 .ret))
def m103 : MF := ⟨9, [(.tmp 4)], c103⟩
theorem r103 : resF Try.prog Try.f103 = some m103 := by kernel_rfl
def c106 : MC :=
 (.seq
 (.ops [i_ 4 (.mv (KB false))])
 (.seq
 (.ops [i_ 5 (.mv (T 0)),
 i_ 6 (.mv (T 1)),
 i_ 7 (.call 147 [(T 5), (T 6)]),
 i_ 8 (.ib .geq (T 7) (KI 0)),
 i_ 4 (.mv (T 8))])
 .ret))
def m106 : MF := ⟨9, [(.tmp 4)], c106⟩
theorem r106 : resF Try.prog Try.f106 = some m106 := by kernel_rfl
def c146 : MC :=
 (.seq
 (.ops [i_ 4 (.mv (KI 0))])
 (.seq
 (.seq
 (.ops [i_ 6 (.mv (T 0)),
 i_ 7 (.lenV (T 6)),
 i_ 8 (.mv (KI 0))])
 (.block 0
 (.loop [(9, 19), (5, 6), (4, 5), (8, 9)]
 (.seq
 (.ops [i_ 9 (.ib .lss (T 8) (T 7))])
 (.seq
 (.cond (T 9)
 .skip
 (.exit 0))
 (.seq
 (.block 1
 (.seq
 (.ops [i_ 10 (.mv (T 8)),
 i_ 5 (.mv (T 10))])
 (.seq
 (.ops [i_ 11 (.mv (T 1)),
 i_ 12 (.mv (T 0)),
 i_ 13 (.mv (T 5)),
 i_ 14 (.iaddr 2 (T 12) (T 13)),
 i_ 15 (.ldN 2 (T 14)),
 i_ 16 (.callv (T 11) [(T 15)])])
 (.cond (T 16)
 (.seq
 (.ops [i_ 17 (.mv (T 5)),
 i_ 4 (.mv (T 17))])
 .ret)
 .skip))))
 (.ops [i_ 18 (.ib .add (T 8) (KI 1)),
 i_ 8 (.mv (T 18))])))))))
 (.seq
 (.ops [i_ 4 (.mv (KI (-1)))])
 .ret)))
def m146 : MF := ⟨19, [(.tmp 4)], c146⟩
theorem r146 : resF Try.prog Try.f146 = some m146 := by kernel_rfl
def c147 : MC :=
 (.seq
 (.ops [i_ 4 (.mv (KI 0))])
 (.seq
 (.seq
 (.ops [i_ 6 (.mv (T 0)),
 i_ 7 (.lenV (T 6)),
 i_ 8 (.mv (KI 0))])
 (.block 0
 (.loop [(9, 19), (5, 6), (4, 5), (8, 9)]
 (.seq
 (.ops [i_ 9 (.ib .lss (T 8) (T 7))])
 (.seq
 (.cond (T 9)
 .skip
 (.exit 0))
 (.seq
 (.block 1
 (.seq
 (.ops [i_ 10 (.mv (T 8)),
 i_ 5 (.mv (T 10))])
 (.seq
 (.ops [i_ 11 (.mv (T 1)),
 i_ 12 (.mv (T 0)),
 i_ 13 (.mv (T 5)),
 i_ 14 (.iaddr 4 (T 12) (T 13)),
 i_ 15 (.ldN 4 (T 14)),
 i_ 16 (.callv (T 11) [(T 15)])])
 (.cond (T 16)
 (.seq
 (.ops [i_ 17 (.mv (T 5)),
 i_ 4 (.mv (T 17))])
 .ret)
 .skip))))
 (.ops [i_ 18 (.ib .add (T 8) (KI 1)),
 i_ 8 (.mv (T 18))])))))))
 (.seq
 (.ops [i_ 4 (.mv (KI (-1)))])
 .ret)))
def m147 : MF := ⟨19, [(.tmp 4)], c147⟩
theorem r147 : resF Try.prog Try.f147 = some m147 := by kernel_rfl
end Go.Proofs.Ytcgbcbdgjhnlaaa

namespace Go.Proofs.Ytcgbcbdgjhnlaaa
def c170 : MC :=
 (.seq
 (.ops [i_ 4 (.mv (KI 0)),
 i_ 5 (.mv (KI 0))])
 (.seq
 (.seq
 (.ops [i_ 12 (.mv (T 1)),
 i_ 13 (.ib .lss (T 12) (KI 0))])
 (.cond (T 13)
 (.seq
 (.ops [i_ 4 (.mv (KI (-1))),
 i_ 5 (.mv (KI 0))])
 .ret)
 .skip))
 (.seq
 (.ops [i_ 14 (.mv (T 0)),
 i_ 15 (.mv (T 1)),
 i_ 16 (.iaddr 5 (T 14) (T 15)),
 i_ 17 (.ldN 5 (T 16)),
 i_ 6 (.alloc 93 [(.int .i64 0), (.string ⟨⟨[]⟩⟩), (.string ⟨⟨[]⟩⟩), (.int .i64 0), (.int .i64 0)]),
 n_ (.st 5 (T 6) (T 17))])
 (.seq
 (.seq
 (.ops [i_ 18 (.faddr 0 (T 6)),
 i_ 19 (.ld1 (T 18)),
 i_ 20 (.ib .eql (T 19) (KI 4)),
 i_ 21 (.mv (T 20)),
 ig 22 21 false (.faddr 0 (T 6)),
 ig 23 21 false (.ld1 (T 22)),
 ig 24 21 false (.ib .eql (T 23) (KI 5)),
 i_ 25 (.pick (T 21) (KB true) (T 24)),
 i_ 26 (.mv (T 25)),
 ig 27 26 false (.faddr 0 (T 6)),
 ig 28 26 false (.ld1 (T 27)),
 ig 29 26 false (.ib .eql (T 28) (KI 6)),
 i_ 30 (.pick (T 26) (KB true) (T 29))])
 (.cond (T 30)
 (.seq
 (.ops [i_ 32 (.mv (T 0)),
 i_ 33 (.mv (T 1)),
 i_ 34 (.ib .sub (T 33) (KI 1)),
 i_ 35 (.call 170 [(T 32), (T 34)]),
 i_ 31 (.mv (T 35)),
 i_ 36 (.ext (T 31) 0),
 i_ 37 (.ext (T 31) 1),
 i_ 7 (.mv (T 36)),
 i_ 8 (.mv (T 37))])
 (.seq
 (.seq
 (.ops [i_ 38 (.mv (T 7)),
 i_ 39 (.ib .lss (T 38) (KI 0))])
 (.cond (T 39)
 (.seq
 (.ops [i_ 4 (.mv (KI (-1))),
 i_ 5 (.mv (KI 0))])
 .ret)
 .skip))
 (.seq
 (.ops [i_ 41 (.mv (T 0)),
 i_ 42 (.mv (T 7)),
 i_ 43 (.ib .sub (T 42) (KI 1)),
 i_ 44 (.call 170 [(T 41), (T 43)]),
 i_ 40 (.mv (T 44)),
 i_ 45 (.ext (T 40) 0),
 i_ 46 (.ext (T 40) 1),
 i_ 9 (.mv (T 45)),
 i_ 10 (.mv (T 46))])
 (.seq
 (.seq
 (.ops [i_ 47 (.mv (T 9)),
 i_ 48 (.ib .lss (T 47) (KI 0)),
 i_ 49 (.mv (T 48)),
 ig 50 49 false (.faddr 3 (T 6)),
 ig 51 49 false (.ld1 (T 50)),
 ig 52 49 false (.mv (T 7)),
 ig 53 49 false (.ib .sub (T 52) (KI 1)),
 ig 54 49 false (.ib .neq (T 51) (T 53)),
 i_ 55 (.pick (T 49) (KB true) (T 54)),
 i_ 56 (.mv (T 55)),
 ig 57 56 false (.faddr 4 (T 6)),
 ig 58 56 false (.ld1 (T 57)),
 ig 59 56 false (.mv (T 1)),
 ig 60 56 false (.ib .sub (T 59) (KI 1)),
 ig 61 56 false (.ib .neq (T 58) (T 60)),
 i_ 62 (.pick (T 56) (KB true) (T 61)),
 i_ 63 (.mv (T 62)),
 ig 64 63 false (.faddr 1 (T 6)),
 ig 65 63 false (.ld1 (T 64)),
 ig 66 63 false (.sb .neq (T 65) (KS [])),
 i_ 67 (.pick (T 63) (KB true) (T 66)),
 i_ 68 (.mv (T 67)),
 ig 69 68 false (.faddr 2 (T 6)),
 ig 70 68 false (.ld1 (T 69)),
 ig 71 68 false (.sb .neq (T 70) (KS [])),
 i_ 72 (.pick (T 68) (KB true) (T 71))])
 (.cond (T 72)
 (.seq
 (.ops [i_ 4 (.mv (KI (-1))),
 i_ 5 (.mv (KI 0))])
 .ret)
 .skip))
 (.seq
 (.seq
 (.ops [i_ 73 (.mv (T 10)),
 i_ 74 (.mv (T 8)),
 i_ 75 (.ib .gtr (T 73) (T 74))])
 (.cond (T 75)
 (.seq
 (.ops [i_ 76 (.mv (T 9)),
 i_ 77 (.mv (T 10)),
 i_ 78 (.ib .add (T 77) (KI 1)),
 i_ 4 (.mv (T 76)),
 i_ 5 (.mv (T 78))])
 .ret)
 .skip))
 (.seq
 (.ops [i_ 79 (.mv (T 9)),
 i_ 80 (.mv (T 8)),
 i_ 81 (.ib .add (T 80) (KI 1)),
 i_ 4 (.mv (T 79)),
 i_ 5 (.mv (T 81))])
 .ret))))))
 .skip))
 (.seq
 (.ops [i_ 82 (.faddr 3 (T 6)),
 i_ 83 (.ld1 (T 82)),
 i_ 84 (.ib .eql (T 83) (KI 0)),
 i_ 85 (.mv (T 84)),
 ig 86 85 true (.faddr 4 (T 6)),
 ig 87 85 true (.ld1 (T 86)),
 ig 88 85 true (.ib .eql (T 87) (KI 0)),
 i_ 89 (.pick (T 85) (T 88) (KB false)),
 i_ 11 (.mv (T 89))])
 (.seq
 (.seq
 (.ops [i_ 90 (.faddr 0 (T 6)),
 i_ 91 (.ld1 (T 90)),
 i_ 92 (.ib .eql (T 91) (KI 1))])
 (.cond (T 92)
 (.ops [i_ 93 (.mv (T 11)),
 i_ 94 (.mv (T 93)),
 ig 95 94 true (.faddr 1 (T 6)),
 ig 96 94 true (.ld1 (T 95)),
 ig 97 94 true (.sb .eql (T 96) (KS [])),
 i_ 98 (.pick (T 94) (T 97) (KB false)),
 i_ 99 (.mv (T 98)),
 ig 100 99 true (.faddr 2 (T 6)),
 ig 101 99 true (.ld1 (T 100)),
 ig 102 99 true (.sb .eql (T 101) (KS [])),
 i_ 103 (.pick (T 99) (T 102) (KB false)),
 i_ 11 (.mv (T 103))])
 (.seq
 (.ops [i_ 104 (.faddr 0 (T 6)),
 i_ 105 (.ld1 (T 104)),
 i_ 106 (.ib .eql (T 105) (KI 2))])
 (.cond (T 106)
 (.ops [i_ 107 (.mv (T 11)),
 i_ 108 (.mv (T 107)),
 ig 109 108 true (.faddr 1 (T 6)),
 ig 110 108 true (.ld1 (T 109)),
 ig 111 108 true (.call 38 [(T 110)]),
 i_ 112 (.pick (T 108) (T 111) (KB false)),
 i_ 113 (.mv (T 112)),
 ig 114 113 true (.faddr 2 (T 6)),
 ig 115 113 true (.ld1 (T 114)),
 ig 116 113 true (.sb .eql (T 115) (KS [])),
 i_ 117 (.pick (T 113) (T 116) (KB false)),
 i_ 11 (.mv (T 117))])
 (.seq
 (.ops [i_ 118 (.faddr 0 (T 6)),
 i_ 119 (.ld1 (T 118)),
 i_ 120 (.ib .eql (T 119) (KI 3))])
 (.cond (T 120)
 (.ops [i_ 121 (.mv (T 11)),
 i_ 122 (.mv (T 121)),
 ig 123 122 true (.faddr 1 (T 6)),
 ig 124 122 true (.ld1 (T 123)),
 ig 125 122 true (.call 38 [(T 124)]),
 i_ 126 (.pick (T 122) (T 125) (KB false)),
 i_ 127 (.mv (T 126)),
 ig 128 127 true (.faddr 2 (T 6)),
 ig 129 127 true (.ld1 (T 128)),
 ig 130 127 true (.call 38 [(T 129)]),
 i_ 131 (.pick (T 127) (T 130) (KB false)),
 i_ 11 (.mv (T 131))])
 (.ops [i_ 11 (.mv (KB false))])))))))
 (.seq
 (.seq
 (.ops [i_ 132 (.mv (T 11)),
 i_ 133 (.not (T 132))])
 (.cond (T 133)
 (.seq
 (.ops [i_ 4 (.mv (KI (-1))),
 i_ 5 (.mv (KI 0))])
 .ret)
 .skip))
 (.seq
 (.ops [i_ 134 (.mv (T 1)),
 i_ 4 (.mv (T 134)),
 i_ 5 (.mv (KI 1))])
 .ret))))))))
def m170 : MF := ⟨135, [(.tmp 4), (.tmp 5)], c170⟩
theorem r170 : resF Try.prog Try.f170 = some m170 := by kernel_rfl
def c145 : MC :=
 (.seq
 (.ops [i_ 2 (.mv (KI 0))])
 (.seq
 (.ops [i_ 6 (.mv (T 0)),
 i_ 7 (.mv (T 0)),
 i_ 8 (.lenV (T 7)),
 i_ 9 (.ib .sub (T 8) (KI 1)),
 i_ 10 (.call 170 [(T 6), (T 9)]),
 i_ 5 (.mv (T 10)),
 i_ 11 (.ext (T 5) 0),
 i_ 12 (.ext (T 5) 1),
 i_ 3 (.mv (T 11)),
 i_ 4 (.mv (T 12))])
 (.seq
 (.seq
 (.ops [i_ 13 (.mv (T 3)),
 i_ 14 (.ib .neq (T 13) (KI 0))])
 (.cond (T 14)
 (.seq
 (.ops [i_ 2 (.mv (KI 0))])
 .ret)
 .skip))
 (.seq
 (.ops [i_ 15 (.mv (T 4)),
 i_ 2 (.mv (T 15))])
 .ret))))
def m145 : MF := ⟨16, [(.tmp 2)], c145⟩
theorem r145 : resF Try.prog Try.f145 = some m145 := by kernel_rfl
def c101 : MC :=
 (.seq
 (.ops [i_ 1 (.box 74 (T 0)),
 i_ 2 (.mv (KB false))])
 (.seq
 (.seq
 (.ops [i_ 6 (.faddr 0 (T 1)),
 i_ 7 (.ld1 (T 6)),
 i_ 8 (.lenV (T 7)),
 i_ 9 (.ib .gtr (T 8) (KI 16)),
 i_ 10 (.mv (T 9)),
 ig 11 10 false (.faddr 1 (T 1)),
 ig 12 10 false (.ld1 (T 11)),
 ig 13 10 false (.lenV (T 12)),
 ig 14 10 false (.ib .gtr (T 13) (KI 16)),
 i_ 15 (.pick (T 10) (KB true) (T 14))])
 (.cond (T 15)
 (.seq
 (.ops [i_ 2 (.mv (KB true))])
 .ret)
 .skip))
 (.seq
 (.seq
 (.ops [i_ 3 (.mv (KI 0))])
 (.block 0
 (.loop [(16, 23), (23, 42), (2, 4), (4, 6), (42, 67)]
 (.seq
 (.seq
 (.ops [i_ 16 (.mv (T 3)),
 i_ 17 (.faddr 0 (T 1)),
 i_ 18 (.ld1 (T 17)),
 i_ 19 (.lenV (T 18)),
 i_ 20 (.ib .lss (T 16) (T 19))])
 (.cond (T 20)
 .skip
 (.exit 0)))
 (.seq
 (.block 1
 (.seq
 (.seq
 (.ops [i_ 23 (.faddr 0 (T 1)),
 i_ 24 (.ld1 (T 23)),
 i_ 25 (.mv (T 3)),
 i_ 26 (.iaddr 2 (T 24) (T 25)),
 i_ 27 (.faddr 1 (T 26)),
 i_ 28 (.ld1 (T 27)),
 i_ 29 (.lenV (T 28)),
 i_ 30 (.ib .gtr (T 29) (KI 16))])
 (.cond (T 30)
 (.seq
 (.ops [i_ 2 (.mv (KB true))])
 .ret)
 .skip))
 (.seq
 (.ops [i_ 4 (.mv (KI 0))])
 (.block 2
 (.loop [(31, 42), (42, 67), (5, 6), (2, 3), (4, 5)]
 (.seq
 (.seq
 (.ops [i_ 31 (.mv (T 4)),
 i_ 32 (.faddr 0 (T 1)),
 i_ 33 (.ld1 (T 32)),
 i_ 34 (.mv (T 3)),
 i_ 35 (.iaddr 2 (T 33) (T 34)),
 i_ 36 (.faddr 1 (T 35)),
 i_ 37 (.ld1 (T 36)),
 i_ 38 (.lenV (T 37)),
 i_ 39 (.ib .lss (T 31) (T 38))])
 (.cond (T 39)
 .skip
 (.exit 2)))
 (.seq
 (.block 3
 (.seq
 (.ops [i_ 42 (.faddr 0 (T 1)),
 i_ 43 (.ld1 (T 42)),
 i_ 44 (.mv (T 3)),
 i_ 45 (.iaddr 2 (T 43) (T 44)),
 i_ 46 (.faddr 1 (T 45)),
 i_ 47 (.ld1 (T 46)),
 i_ 48 (.mv (T 4)),
 i_ 49 (.iaddr 3 (T 47) (T 48)),
 i_ 50 (.ldN 3 (T 49)),
 i_ 5 (.alloc 88 [(.string ⟨⟨[]⟩⟩), (.slice none 0 0), (.slice none 0 0)]),
 n_ (.st 3 (T 5) (T 50))])
 (.seq
 (.ops [i_ 51 (.faddr 1 (T 5)),
 i_ 52 (.ld1 (T 51)),
 i_ 53 (.lenV (T 52)),
 i_ 54 (.ib .gtr (T 53) (KI 8)),
 i_ 55 (.mv (T 54)),
 ig 56 55 false (.faddr 2 (T 5)),
 ig 57 55 false (.ld1 (T 56)),
 ig 58 55 false (.lenV (T 57)),
 ig 59 55 false (.ib .gtr (T 58) (KI 64)),
 i_ 60 (.pick (T 55) (KB true) (T 59)),
 i_ 61 (.mv (T 60)),
 ig 62 61 false (.faddr 2 (T 5)),
 ig 63 61 false (.ld1 (T 62)),
 ig 64 61 false (.call 145 [(T 63)]),
 ig 65 61 false (.ib .gtr (T 64) (KI 16)),
 i_ 66 (.pick (T 61) (KB true) (T 65))])
 (.cond (T 66)
 (.seq
 (.ops [i_ 2 (.mv (KB true))])
 .ret)
 .skip))))
 (.ops [i_ 40 (.mv (T 4)),
 i_ 41 (.ib .add (T 40) (KI 1)),
 i_ 4 (.mv (T 41))]))))))))
 (.ops [i_ 21 (.mv (T 3)),
 i_ 22 (.ib .add (T 21) (KI 1)),
 i_ 3 (.mv (T 22))]))))))
 (.seq
 (.ops [i_ 2 (.mv (KB false))])
 .ret))))
def m101 : MF := ⟨67, [(.tmp 2)], c101⟩
theorem r101 : resF Try.prog Try.f101 = some m101 := by kernel_rfl
def c11 : MC :=
 (.seq
 (.ops [i_ 2 (.mv (KB false))])
 (.seq
 (.ops [i_ 7 (.mv (T 0)),
 i_ 8 (.call 21 [(T 7), (KI 900)]),
 i_ 0 (.mv (T 8))])
 (.seq
 (.ops [i_ 10 (.mv (T 0)),
 i_ 11 (.call 52 [(T 10)]),
 i_ 9 (.mv (T 11)),
 i_ 12 (.ext (T 9) 0),
 i_ 13 (.ext (T 9) 1),
 i_ 3 (.alloc 74 [(.slice none 0 0), (.slice none 0 0)]),
 n_ (.st 2 (T 3) (T 12)),
 i_ 4 (.mv (T 13))])
 (.seq
 (.ops [i_ 15 (.mv (T 0)),
 i_ 16 (.call 53 [(T 15)]),
 i_ 14 (.mv (T 16)),
 i_ 17 (.ext (T 14) 0),
 i_ 18 (.ext (T 14) 1),
 i_ 5 (.alloc 74 [(.slice none 0 0), (.slice none 0 0)]),
 n_ (.st 2 (T 5) (T 17)),
 i_ 6 (.mv (T 18))])
 (.seq
 (.ops [i_ 19 (.ldN 2 (T 3)),
 i_ 20 (.ldN 2 (T 5)),
 i_ 21 (.call 54 [(T 19), (T 20)]),
 i_ 22 (.mv (T 21)),
 ig 23 22 true (.mv (T 4)),
 ig 24 22 true (.mv (T 6)),
 ig 25 22 true (.ib .eql (T 23) (T 24)),
 i_ 26 (.pick (T 22) (T 25) (KB false)),
 i_ 27 (.mv (T 26)),
 ig 28 27 true (.mv (T 4)),
 ig 29 27 true (.ib .neq (T 28) (KI 0)),
 ig 30 27 true (.mv (T 29)),
 ig 31 30 false (.ldN 2 (T 3)),
 ig 32 30 false (.call 55 [(T 31)]),
 ig 33 27 true (.pick (T 30) (KB true) (T 32)),
 i_ 34 (.pick (T 27) (T 33) (KB false)),
 i_ 35 (.mv (T 34)),
 ig 36 35 true (.call 56 []),
 i_ 37 (.pick (T 35) (T 36) (KB false)),
 i_ 2 (.mv (T 37))])
 .ret)))))
end Go.Proofs.Ytcgbcbdgjhnlaaa

