/- Functions of the program, resolved: made by a program of ours; each is checked by the kernel. -/
import Derived.Test.YtcgbcbdgjhnlaaaGreatXPB
namespace Go.Proofs.YtcgbcbdgjhnlaaaGreat
def c3 : MC :=
 (.seq
 (.ops [i_ 6 (.mv (KB false))])
 (.seq
 (.ops [i_ 16 (.mv (T 0)),
 i_ 17 (.call 5 [(T 16), (KI 18)]),
 i_ 0 (.mv (T 17))])
 (.seq
 (.ops [i_ 7 (.mv (.const (.slice none 0 0)))])
 (.seq
 (.ops [i_ 18 (.build [(.slice none 0 0), (.int .i64 0)] []),
 i_ 19 (.box 29 (T 18)),
 i_ 8 (.mv (T 19))])
 (.seq
 (.ops [i_ 20 (.mv (T 1)),
 i_ 21 (.ib .geq (T 20) (KI 0)),
 i_ 9 (.mv (T 21))])
 (.seq
 (.seq
 (.ops [i_ 10 (.mv (KI 0))])
 (.block 0
 (.loop [(22, 28), (28, 55), (7, 8), (9, 11)]
 (.seq
 (.seq
 (.ops [i_ 22 (.mv (T 10)),
 i_ 23 (.mv (T 0)),
 i_ 24 (.lenV (T 23)),
 i_ 25 (.ib .lss (T 22) (T 24))])
 (.cond (T 25)
 .skip
 (.exit 0)))
 (.seq
 (.block 1
 (.seq
 (.dops <|
 .op 0 (i_ 28 (.mv (T 7))) <|
 .op 1 (i_ 29 (.mv (T 0))) <|
 .op 2 (i_ 30 (.mv (T 10))) <|
 .op 3 (i_ 31 (.iaddr 4 (T 29) (T 30))) <|
 .op 4 (i_ 32 (.faddr 1 (T 31))) <|
 .op 5 (i_ 33 (.ld1 (T 32))) <|
 .op 6 (i_ 34 (.mv (T 0))) <|
 .op 7 (i_ 35 (.mv (T 10))) <|
 .op 8 (i_ 36 (.iaddr 4 (T 34) (T 35))) <|
 .op 9 (i_ 37 (.faddr 2 (T 36))) <|
 .op 10 (i_ 38 (.ldN 2 (T 37))) <|
 .op 11 (i_ 39 (.build [(.int .u64 0), (.slice none 0 0), (.slice none 0 0)] [(0, (1, (T 33))), (1, (2, (T 38)))])) <|
 .op 12 (id_ 40 (.bslice 37 [(.int .u64 0), (.slice none 0 0), (.slice none 0 0)] 1 3 [(0, (3, (T 39)))]) [5, 10]) <|
 .op 13 (id_ 41 (.append 37 3 56 (T 28) (T 40)) [10, 5]) <|
 .op 14 (i_ 7 (.mv (T 41))) <|
 .nil)
 (.seq
 (.dops <|
 .op 0 (i_ 42 (.mv (T 8))) <|
 .op 1 (i_ 43 (.mv (T 0))) <|
 .op 2 (i_ 44 (.mv (T 10))) <|
 .op 3 (i_ 45 (.iaddr 4 (T 43) (T 44))) <|
 .op 4 (i_ 46 (.faddr 1 (T 45))) <|
 .op 5 (i_ 47 (.ld1 (T 46))) <|
 .op 6 (i_ 48 (.mv (T 0))) <|
 .op 7 (i_ 49 (.mv (T 10))) <|
 .op 8 (i_ 50 (.iaddr 4 (T 48) (T 49))) <|
 .op 9 (i_ 51 (.faddr 2 (T 50))) <|
 .op 10 (i_ 52 (.ldN 2 (T 51))) <|
 .op 11 (id_ 53 (.call 6 [(T 42), (T 47), (T 52)]) [10, 5]) <|
 .op 12 (i_ 54 (.ib .neq (T 53) (KI 0))) <|
 .nil)
 (.cond (T 54)
 (.ops [i_ 9 (.mv (KB false))])
 .skip))))
 (.ops [i_ 26 (.mv (T 10)),
 i_ 27 (.ib .add (T 26) (KI 1)),
 i_ 10 (.mv (T 27))]))))))
 (.seq
 (.ops [i_ 56 (.mv (T 7)),
 i_ 57 (.mv (T 1)),
 i_ 58 (.call 7 [(T 56), (T 57)]),
 i_ 55 (.mv (T 58)),
 i_ 59 (.ext (T 55) 0),
 i_ 60 (.ext (T 55) 1),
 i_ 11 (.mv (T 59)),
 i_ 12 (.mv (T 60))])
 (.seq
 (.seq
 (.ops [i_ 61 (.mv (T 9)),
 i_ 62 (.not (T 61))])
 (.cond (T 62)
 (.seq
 (.ops [i_ 63 (.mv (T 11)),
 i_ 64 (.pnil false (T 63)),
 i_ 65 (.mv (T 64)),
 ig 66 65 true (.mv (T 12)),
 ig 67 65 true (.ib .eql (T 66) (KI 4)),
 i_ 68 (.pick (T 65) (T 67) (KB false)),
 i_ 69 (.mv (T 68)),
 ig 70 69 true (.call 8 []),
 i_ 71 (.pick (T 69) (T 70) (KB false)),
 i_ 6 (.mv (T 71))])
 .ret)
 .skip))
 (.seq
 (.seq
 (.ops [i_ 72 (.mv (T 12)),
 i_ 73 (.ib .neq (T 72) (KI 0)),
 i_ 74 (.mv (T 73)),
 ig 75 74 false (.mv (T 11)),
 ig 76 74 false (.call 9 [(T 75)]),
 ig 77 74 false (.mv (T 1)),
 ig 78 74 false (.ib .neq (T 76) (T 77)),
 i_ 79 (.pick (T 74) (KB true) (T 78)),
 i_ 80 (.mv (T 79)),
 ig 81 80 false (.mv (T 11)),
 ig 82 80 false (.call 10 [(T 81)]),
 ig 83 80 false (.lenV (T 82)),
 ig 84 80 false (.mv (T 0)),
 ig 85 80 false (.lenV (T 84)),
 ig 86 80 false (.ib .neq (T 83) (T 85)),
 i_ 87 (.pick (T 80) (KB true) (T 86))])
 (.cond (T 87)
 (.seq
 (.ops [i_ 6 (.mv (KB false))])
 .ret)
 .skip))
 (.seq
 (.ops [i_ 89 (.mv (T 11)),
 i_ 90 (.mv (T 2)),
 i_ 91 (.call 11 [(T 89), (T 90)]),
 i_ 88 (.mv (T 91)),
 i_ 92 (.ext (T 88) 0),
 i_ 93 (.ext (T 88) 1),
 i_ 13 (.alloc 33 [(.slice none 0 0), (.slice none 0 0)]),
 n_ (.st 2 (T 13) (T 92)),
 i_ 14 (.mv (T 93))])
 (.seq
 (.ops [i_ 94 (.mv (T 8)),
 i_ 95 (.mv (T 2)),
 i_ 96 (.call 12 [(T 94), (T 95)]),
 i_ 15 (.mv (T 96))])
 (.seq
 (.seq
 (.ops [i_ 97 (.mv (T 15)),
 i_ 98 (.ib .eql (T 97) (KI 0))])
 (.cond (T 98)
 (.seq
 (.ops [i_ 99 (.mv (T 14)),
 i_ 100 (.ib .eql (T 99) (KI 0)),
 i_ 101 (.mv (T 100)),
 ig 102 101 true (.ldN 2 (T 13)),
 ig 103 101 true (.build [(.slice none 0 0), (.slice none 0 0)] []),
 ig 104 101 true (.call 13 [(T 102), (T 103)]),
 i_ 105 (.pick (T 101) (T 104) (KB false)),
 i_ 106 (.mv (T 105)),
 ig 107 106 true (.call 8 []),
 i_ 108 (.pick (T 106) (T 107) (KB false)),
 i_ 6 (.mv (T 108))])
 .ret)
 .skip))
 (.seq
 (.dops <|
 .op 0 (i_ 109 (.mv (T 14))) <|
 .op 1 (i_ 110 (.mv (T 1))) <|
 .op 2 (i_ 111 (.ib .sub (T 109) (T 110))) <|
 .op 3 (i_ 112 (.mv (T 15))) <|
 .op 4 (i_ 113 (.ib .eql (T 111) (T 112))) <|
 .op 5 (i_ 114 (.mv (T 113))) <|
 .op 6 (ig 115 114 true (.ldN 2 (T 13))) <|
 .op 7 (ig 116 114 true (.mv (T 8))) <|
 .op 8 (ig 117 114 true (.nilck (T 116))) <|
 .op 9 (ig 118 114 true (.faddr 0 (T 117))) <|
 .op 10 (ig 119 114 true (.ld1 (T 118))) <|
 .op 11 (ig 120 114 true (.mv (T 15))) <|
 .op 12 (ig 121 114 true (.ib .sub (T 120) (KI 1))) <|
 .op 13 (ig 122 114 true (.iaddr 3 (T 119) (T 121))) <|
 .op 14 (ig 123 114 true (.faddr 1 (T 122))) <|
 .op 15 (ig 124 114 true (.ldN 2 (T 123))) <|
 .op 16 (igd 125 114 true (.call 13 [(T 115), (T 124)]) [10, 15, 6]) <|
 .op 17 (i_ 126 (.pick (T 114) (T 125) (KB false))) <|
 .op 18 (i_ 127 (.mv (T 126))) <|
 .op 19 (igd 128 127 true (.call 8 []) [6, 15, 10]) <|
 .op 20 (i_ 129 (.pick (T 127) (T 128) (KB false))) <|
 .op 21 (i_ 6 (.mv (T 129))) <|
 .nil)
 .ret)))))))))))))
def m3 : MF := ⟨130, [(.tmp 6)], c3⟩
theorem r3 : resF Tryz.prog Tryz.f3 = some m3 := by kernel_rfl
theorem k3 : Callable Tryz.prog 3 := ⟨_, Tryz.func3, by kernel_rfl, by kernel_rfl⟩

def c4 : MC :=
 (.seq
 (.ops [i_ 2 (.mv (KB false))])
 (.seq
 (.ops [i_ 6 (.mv (T 0)),
 i_ 7 (.call 5 [(T 6), (KI 22)]),
 i_ 0 (.mv (T 7))])
 (.seq
 (.ops [i_ 8 (.call 14 []),
 i_ 9 (.build [(.slice none 0 0), (.int .i64 0)] []),
 i_ 10 (.box 29 (T 9)),
 i_ 3 (.mv (T 8)),
 i_ 4 (.mv (T 10))])
 (.seq
 (.seq
 (.ops [i_ 11 (.mv (T 3)),
 i_ 12 (.pnil false (T 11))])
 (.cond (T 12)
 (.seq
 (.ops [i_ 2 (.mv (KB false))])
 .ret)
 .skip))
 (.seq
 (.seq
 (.ops [i_ 5 (.mv (KI 0))])
 (.block 0
 (.loop [(13, 19), (19, 25), (25, 38), (38, 52), (2, 3), (52, 81), (5, 6)]
 (.seq
 (.seq
 (.ops [i_ 13 (.mv (T 5)),
 i_ 14 (.mv (T 0)),
 i_ 15 (.lenV (T 14)),
 i_ 16 (.ib .lss (T 13) (T 15))])
 (.cond (T 16)
 .skip
 (.exit 0)))
 (.seq
 (.block 1
 (.seq
 (.seq
 (.ops [i_ 19 (.mv (T 0)),
 i_ 20 (.mv (T 5)),
 i_ 21 (.iaddr 4 (T 19) (T 20)),
 i_ 22 (.faddr 0 (T 21)),
 i_ 23 (.ld1 (T 22))])
 (.block 2
 (.seq
 (.ops [i_ 25 (.ib .eql (T 23) (KI 0)),
 i_ 24 (.mv (T 25))])
 (.cond (T 24)
 (.seq
 (.dops <| .z <|
 .op 0 (i_ 26 (.mv (T 3))) <|
 .op 1 (i_ 27 (.mv (T 0))) <|
 .op 2 (i_ 28 (.mv (T 5))) <|
 .op 3 (i_ 29 (.iaddr 4 (T 27) (T 28))) <|
 .op 4 (i_ 30 (.faddr 1 (T 29))) <|
 .op 5 (i_ 31 (.ld1 (T 30))) <|
 .op 6 (i_ 32 (.mv (T 0))) <|
 .op 7 (i_ 33 (.mv (T 5))) <|
 .op 8 (i_ 34 (.iaddr 4 (T 32) (T 33))) <|
 .op 9 (i_ 35 (.faddr 2 (T 34))) <|
 .op 10 (i_ 36 (.ldN 2 (T 35))) <|
 .op 12 (i_ 38 (.mv (T 4))) <|
 .op 13 (i_ 39 (.mv (T 0))) <|
 .op 14 (i_ 40 (.mv (T 5))) <|
 .op 15 (i_ 41 (.iaddr 4 (T 39) (T 40))) <|
 .op 16 (i_ 42 (.faddr 1 (T 41))) <|
 .op 17 (i_ 43 (.ld1 (T 42))) <|
 .op 18 (i_ 44 (.mv (T 0))) <|
 .op 19 (i_ 45 (.mv (T 5))) <|
 .op 20 (i_ 46 (.iaddr 4 (T 44) (T 45))) <|
 .op 21 (i_ 47 (.faddr 2 (T 46))) <|
 .op 22 (i_ 48 (.ldN 2 (T 47))) <|
 .op 11 (id_ 37 (.call 15 [(T 26), (T 31), (T 36)]) [10, 5]) <|
 .op 23 (id_ 49 (.call 6 [(T 38), (T 43), (T 48)]) [5, 10, 22, 17]) <|
 .op 24 (i_ 50 (.ib .neq (T 37) (T 49))) <|
 .nil)
 (.cond (T 50)
 (.seq
 (.ops [i_ 2 (.mv (KB false))])
 .ret)
 .skip))
 (.seq
 (.ops [i_ 52 (.ib .eql (T 23) (KI 1)),
 i_ 51 (.mv (T 52))])
 (.cond (T 51)
 (.seq
 (.ops [i_ 53 (.mv (T 3)),
 i_ 54 (.mv (T 0)),
 i_ 55 (.mv (T 5)),
 i_ 56 (.iaddr 4 (T 54) (T 55)),
 i_ 57 (.faddr 1 (T 56)),
 i_ 58 (.ld1 (T 57)),
 i_ 59 (.call 16 [(T 53), (T 58)])])
 (.ops [i_ 60 (.mv (T 4)),
 i_ 61 (.mv (T 0)),
 i_ 62 (.mv (T 5)),
 i_ 63 (.iaddr 4 (T 61) (T 62)),
 i_ 64 (.faddr 1 (T 63)),
 i_ 65 (.ld1 (T 64)),
 i_ 66 (.call 17 [(T 60), (T 65)])]))
 .skip))))))
 (.seq
 (.ops [i_ 67 (.mv (T 3)),
 i_ 68 (.call 18 [(T 67)]),
 i_ 69 (.not (T 68)),
 i_ 70 (.mv (T 69)),
 ig 71 70 false (.mv (T 3)),
 ig 72 70 false (.mv (T 4)),
 ig 73 70 false (.mv (T 0)),
 ig 74 70 false (.mv (T 5)),
 ig 75 70 false (.iaddr 4 (T 73) (T 74)),
 ig 76 70 false (.faddr 1 (T 75)),
 ig 77 70 false (.ld1 (T 76)),
 ig 78 70 false (.call 19 [(T 71), (T 72), (T 77)]),
 ig 79 70 false (.not (T 78)),
 i_ 80 (.pick (T 70) (KB true) (T 79))])
 (.cond (T 80)
 (.seq
 (.ops [i_ 2 (.mv (KB false))])
 .ret)
 .skip))))
 (.ops [i_ 17 (.mv (T 5)),
 i_ 18 (.ib .add (T 17) (KI 1)),
 i_ 5 (.mv (T 18))]))))))
 (.seq
 (.ops [i_ 81 (.call 8 []),
 i_ 2 (.mv (T 81))])
 .ret))))))
def m4 : MF := ⟨82, [(.tmp 2)], c4⟩
theorem r4 : resF Tryz.prog Tryz.f4 = some m4 := by kernel_rfl
theorem k4 : Callable Tryz.prog 4 := ⟨_, Tryz.func4, by kernel_rfl, by kernel_rfl⟩

def c6 : MC :=
 (.seq
 (.ops [i_ 5 (.box 33 (T 2)),
 i_ 6 (.mv (KI 0))])
 (.seq
 (.seq
 (.dops <|
 .op 0 (i_ 10 (.mv (T 0))) <|
 .op 1 (i_ 11 (.nilck (T 10))) <|
 .op 2 (i_ 12 (.faddr 0 (T 11))) <|
 .op 3 (i_ 13 (.ld1 (T 12))) <|
 .op 4 (i_ 14 (.lenV (T 13))) <|
 .op 5 (i_ 15 (.mv (T 0))) <|
 .op 6 (i_ 16 (.nilck (T 15))) <|
 .op 7 (i_ 17 (.faddr 1 (T 16))) <|
 .op 8 (i_ 18 (.ld1 (T 17))) <|
 .op 9 (i_ 19 (.ib .gtr (T 14) (T 18))) <|
 .op 10 (i_ 20 (.mv (T 19))) <|
 .op 11 (ig 21 20 true (.mv (T 1))) <|
 .op 12 (ig 22 20 true (.mv (T 0))) <|
 .op 13 (ig 23 20 true (.nilck (T 22))) <|
 .op 14 (ig 24 20 true (.faddr 0 (T 23))) <|
 .op 15 (ig 25 20 true (.ld1 (T 24))) <|
 .op 16 (ig 26 20 true (.mv (T 0))) <|
 .op 17 (ig 27 20 true (.nilck (T 26))) <|
 .op 18 (ig 28 20 true (.faddr 0 (T 27))) <|
 .op 19 (ig 29 20 true (.ld1 (T 28))) <|
 .op 20 (ig 30 20 true (.lenV (T 29))) <|
 .op 21 (ig 31 20 true (.ib .sub (T 30) (KI 1))) <|
 .op 22 (ig 32 20 true (.iaddr 3 (T 25) (T 31))) <|
 .op 23 (ig 33 20 true (.faddr 0 (T 32))) <|
 .op 24 (ig 34 20 true (.ld1 (T 33))) <|
 .op 25 (ig 35 20 true (.ib .leq (T 21) (T 34))) <|
 .op 26 (i_ 36 (.pick (T 20) (T 35) (KB false))) <|
 .nil)
 (.cond (T 36)
 (.seq
 (.ops [i_ 6 (.mv (KI 12))])
 .ret)
 .skip))
 (.seq
 (.ops [i_ 38 (.ldN 2 (T 5)),
 i_ 39 (.call 21 [(T 38)]),
 i_ 37 (.mv (T 39)),
 i_ 40 (.ext (T 37) 0),
 i_ 41 (.ext (T 37) 1),
 i_ 7 (.mv (T 40)),
 i_ 8 (.mv (T 41))])
 (.seq
 (.seq
 (.ops [i_ 42 (.mv (T 8)),
 i_ 43 (.ib .neq (T 42) (KI 0))])
 (.cond (T 43)
 (.seq
 (.ops [i_ 44 (.mv (T 8)),
 i_ 6 (.mv (T 44))])
 .ret)
 .skip))
 (.seq
 (.seq
 (.dops <|
 .op 0 (i_ 45 (.mv (T 0))) <|
 .op 1 (i_ 46 (.nilck (T 45))) <|
 .op 2 (i_ 47 (.faddr 0 (T 46))) <|
 .op 3 (i_ 48 (.ld1 (T 47))) <|
 .op 4 (i_ 49 (.lenV (T 48))) <|
 .op 5 (i_ 50 (.mv (T 0))) <|
 .op 6 (i_ 51 (.nilck (T 50))) <|
 .op 7 (i_ 52 (.faddr 1 (T 51))) <|
 .op 8 (i_ 53 (.ld1 (T 52))) <|
 .op 9 (i_ 54 (.ib .sub (T 49) (T 53))) <|
 .op 10 (i_ 55 (.ib .geq (T 54) (KI 16))) <|
 .nil)
 (.cond (T 55)
 (.seq
 (.ops [i_ 6 (.mv (KI 8))])
 .ret)
 .skip))
 (.seq
 (.ops [i_ 56 (.mv (T 0)),
 i_ 57 (.nilck (T 56)),
 i_ 58 (.faddr 0 (T 57)),
 i_ 59 (.ld1 (T 58)),
 i_ 9 (.mv (T 59))])
 (.seq
 (.ops [i_ 60 (.mv (T 0)),
 i_ 61 (.mv (T 9)),
 i_ 62 (.mv (T 1)),
 i_ 63 (.ldN 2 (T 5)),
 i_ 64 (.build [(.int .u64 0), (.slice none 0 0), (.slice none 0 0)] [(0, (1, (T 62))), (1, (2, (T 63)))]),
 i_ 65 (.bslice 50 [(.int .u64 0), (.slice none 0 0), (.slice none 0 0)] 1 3 [(0, (3, (T 64)))]),
 i_ 66 (.append 50 3 56 (T 61) (T 65)),
 i_ 67 (.nilck (T 60)),
 i_ 68 (.faddr 0 (T 67)),
 n_ (.st 1 (T 68) (T 66))])
 (.seq
 (.ops [i_ 6 (.mv (KI 0))])
 .ret))))))))
def m6 : MF := ⟨69, [(.tmp 6)], c6⟩
theorem r6 : resF Tryz.prog Tryz.f6 = some m6 := by kernel_rfl
theorem k6 : Callable Tryz.prog 6 := ⟨_, Tryz.func6, by kernel_rfl, by kernel_rfl⟩

def c7 : MC :=
 (.seq
 (.ops [i_ 4 (.mv (.const (.pointer none))),
 i_ 5 (.mv (KI 0))])
 (.seq
 (.ops [i_ 9 (.call 14 []),
 i_ 6 (.mv (T 9))])
 (.seq
 (.seq
 (.ops [i_ 10 (.mv (T 1)),
 i_ 11 (.ib .lss (T 10) (KI 0))])
 (.cond (T 11)
 (.seq
 (.ops [i_ 4 (.mv (.const (.pointer none))),
 i_ 5 (.mv (KI 4))])
 .ret)
 .skip))
 (.seq
 (.seq
 (.ops [i_ 12 (.mv (T 0)),
 i_ 13 (.lenV (T 12)),
 i_ 14 (.mv (KI 0))])
 (.block 0
 (.loop [(15, 26), (8, 9), (4, 6), (14, 15)]
 (.seq
 (.ops [i_ 15 (.ib .lss (T 14) (T 13))])
 (.seq
 (.cond (T 15)
 .skip
 (.exit 0))
 (.seq
 (.block 1
 (.seq
 (.ops [i_ 16 (.iaddr 3 (T 12) (T 14)),
 i_ 17 (.ldN 3 (T 16)),
 i_ 8 (.alloc 37 [(.int .u64 0), (.slice none 0 0), (.slice none 0 0)]),
 n_ (.st 3 (T 8) (T 17))])
 (.seq
 (.ops [i_ 18 (.mv (T 6)),
 i_ 19 (.faddr 0 (T 8)),
 i_ 20 (.ld1 (T 19)),
 i_ 21 (.faddr 1 (T 8)),
 i_ 22 (.ldN 2 (T 21)),
 i_ 23 (.call 15 [(T 18), (T 20), (T 22)]),
 i_ 24 (.ib .neq (T 23) (KI 0))])
 (.cond (T 24)
 (.seq
 (.ops [i_ 4 (.mv (.const (.pointer none))),
 i_ 5 (.mv (KI 4))])
 .ret)
 .skip))))
 (.ops [i_ 25 (.ib .add (T 14) (KI 1)),
 i_ 14 (.mv (T 25))])))))))
 (.seq
 (.ops [i_ 26 (.mv (T 6)),
 i_ 27 (.mv (T 1)),
 i_ 28 (.nilck (T 26)),
 i_ 29 (.faddr 2 (T 28)),
 n_ (.st 1 (T 29) (T 27))])
 (.seq
 (.ops [i_ 30 (.mv (T 6)),
 i_ 4 (.mv (T 30)),
 i_ 5 (.mv (KI 0))])
 .ret))))))
def c12 : MC :=
 (.seq
 (.ops [i_ 4 (.mv (KI 0))])
 (.seq
 (.ops [i_ 5 (.mv (KI 0))])
 (.seq
 (.seq
 (.ops [i_ 7 (.mv (T 0)),
 i_ 8 (.nilck (T 7)),
 i_ 9 (.faddr 1 (T 8)),
 i_ 10 (.ld1 (T 9)),
 i_ 6 (.mv (T 10))])
 (.block 0
 (.loop [(11, 20), (20, 32), (5, 7)]
 (.seq
 (.seq
 (.ops [i_ 11 (.mv (T 6)),
 i_ 12 (.mv (T 0)),
 i_ 13 (.nilck (T 12)),
 i_ 14 (.faddr 0 (T 13)),
 i_ 15 (.ld1 (T 14)),
 i_ 16 (.lenV (T 15)),
 i_ 17 (.ib .lss (T 11) (T 16))])
 (.cond (T 17)
 .skip
 (.exit 0)))
 (.seq
 (.block 1
 (.seq
 (.ops [i_ 20 (.mv (T 0)),
 i_ 21 (.nilck (T 20)),
 i_ 22 (.faddr 0 (T 21)),
 i_ 23 (.ld1 (T 22)),
 i_ 24 (.mv (T 6)),
 i_ 25 (.iaddr 3 (T 23) (T 24)),
 i_ 26 (.faddr 0 (T 25)),
 i_ 27 (.ld1 (T 26)),
 i_ 28 (.mv (T 1)),
 i_ 29 (.ib .leq (T 27) (T 28))])
 (.cond (T 29)
 (.ops [i_ 30 (.mv (T 6)),
 i_ 31 (.ib .add (T 30) (KI 1)),
 i_ 5 (.mv (T 31))])
 .skip)))
 (.ops [i_ 18 (.mv (T 6)),
 i_ 19 (.ib .add (T 18) (KI 1)),
 i_ 6 (.mv (T 19))]))))))
 (.seq
 (.ops [i_ 32 (.mv (T 5)),
 i_ 4 (.mv (T 32))])
 .ret))))
def m12 : MF := ⟨33, [(.tmp 4)], c12⟩
theorem r12 : resF Tryz.prog Tryz.f12 = some m12 := by kernel_rfl
theorem k12 : Callable Tryz.prog 12 := ⟨_, Tryz.func12, by kernel_rfl, by kernel_rfl⟩

def c17 : MC :=
 (.block 0
 (.loop [(4, 39)]
 (.seq
 (.seq
 (.dops <|
 .op 0 (i_ 4 (.mv (T 0))) <|
 .op 1 (i_ 5 (.nilck (T 4))) <|
 .op 2 (i_ 6 (.faddr 1 (T 5))) <|
 .op 3 (i_ 7 (.ld1 (T 6))) <|
 .op 4 (i_ 8 (.ib .add (T 7) (KI 1))) <|
 .op 5 (i_ 9 (.mv (T 0))) <|
 .op 6 (i_ 10 (.nilck (T 9))) <|
 .op 7 (i_ 11 (.faddr 0 (T 10))) <|
 .op 8 (i_ 12 (.ld1 (T 11))) <|
 .op 9 (i_ 13 (.lenV (T 12))) <|
 .op 10 (i_ 14 (.ib .lss (T 8) (T 13))) <|
 .op 11 (i_ 15 (.mv (T 14))) <|
 .op 12 (ig 16 15 true (.mv (T 0))) <|
 .op 13 (ig 17 15 true (.nilck (T 16))) <|
 .op 14 (ig 18 15 true (.faddr 0 (T 17))) <|
 .op 15 (ig 19 15 true (.ld1 (T 18))) <|
 .op 16 (ig 20 15 true (.mv (T 0))) <|
 .op 17 (ig 21 15 true (.nilck (T 20))) <|
 .op 18 (ig 22 15 true (.faddr 1 (T 21))) <|
 .op 19 (ig 23 15 true (.ld1 (T 22))) <|
 .op 20 (ig 24 15 true (.ib .add (T 23) (KI 1))) <|
 .op 21 (ig 25 15 true (.iaddr 3 (T 19) (T 24))) <|
 .op 22 (ig 26 15 true (.faddr 0 (T 25))) <|
 .op 23 (ig 27 15 true (.ld1 (T 26))) <|
 .op 24 (ig 28 15 true (.mv (T 1))) <|
 .op 25 (ig 29 15 true (.ib .leq (T 27) (T 28))) <|
 .op 26 (i_ 30 (.pick (T 15) (T 29) (KB false))) <|
 .nil)
 (.cond (T 30)
 .skip
 (.exit 0)))
 (.block 1
 (.ops [i_ 31 (.mv (T 0)),
 i_ 32 (.mv (T 0)),
 i_ 33 (.nilck (T 32)),
 i_ 34 (.faddr 1 (T 33)),
 i_ 35 (.ld1 (T 34)),
 i_ 36 (.ib .add (T 35) (KI 1)),
 i_ 37 (.nilck (T 31)),
 i_ 38 (.faddr 1 (T 37)),
 n_ (.st 1 (T 38) (T 36))])))))
def m17 : MF := ⟨39, [], c17⟩
theorem r17 : resF Tryz.prog Tryz.f17 = some m17 := by kernel_rfl
theorem k17 : Callable Tryz.prog 17 := ⟨_, Tryz.func17, by kernel_rfl, by kernel_rfl⟩

def c19 : MC :=
 (.seq
 (.ops [i_ 6 (.mv (KB false))])
 (.seq
 (.ops [i_ 16 (.mv (T 0)),
 i_ 17 (.mv (T 2)),
 i_ 18 (.call 11 [(T 16), (T 17)]),
 i_ 15 (.mv (T 18)),
 i_ 19 (.ext (T 15) 0),
 i_ 20 (.ext (T 15) 1),
 i_ 7 (.alloc 33 [(.slice none 0 0), (.slice none 0 0)]),
 n_ (.st 2 (T 7) (T 19)),
 i_ 8 (.mv (T 20))])
 (.seq
 (.ops [i_ 21 (.mv (T 1)),
 i_ 22 (.mv (T 2)),
 i_ 23 (.call 12 [(T 21), (T 22)]),
 i_ 9 (.mv (T 23))])
 (.seq
 (.ops [i_ 24 (.build [(.slice none 0 0), (.slice none 0 0)] []),
 i_ 10 (.alloc 33 [(.slice none 0 0), (.slice none 0 0)]),
 n_ (.st 2 (T 10) (T 24))])
 (.seq
 (.seq
 (.ops [i_ 25 (.mv (T 9)),
 i_ 26 (.ib .gtr (T 25) (KI 0))])
 (.cond (T 26)
 (.ops [i_ 27 (.mv (T 1)),
 i_ 28 (.nilck (T 27)),
 i_ 29 (.faddr 0 (T 28)),
 i_ 30 (.ld1 (T 29)),
 i_ 31 (.mv (T 9)),
 i_ 32 (.ib .sub (T 31) (KI 1)),
 i_ 33 (.iaddr 3 (T 30) (T 32)),
 i_ 34 (.faddr 1 (T 33)),
 i_ 35 (.ldN 2 (T 34)),
 n_ (.st 2 (T 10) (T 35))])
 .skip))
 (.seq
 (.seq
 (.dops <|
 .op 0 (i_ 36 (.mv (T 8))) <|
 .op 1 (i_ 37 (.mv (T 9))) <|
 .op 2 (i_ 38 (.ib .neq (T 36) (T 37))) <|
 .op 3 (i_ 39 (.mv (T 38))) <|
 .op 4 (ig 40 39 false (.ldN 2 (T 7))) <|
 .op 5 (ig 41 39 false (.ldN 2 (T 10))) <|
 .op 6 (igd 42 39 false (.call 13 [(T 40), (T 41)]) [5, 4]) <|
 .op 7 (ig 43 39 false (.not (T 42))) <|
 .op 8 (i_ 44 (.pick (T 39) (KB true) (T 43))) <|
 .op 9 (i_ 45 (.mv (T 44))) <|
 .op 10 (ig 46 45 false (.mv (T 0))) <|
 .op 12 (ig 48 45 false (.mv (T 1))) <|
 .op 13 (ig 49 45 false (.nilck (T 48))) <|
 .op 14 (ig 50 45 false (.faddr 1 (T 49))) <|
 .op 15 (ig 51 45 false (.ld1 (T 50))) <|
 .op 11 (igd 47 45 false (.call 9 [(T 46)]) [4, 5]) <|
 .op 16 (ig 52 45 false (.ib .neq (T 47) (T 51))) <|
 .op 17 (i_ 53 (.pick (T 45) (KB true) (T 52))) <|
 .nil)
 (.cond (T 53)
 (.seq
 (.ops [i_ 6 (.mv (KB false))])
 .ret)
 .skip))
 (.seq
 (.ops [i_ 55 (.ldN 2 (T 10)),
 i_ 56 (.call 21 [(T 55)]),
 i_ 54 (.mv (T 56)),
 i_ 57 (.ext (T 54) 0),
 i_ 58 (.ext (T 54) 1),
 i_ 11 (.mv (T 57)),
 i_ 12 (.mv (T 58))])
 (.seq
 (.seq
 (.ops [i_ 59 (.mv (T 9)),
 i_ 60 (.ib .eql (T 59) (KI 0))])
 (.cond (T 60)
 (.ops [i_ 11 (.mv (.const (.slice none 0 0)))])
 .skip))
 (.seq
 (.ops [i_ 61 (.mv (T 0)),
 i_ 62 (.call 10 [(T 61)]),
 i_ 13 (.mv (T 62))])
 (.seq
 (.seq
 (.dops <|
 .op 0 (i_ 63 (.mv (T 13))) <|
 .op 1 (i_ 64 (.lenV (T 63))) <|
 .op 2 (i_ 65 (.mv (T 1))) <|
 .op 3 (i_ 66 (.nilck (T 65))) <|
 .op 4 (i_ 67 (.faddr 0 (T 66))) <|
 .op 5 (i_ 68 (.ld1 (T 67))) <|
 .op 6 (i_ 69 (.lenV (T 68))) <|
 .op 7 (i_ 70 (.mv (T 1))) <|
 .op 8 (i_ 71 (.nilck (T 70))) <|
 .op 9 (i_ 72 (.faddr 1 (T 71))) <|
 .op 10 (i_ 73 (.ld1 (T 72))) <|
 .op 11 (i_ 74 (.ib .sub (T 69) (T 73))) <|
 .op 12 (i_ 75 (.ib .neq (T 64) (T 74))) <|
 .op 13 (i_ 76 (.mv (T 75))) <|
 .op 14 (ig 77 76 false (.mv (T 0))) <|
 .op 15 (ig 78 76 false (.mv (T 2))) <|
 .op 17 (ig 80 76 false (.mv (T 11))) <|
 .op 16 (igd 79 76 false (.call 29 [(T 77), (T 78)]) [10, 5]) <|
 .op 18 (igd 81 76 false (.call 28 [(T 79), (T 80)]) [5, 10]) <|
 .op 19 (ig 82 76 false (.not (T 81))) <|
 .op 20 (i_ 83 (.pick (T 76) (KB true) (T 82))) <|
 .nil)
 (.cond (T 83)
 (.seq
 (.ops [i_ 6 (.mv (KB false))])
 .ret)
 .skip))
 (.seq
 (.seq
 (.ops [i_ 14 (.mv (KI 0))])
 (.block 0
 (.loop [(84, 90), (90, 131), (6, 7), (14, 15)]
 (.seq
 (.seq
 (.ops [i_ 84 (.mv (T 14)),
 i_ 85 (.mv (T 13)),
 i_ 86 (.lenV (T 85)),
 i_ 87 (.ib .lss (T 84) (T 86))])
 (.cond (T 87)
 .skip
 (.exit 0)))
 (.seq
 (.block 1
 (.seq
 (.dops <|
 .op 0 (i_ 90 (.mv (T 13))) <|
 .op 1 (i_ 91 (.mv (T 14))) <|
 .op 2 (i_ 92 (.iaddr 3 (T 90) (T 91))) <|
 .op 3 (i_ 93 (.faddr 0 (T 92))) <|
 .op 4 (i_ 94 (.ld1 (T 93))) <|
 .op 5 (i_ 95 (.mv (T 1))) <|
 .op 6 (i_ 96 (.nilck (T 95))) <|
 .op 7 (i_ 97 (.faddr 0 (T 96))) <|
 .op 8 (i_ 98 (.ld1 (T 97))) <|
 .op 9 (i_ 99 (.mv (T 1))) <|
 .op 10 (i_ 100 (.nilck (T 99))) <|
 .op 11 (i_ 101 (.faddr 1 (T 100))) <|
 .op 12 (i_ 102 (.ld1 (T 101))) <|
 .op 13 (i_ 103 (.mv (T 14))) <|
 .op 14 (i_ 104 (.ib .add (T 102) (T 103))) <|
 .op 15 (i_ 105 (.iaddr 3 (T 98) (T 104))) <|
 .op 16 (i_ 106 (.faddr 0 (T 105))) <|
 .op 17 (i_ 107 (.ld1 (T 106))) <|
 .op 18 (i_ 108 (.ib .neq (T 94) (T 107))) <|
 .op 19 (i_ 109 (.mv (T 108))) <|
 .op 20 (ig 110 109 false (.mv (T 13))) <|
 .op 21 (ig 111 109 false (.mv (T 14))) <|
 .op 22 (ig 112 109 false (.iaddr 3 (T 110) (T 111))) <|
 .op 23 (ig 113 109 false (.faddr 1 (T 112))) <|
 .op 24 (ig 114 109 false (.ldN 2 (T 113))) <|
 .op 25 (ig 115 109 false (.mv (T 1))) <|
 .op 26 (ig 116 109 false (.nilck (T 115))) <|
 .op 27 (ig 117 109 false (.faddr 0 (T 116))) <|
 .op 28 (ig 118 109 false (.ld1 (T 117))) <|
 .op 29 (ig 119 109 false (.mv (T 1))) <|
 .op 30 (ig 120 109 false (.nilck (T 119))) <|
 .op 31 (ig 121 109 false (.faddr 1 (T 120))) <|
 .op 32 (ig 122 109 false (.ld1 (T 121))) <|
 .op 33 (ig 123 109 false (.mv (T 14))) <|
 .op 34 (ig 124 109 false (.ib .add (T 122) (T 123))) <|
 .op 35 (ig 125 109 false (.iaddr 3 (T 118) (T 124))) <|
 .op 36 (ig 126 109 false (.faddr 1 (T 125))) <|
 .op 37 (ig 127 109 false (.ldN 2 (T 126))) <|
 .op 38 (igd 128 109 false (.call 13 [(T 114), (T 127)]) [28, 32, 37, 8, 12, 17, 4, 24]) <|
 .op 39 (ig 129 109 false (.not (T 128))) <|
 .op 40 (i_ 130 (.pick (T 109) (KB true) (T 129))) <|
 .nil)
 (.cond (T 130)
 (.seq
 (.ops [i_ 6 (.mv (KB false))])
 .ret)
 .skip)))
 (.ops [i_ 88 (.mv (T 14)),
 i_ 89 (.ib .add (T 88) (KI 1)),
 i_ 14 (.mv (T 89))]))))))
 (.seq
 (.ops [i_ 6 (.mv (KB true))])
 .ret))))))))))))
def m19 : MF := ⟨131, [(.tmp 6)], c19⟩
theorem r19 : resF Tryz.prog Tryz.f19 = some m19 := by kernel_rfl
def c44 : MC :=
 (.seq
 (.ops [i_ 2 (.mv (.const (.slice none 0 0)))])
 (.seq
 (.seq
 (.ops [i_ 3 (.mv (T 0)),
 i_ 4 (.raw ⟨(some 4), (.binOp .eql 91 (T 3) (.const (.slice none 0 0)) 91), 4, "slices.go:357", ⟨[⟨0, .data⟩]⟩, none⟩)])
 (.cond (T 4)
 (.seq
 (.ops [i_ 2 (.mv (.const (.slice none 0 0)))])
 .ret)
 .skip))
 (.seq
 (.ops [i_ 5 (.raw ⟨(some 5), (.buildSlice 91 0 ⟨[]⟩), 91, "slices.go:362", ⟨[]⟩, none⟩),
 i_ 6 (.mv (T 0)),
 i_ 7 (.append 3 1 8 (T 5) (T 6)),
 i_ 2 (.mv (T 7))])
 .ret)))
def m44 : MF := ⟨8, [(.tmp 2)], c44⟩
theorem r44 : resF Tryz.prog Tryz.f44 = some m44 := by kernel_rfl
def c5 : MC :=
 (.seq
 (.ops [i_ 4 (.mv (.const (.slice none 0 0)))])
 (.seq
 (.ops [i_ 5 (.mv (.const (.slice none 0 0)))])
 (.seq
 (.seq
 (.ops [i_ 6 (.mv (KI 0))])
 (.block 0
 (.loop [(7, 18), (18, 38), (5, 7)]
 (.seq
 (.seq
 (.ops [i_ 7 (.mv (T 6)),
 i_ 8 (.mv (T 0)),
 i_ 9 (.lenV (T 8)),
 i_ 10 (.ib .lss (T 7) (T 9)),
 i_ 11 (.mv (T 10)),
 ig 12 11 true (.mv (T 6)),
 ig 13 11 true (.mv (T 1)),
 ig 14 11 true (.ib .lss (T 12) (T 13)),
 i_ 15 (.pick (T 11) (T 14) (KB false))])
 (.cond (T 15)
 .skip
 (.exit 0)))
 (.seq
 (.block 1
 (.dops <|
 .op 0 (i_ 18 (.mv (T 5))) <|
 .op 1 (i_ 19 (.mv (T 0))) <|
 .op 2 (i_ 20 (.mv (T 6))) <|
 .op 3 (i_ 21 (.iaddr 4 (T 19) (T 20))) <|
 .op 4 (i_ 22 (.faddr 0 (T 21))) <|
 .op 5 (i_ 23 (.ld1 (T 22))) <|
 .op 6 (i_ 24 (.mv (T 0))) <|
 .op 7 (i_ 25 (.mv (T 6))) <|
 .op 8 (i_ 26 (.iaddr 4 (T 24) (T 25))) <|
 .op 9 (i_ 27 (.faddr 1 (T 26))) <|
 .op 10 (i_ 28 (.ld1 (T 27))) <|
 .op 11 (i_ 29 (.mv (T 0))) <|
 .op 12 (i_ 30 (.mv (T 6))) <|
 .op 13 (i_ 31 (.iaddr 4 (T 29) (T 30))) <|
 .op 14 (i_ 32 (.faddr 2 (T 31))) <|
 .op 15 (i_ 33 (.ldN 2 (T 32))) <|
 .op 16 (id_ 34 (.call 20 [(T 33)]) [15]) <|
 .op 17 (i_ 35 (.build [(.int .i64 0), (.int .u64 0), (.slice none 0 0), (.slice none 0 0)] [(0, (1, (T 23))), (1, (1, (T 28))), (2, (2, (T 34)))])) <|
 .op 18 (id_ 36 (.bslice 35 [(.int .i64 0), (.int .u64 0), (.slice none 0 0), (.slice none 0 0)] 1 4 [(0, (4, (T 35)))]) [5, 10, 15]) <|
 .op 19 (id_ 37 (.append 35 4 64 (T 18) (T 36)) [15, 10, 5]) <|
 .op 20 (i_ 5 (.mv (T 37))) <|
 .nil))
 (.ops [i_ 16 (.mv (T 6)),
 i_ 17 (.ib .add (T 16) (KI 1)),
 i_ 6 (.mv (T 17))]))))))
 (.seq
 (.ops [i_ 38 (.mv (T 5)),
 i_ 4 (.mv (T 38))])
 .ret))))
def m5 : MF := ⟨39, [(.tmp 4)], c5⟩
theorem r5 : resF Tryz.prog Tryz.f5 = some m5 := by kernel_rfl
theorem k5 : Callable Tryz.prog 5 := ⟨_, Tryz.func5, by kernel_rfl, by kernel_rfl⟩

def c8 : MC :=
 (.seq
 (.ops [i_ 0 (.mv (KB false))])
 (.seq
 (.ops [i_ 4 (.call 14 []),
 i_ 1 (.mv (T 4))])
 (.seq
 (.seq
 (.ops [i_ 5 (.mv (T 1)),
 i_ 6 (.pnil false (T 5)),
 i_ 7 (.mv (T 6)),
 ig 8 7 false (.mv (T 1)),
 ig 9 7 false (.call 22 []),
 ig 10 7 false (.call 15 [(T 8), (.const (.int .u64 3)), (T 9)]),
 ig 11 7 false (.ib .neq (T 10) (KI 0)),
 i_ 12 (.pick (T 7) (KB true) (T 11))])
 (.cond (T 12)
 (.seq
 (.ops [i_ 0 (.mv (KB false))])
 .ret)
 .skip))
 (.seq
 (.ops [i_ 14 (.mv (T 1)),
 i_ 15 (.call 11 [(T 14), (.const (.int .u64 3))]),
 i_ 13 (.mv (T 15)),
 i_ 16 (.ext (T 13) 0),
 i_ 17 (.ext (T 13) 1),
 i_ 2 (.alloc 33 [(.slice none 0 0), (.slice none 0 0)]),
 n_ (.st 2 (T 2) (T 16)),
 i_ 3 (.mv (T 17))])
 (.seq
 (.ops [i_ 18 (.mv (T 3)),
 i_ 19 (.ib .eql (T 18) (KI 1)),
 i_ 20 (.mv (T 19)),
 ig 21 20 true (.faddr 0 (T 2)),
 ig 22 20 true (.ld1 (T 21)),
 ig 23 20 true (.lenV (T 22)),
 ig 24 20 true (.ib .eql (T 23) (KI 1)),
 i_ 25 (.pick (T 20) (T 24) (KB false)),
 i_ 0 (.mv (T 25))])
 .ret)))))
def m8 : MF := ⟨26, [(.tmp 0)], c8⟩
theorem r8 : resF Tryz.prog Tryz.f8 = some m8 := by kernel_rfl
def c9 : MC :=
 (.seq
 (.ops [i_ 2 (.mv (KI 0))])
 (.seq
 (.seq
 (.ops [i_ 3 (.mv (T 0)),
 i_ 4 (.call 18 [(T 3)]),
 i_ 5 (.not (T 4))])
 (.cond (T 5)
 (.seq
 (.ops [i_ 2 (.mv (KI 0))])
 .ret)
 .skip))
 (.seq
 (.ops [i_ 6 (.mv (T 0)),
 i_ 7 (.nilck (T 6)),
 i_ 8 (.faddr 2 (T 7)),
 i_ 9 (.ld1 (T 8)),
 i_ 2 (.mv (T 9))])
 .ret)))
def m9 : MF := ⟨10, [(.tmp 2)], c9⟩
theorem r9 : resF Tryz.prog Tryz.f9 = some m9 := by kernel_rfl
theorem k9 : Callable Tryz.prog 9 := ⟨_, Tryz.func9, by kernel_rfl, by kernel_rfl⟩

def c10 : MC :=
 (.seq
 (.ops [i_ 2 (.mv (.const (.slice none 0 0)))])
 (.seq
 (.seq
 (.ops [i_ 6 (.mv (T 0)),
 i_ 7 (.call 18 [(T 6)]),
 i_ 8 (.not (T 7))])
 (.cond (T 8)
 (.seq
 (.ops [i_ 2 (.mv (.const (.slice none 0 0)))])
 .ret)
 .skip))
 (.seq
 (.ops [i_ 3 (.mv (.const (.slice none 0 0)))])
 (.seq
 (.seq
 (.ops [i_ 9 (.mv (T 0)),
 i_ 10 (.nilck (T 9)),
 i_ 11 (.faddr 1 (T 10)),
 i_ 12 (.ld1 (T 11)),
 i_ 13 (.lenV (T 12)),
 i_ 14 (.mv (KI 0))])
 (.block 0
 (.loop [(15, 30), (5, 6), (3, 4), (14, 15)]
 (.seq
 (.ops [i_ 15 (.ib .lss (T 14) (T 13))])
 (.seq
 (.cond (T 15)
 .skip
 (.exit 0))
 (.seq
 (.block 1
 (.seq
 (.ops [i_ 16 (.iaddr 4 (T 12) (T 14)),
 i_ 17 (.ldN 4 (T 16)),
 i_ 5 (.alloc 66 [(.int .u64 0), (.slice none 0 0), (.slice none 0 0), (.slice none 0 0)]),
 n_ (.st 4 (T 5) (T 17))])
 (.dops <|
 .op 0 (i_ 18 (.mv (T 3))) <|
 .op 1 (i_ 19 (.faddr 0 (T 5))) <|
 .op 2 (i_ 20 (.faddr 0 (T 19))) <|
 .op 3 (i_ 21 (.ld1 (T 20))) <|
 .op 4 (i_ 22 (.faddr 0 (T 5))) <|
 .op 5 (i_ 23 (.faddr 1 (T 22))) <|
 .op 6 (i_ 24 (.ldN 2 (T 23))) <|
 .op 7 (id_ 25 (.call 23 [(T 24)]) [6]) <|
 .op 8 (i_ 26 (.build [(.int .u64 0), (.slice none 0 0), (.slice none 0 0)] [(0, (1, (T 21))), (1, (2, (T 25)))])) <|
 .op 9 (id_ 27 (.bslice 37 [(.int .u64 0), (.slice none 0 0), (.slice none 0 0)] 1 3 [(0, (3, (T 26)))]) [3, 6]) <|
 .op 10 (id_ 28 (.append 37 3 56 (T 18) (T 27)) [6, 3]) <|
 .op 11 (i_ 3 (.mv (T 28))) <|
 .nil)))
 (.ops [i_ 29 (.ib .add (T 14) (KI 1)),
 i_ 14 (.mv (T 29))])))))))
 (.seq
 (.ops [i_ 30 (.mv (T 3)),
 i_ 2 (.mv (T 30))])
 .ret)))))
def m10 : MF := ⟨31, [(.tmp 2)], c10⟩
theorem r10 : resF Tryz.prog Tryz.f10 = some m10 := by kernel_rfl
theorem k10 : Callable Tryz.prog 10 := ⟨_, Tryz.func10, by kernel_rfl, by kernel_rfl⟩

def c11 : MC :=
 (.seq
 (.ops [i_ 4 (.alloc 33 [(.slice none 0 0), (.slice none 0 0)]),
 i_ 5 (.mv (KI 0))])
 (.seq
 (.ops [i_ 7 (.mv (T 0)),
 i_ 8 (.mv (T 1)),
 i_ 9 (.call 24 [(T 7), (T 8)]),
 i_ 6 (.mv (T 9))])
 (.seq
 (.seq
 (.ops [i_ 10 (.mv (T 6)),
 i_ 11 (.ib .lss (T 10) (KI 0))])
 (.cond (T 11)
 (.seq
 (.ops [i_ 12 (.build [(.slice none 0 0), (.slice none 0 0)] []),
 n_ (.st 2 (T 4) (T 12)),
 i_ 5 (.mv (KI 0))])
 .ret)
 .skip))
 (.seq
 (.dops <|
 .op 0 (i_ 13 (.mv (T 0))) <|
 .op 1 (i_ 14 (.nilck (T 13))) <|
 .op 2 (i_ 15 (.faddr 1 (T 14))) <|
 .op 3 (i_ 16 (.ld1 (T 15))) <|
 .op 4 (i_ 17 (.mv (T 6))) <|
 .op 5 (i_ 18 (.iaddr 4 (T 16) (T 17))) <|
 .op 6 (i_ 19 (.faddr 0 (T 18))) <|
 .op 7 (i_ 20 (.faddr 1 (T 19))) <|
 .op 8 (i_ 21 (.ldN 2 (T 20))) <|
 .op 10 (i_ 23 (.mv (T 0))) <|
 .op 11 (i_ 24 (.nilck (T 23))) <|
 .op 12 (i_ 25 (.faddr 2 (T 24))) <|
 .op 13 (i_ 26 (.ld1 (T 25))) <|
 .op 14 (i_ 27 (.mv (T 6))) <|
 .op 15 (i_ 28 (.ib .add (T 26) (T 27))) <|
 .op 16 (i_ 29 (.ib .add (T 28) (KI 1))) <|
 .op 9 (id_ 22 (.call 23 [(T 21)]) [3, 8]) <|
 .op 17 (nd_ (.st 2 (T 4) (T 22)) [8, 3]) <|
 .op 18 (i_ 5 (.mv (T 29))) <|
 .nil)
 .ret))))
def m11 : MF := ⟨30, [(.cell 4 2), (.tmp 5)], c11⟩
theorem r11 : resF Tryz.prog Tryz.f11 = some m11 := by kernel_rfl
theorem k11 : Callable Tryz.prog 11 := ⟨_, Tryz.func11, by kernel_rfl, by kernel_rfl⟩

def c13 : MC :=
 (.seq
 (.ops [i_ 2 (.box 33 (T 0)),
 i_ 3 (.box 33 (T 1)),
 i_ 4 (.mv (KB false))])
 (.seq
 (.seq
 (.ops [i_ 8 (.faddr 0 (T 2)),
 i_ 9 (.ld1 (T 8)),
 i_ 10 (.lenV (T 9)),
 i_ 11 (.faddr 0 (T 3)),
 i_ 12 (.ld1 (T 11)),
 i_ 13 (.lenV (T 12)),
 i_ 14 (.ib .neq (T 10) (T 13)),
 i_ 15 (.mv (T 14)),
 ig 16 15 false (.faddr 1 (T 2)),
 ig 17 15 false (.ld1 (T 16)),
 ig 18 15 false (.lenV (T 17)),
 ig 19 15 false (.faddr 1 (T 3)),
 ig 20 15 false (.ld1 (T 19)),
 ig 21 15 false (.lenV (T 20)),
 ig 22 15 false (.ib .neq (T 18) (T 21)),
 i_ 23 (.pick (T 15) (KB true) (T 22))])
 (.cond (T 23)
 (.seq
 (.ops [i_ 4 (.mv (KB false))])
 .ret)
 .skip))
 (.seq
 (.seq
 (.ops [i_ 5 (.mv (KI 0))])
 (.block 0
 (.loop [(24, 31), (31, 72), (4, 6), (6, 7), (72, 92)]
 (.seq
 (.seq
 (.ops [i_ 24 (.mv (T 5)),
 i_ 25 (.faddr 0 (T 2)),
 i_ 26 (.ld1 (T 25)),
 i_ 27 (.lenV (T 26)),
 i_ 28 (.ib .lss (T 24) (T 27))])
 (.cond (T 28)
 .skip
 (.exit 0)))
 (.seq
 (.block 1
 (.seq
 (.seq
 (.dops <|
 .op 0 (i_ 31 (.faddr 0 (T 2))) <|
 .op 1 (i_ 32 (.ld1 (T 31))) <|
 .op 2 (i_ 33 (.mv (T 5))) <|
 .op 3 (i_ 34 (.iaddr 2 (T 32) (T 33))) <|
 .op 4 (i_ 35 (.faddr 0 (T 34))) <|
 .op 5 (i_ 36 (.ld1 (T 35))) <|
 .op 6 (i_ 37 (.faddr 0 (T 3))) <|
 .op 7 (i_ 38 (.ld1 (T 37))) <|
 .op 8 (i_ 39 (.mv (T 5))) <|
 .op 9 (i_ 40 (.iaddr 2 (T 38) (T 39))) <|
 .op 10 (i_ 41 (.faddr 0 (T 40))) <|
 .op 11 (i_ 42 (.ld1 (T 41))) <|
 .op 12 (i_ 43 (.sb .neq (T 36) (T 42))) <|
 .op 13 (i_ 44 (.mv (T 43))) <|
 .op 14 (ig 45 44 false (.faddr 0 (T 2))) <|
 .op 15 (ig 46 44 false (.ld1 (T 45))) <|
 .op 16 (ig 47 44 false (.mv (T 5))) <|
 .op 17 (ig 48 44 false (.iaddr 2 (T 46) (T 47))) <|
 .op 18 (ig 49 44 false (.faddr 1 (T 48))) <|
 .op 19 (ig 50 44 false (.ld1 (T 49))) <|
 .op 20 (ig 51 44 false (.lenV (T 50))) <|
 .op 21 (ig 52 44 false (.faddr 0 (T 3))) <|
 .op 22 (ig 53 44 false (.ld1 (T 52))) <|
 .op 23 (ig 54 44 false (.mv (T 5))) <|
 .op 24 (ig 55 44 false (.iaddr 2 (T 53) (T 54))) <|
 .op 25 (ig 56 44 false (.faddr 1 (T 55))) <|
 .op 26 (ig 57 44 false (.ld1 (T 56))) <|
 .op 27 (ig 58 44 false (.lenV (T 57))) <|
 .op 28 (ig 59 44 false (.ib .neq (T 51) (T 58))) <|
 .op 29 (i_ 60 (.pick (T 44) (KB true) (T 59))) <|
 .nil)
 (.cond (T 60)
 (.seq
 (.ops [i_ 4 (.mv (KB false))])
 .ret)
 .skip))
 (.seq
 (.ops [i_ 6 (.mv (KI 0))])
 (.block 2
 (.loop [(61, 72), (72, 92), (4, 5), (6, 7)]
 (.seq
 (.seq
 (.ops [i_ 61 (.mv (T 6)),
 i_ 62 (.faddr 0 (T 2)),
 i_ 63 (.ld1 (T 62)),
 i_ 64 (.mv (T 5)),
 i_ 65 (.iaddr 2 (T 63) (T 64)),
 i_ 66 (.faddr 1 (T 65)),
 i_ 67 (.ld1 (T 66)),
 i_ 68 (.lenV (T 67)),
 i_ 69 (.ib .lss (T 61) (T 68))])
 (.cond (T 69)
 .skip
 (.exit 2)))
 (.seq
 (.block 3
 (.seq
 (.dops <|
 .op 0 (i_ 72 (.faddr 0 (T 2))) <|
 .op 1 (i_ 73 (.ld1 (T 72))) <|
 .op 2 (i_ 74 (.mv (T 5))) <|
 .op 3 (i_ 75 (.iaddr 2 (T 73) (T 74))) <|
 .op 4 (i_ 76 (.faddr 1 (T 75))) <|
 .op 5 (i_ 77 (.ld1 (T 76))) <|
 .op 6 (i_ 78 (.mv (T 6))) <|
 .op 7 (i_ 79 (.iaddr 3 (T 77) (T 78))) <|
 .op 8 (i_ 80 (.ldN 3 (T 79))) <|
 .op 9 (i_ 81 (.faddr 0 (T 3))) <|
 .op 10 (i_ 82 (.ld1 (T 81))) <|
 .op 11 (i_ 83 (.mv (T 5))) <|
 .op 12 (i_ 84 (.iaddr 2 (T 82) (T 83))) <|
 .op 13 (i_ 85 (.faddr 1 (T 84))) <|
 .op 14 (i_ 86 (.ld1 (T 85))) <|
 .op 15 (i_ 87 (.mv (T 6))) <|
 .op 16 (i_ 88 (.iaddr 3 (T 86) (T 87))) <|
 .op 17 (i_ 89 (.ldN 3 (T 88))) <|
 .op 18 (id_ 90 (.call 25 [(T 80), (T 89)]) [10, 14, 17, 1, 5, 8]) <|
 .op 19 (i_ 91 (.not (T 90))) <|
 .nil)
 (.cond (T 91)
 (.seq
 (.ops [i_ 4 (.mv (KB false))])
 .ret)
 .skip)))
 (.ops [i_ 70 (.mv (T 6)),
 i_ 71 (.ib .add (T 70) (KI 1)),
 i_ 6 (.mv (T 71))]))))))))
 (.ops [i_ 29 (.mv (T 5)),
 i_ 30 (.ib .add (T 29) (KI 1)),
 i_ 5 (.mv (T 30))]))))))
 (.seq
 (.seq
 (.ops [i_ 7 (.mv (KI 0))])
 (.block 4
 (.loop [(92, 99), (99, 110), (4, 5), (7, 8)]
 (.seq
 (.seq
 (.ops [i_ 92 (.mv (T 7)),
 i_ 93 (.faddr 1 (T 2)),
 i_ 94 (.ld1 (T 93)),
 i_ 95 (.lenV (T 94)),
 i_ 96 (.ib .lss (T 92) (T 95))])
 (.cond (T 96)
 .skip
 (.exit 4)))
 (.seq
 (.block 5
 (.seq
 (.dops <|
 .op 0 (i_ 99 (.faddr 1 (T 2))) <|
 .op 1 (i_ 100 (.ld1 (T 99))) <|
 .op 2 (i_ 101 (.mv (T 7))) <|
 .op 3 (i_ 102 (.iaddr 4 (T 100) (T 101))) <|
 .op 4 (i_ 103 (.ldN 4 (T 102))) <|
 .op 5 (i_ 104 (.faddr 1 (T 3))) <|
 .op 6 (i_ 105 (.ld1 (T 104))) <|
 .op 7 (i_ 106 (.mv (T 7))) <|
 .op 8 (i_ 107 (.iaddr 4 (T 105) (T 106))) <|
 .op 9 (i_ 108 (.ldN 4 (T 107))) <|
 .op 10 (i_ 109 (.eqA true 78 [78, 76] [2, 2, 2, 2] (T 103) (T 108))) <|
 .nil)
 (.cond (T 109)
 (.seq
 (.ops [i_ 4 (.mv (KB false))])
 .ret)
 .skip)))
 (.ops [i_ 97 (.mv (T 7)),
 i_ 98 (.ib .add (T 97) (KI 1)),
 i_ 7 (.mv (T 98))]))))))
 (.seq
 (.ops [i_ 4 (.mv (KB true))])
 .ret)))))
def m13 : MF := ⟨110, [(.tmp 4)], c13⟩
theorem r13 : resF Tryz.prog Tryz.f13 = some m13 := by kernel_rfl
def c14 : MC :=
 (.seq
 (.ops [i_ 0 (.mv (.const (.pointer none)))])
 (.seq
 (.ops [i_ 1 (.build [(.bool false), (.slice none 0 0), (.int .i64 0)] [(0, (1, (KB true)))]),
 i_ 2 (.box 63 (T 1)),
 i_ 0 (.mv (T 2))])
 .ret))
def m14 : MF := ⟨3, [(.tmp 0)], c14⟩
theorem r14 : resF Tryz.prog Tryz.f14 = some m14 := by kernel_rfl
def c15 : MC :=
 (.seq
 (.ops [i_ 5 (.box 33 (T 2)),
 i_ 6 (.mv (KI 0))])
 (.seq
 (.block 0
 (.seq
 (.ops [i_ 10 (.mv (T 0)),
 i_ 11 (.call 18 [(T 10)]),
 i_ 12 (.not (T 11)),
 i_ 9 (.mv (T 12))])
 (.cond (T 9)
 (.seq
 (.ops [i_ 6 (.mv (KI 1))])
 .ret)
 (.seq
 (.dops <|
 .op 0 (i_ 14 (.mv (T 0))) <|
 .op 1 (i_ 15 (.nilck (T 14))) <|
 .op 2 (i_ 16 (.faddr 1 (T 15))) <|
 .op 3 (i_ 17 (.ld1 (T 16))) <|
 .op 4 (i_ 18 (.lenV (T 17))) <|
 .op 5 (i_ 19 (.ib .gtr (T 18) (KI 0))) <|
 .op 6 (i_ 20 (.mv (T 19))) <|
 .op 7 (ig 21 20 true (.mv (T 1))) <|
 .op 8 (ig 22 20 true (.mv (T 0))) <|
 .op 9 (ig 23 20 true (.nilck (T 22))) <|
 .op 10 (ig 24 20 true (.faddr 1 (T 23))) <|
 .op 11 (ig 25 20 true (.ld1 (T 24))) <|
 .op 12 (ig 26 20 true (.mv (T 0))) <|
 .op 13 (ig 27 20 true (.nilck (T 26))) <|
 .op 14 (ig 28 20 true (.faddr 1 (T 27))) <|
 .op 15 (ig 29 20 true (.ld1 (T 28))) <|
 .op 16 (ig 30 20 true (.lenV (T 29))) <|
 .op 17 (ig 31 20 true (.ib .sub (T 30) (KI 1))) <|
 .op 18 (ig 32 20 true (.iaddr 4 (T 25) (T 31))) <|
 .op 19 (ig 33 20 true (.faddr 0 (T 32))) <|
 .op 20 (ig 34 20 true (.faddr 0 (T 33))) <|
 .op 21 (ig 35 20 true (.ld1 (T 34))) <|
 .op 22 (ig 36 20 true (.ib .leq (T 21) (T 35))) <|
 .op 23 (i_ 37 (.pick (T 20) (T 36) (KB false))) <|
 .op 24 (i_ 13 (.mv (T 37))) <|
 .nil)
 (.cond (T 13)
 (.seq
 (.ops [i_ 6 (.mv (KI 12))])
 .ret)
 .skip)))))
 (.seq
 (.ops [i_ 39 (.ldN 2 (T 5)),
 i_ 40 (.call 26 [(T 39)]),
 i_ 38 (.mv (T 40)),
 i_ 41 (.ext (T 38) 0),
 i_ 42 (.ext (T 38) 1),
 i_ 7 (.mv (T 41)),
 i_ 8 (.mv (T 42))])
 (.seq
 (.block 1
 (.seq
 (.ops [i_ 44 (.mv (T 8)),
 i_ 45 (.ib .neq (T 44) (KI 0)),
 i_ 43 (.mv (T 45))])
 (.cond (T 43)
 (.seq
 (.ops [i_ 46 (.mv (T 8)),
 i_ 6 (.mv (T 46))])
 .ret)
 (.seq
 (.ops [i_ 48 (.mv (T 0)),
 i_ 49 (.nilck (T 48)),
 i_ 50 (.faddr 1 (T 49)),
 i_ 51 (.ld1 (T 50)),
 i_ 52 (.lenV (T 51)),
 i_ 53 (.ib .geq (T 52) (KI 16)),
 i_ 47 (.mv (T 53))])
 (.cond (T 47)
 (.seq
 (.ops [i_ 6 (.mv (KI 8))])
 .ret)
 .skip)))))
 (.seq
 (.dops <|
 .op 0 (i_ 54 (.mv (T 0))) <|
 .op 1 (i_ 55 (.mv (T 0))) <|
 .op 2 (i_ 56 (.nilck (T 55))) <|
 .op 3 (i_ 57 (.faddr 1 (T 56))) <|
 .op 4 (i_ 58 (.ld1 (T 57))) <|
 .op 5 (i_ 59 (.mv (T 1))) <|
 .op 6 (i_ 60 (.ldN 2 (T 5))) <|
 .op 9 (i_ 63 (.mv (T 7))) <|
 .op 7 (id_ 61 (.call 23 [(T 60)]) [6]) <|
 .op 8 (i_ 62 (.build [(.int .u64 0), (.slice none 0 0), (.slice none 0 0)] [(0, (1, (T 59))), (1, (2, (T 61)))])) <|
 .op 10 (i_ 64 (.build [(.int .u64 0), (.slice none 0 0), (.slice none 0 0), (.slice none 0 0)] [(0, (3, (T 62))), (3, (1, (T 63)))])) <|
 .op 11 (id_ 65 (.bslice 66 [(.int .u64 0), (.slice none 0 0), (.slice none 0 0), (.slice none 0 0)] 1 4 [(0, (4, (T 64)))]) [6]) <|
 .op 12 (id_ 66 (.append 66 4 80 (T 58) (T 65)) [6, 4]) <|
 .op 13 (i_ 67 (.nilck (T 54))) <|
 .op 14 (i_ 68 (.faddr 1 (T 67))) <|
 .op 15 (nd_ (.st 1 (T 68) (T 66)) [6, 4]) <|
 .nil)
 (.seq
 (.ops [i_ 6 (.mv (KI 0))])
 .ret))))))
def m15 : MF := ⟨69, [(.tmp 6)], c15⟩
theorem r15 : resF Tryz.prog Tryz.f15 = some m15 := by kernel_rfl
theorem k15 : Callable Tryz.prog 15 := ⟨_, Tryz.func15, by kernel_rfl, by kernel_rfl⟩

def c16 : MC :=
 (.seq
 (.seq
 (.ops [i_ 4 (.mv (T 0)),
 i_ 5 (.call 18 [(T 4)]),
 i_ 6 (.not (T 5))])
 (.cond (T 6)
 .ret
 .skip))
 (.block 0
 (.loop [(7, 41)]
 (.seq
 (.seq
 (.ops [i_ 7 (.mv (T 0)),
 i_ 8 (.nilck (T 7)),
 i_ 9 (.faddr 1 (T 8)),
 i_ 10 (.ld1 (T 9)),
 i_ 11 (.lenV (T 10)),
 i_ 12 (.ib .gtr (T 11) (KI 1)),
 i_ 13 (.mv (T 12)),
 ig 14 13 true (.mv (T 0)),
 ig 15 13 true (.nilck (T 14)),
 ig 16 13 true (.faddr 1 (T 15)),
 ig 17 13 true (.ld1 (T 16)),
 ig 18 13 true (.iaddr 4 (T 17) (KI 1)),
 ig 19 13 true (.faddr 0 (T 18)),
 ig 20 13 true (.faddr 0 (T 19)),
 ig 21 13 true (.ld1 (T 20)),
 ig 22 13 true (.mv (T 1)),
 ig 23 13 true (.ib .leq (T 21) (T 22)),
 i_ 24 (.pick (T 13) (T 23) (KB false))])
 (.cond (T 24)
 .skip
 (.exit 0)))
 (.block 1
 (.seq
 (.ops [i_ 25 (.mv (T 0)),
 i_ 26 (.mv (T 0)),
 i_ 27 (.nilck (T 26)),
 i_ 28 (.faddr 1 (T 27)),
 i_ 29 (.ld1 (T 28)),
 i_ 30 (.slV 4 (T 29) (some (KI 1)) none),
 i_ 31 (.call 27 [(T 30)]),
 i_ 32 (.nilck (T 25)),
 i_ 33 (.faddr 1 (T 32)),
 n_ (.st 1 (T 33) (T 31))])
 (.ops [i_ 34 (.mv (T 0)),
 i_ 35 (.nilck (T 34)),
 i_ 36 (.faddr 2 (T 35)),
 i_ 37 (.ld1 (T 36)),
 i_ 38 (.ib .add (T 37) (KI 1)),
 i_ 39 (.nilck (T 34)),
 i_ 40 (.faddr 2 (T 39)),
 n_ (.st 1 (T 40) (T 38))])))))))
def m16 : MF := ⟨41, [], c16⟩
theorem r16 : resF Tryz.prog Tryz.f16 = some m16 := by kernel_rfl
theorem k16 : Callable Tryz.prog 16 := ⟨_, Tryz.func16, by kernel_rfl, by kernel_rfl⟩

def c18 : MC :=
 (.seq
 (.ops [i_ 2 (.mv (KB false))])
 (.seq
 (.ops [i_ 3 (.mv (T 0)),
 i_ 4 (.pnil true (T 3)),
 i_ 5 (.mv (T 4)),
 ig 6 5 true (.mv (T 0)),
 ig 7 5 true (.nilck (T 6)),
 ig 8 5 true (.faddr 0 (T 7)),
 ig 9 5 true (.ld1 (T 8)),
 i_ 10 (.pick (T 5) (T 9) (KB false)),
 i_ 2 (.mv (T 10))])
 .ret))
def m18 : MF := ⟨11, [(.tmp 2)], c18⟩
theorem r18 : resF Tryz.prog Tryz.f18 = some m18 := by kernel_rfl
theorem k18 : Callable Tryz.prog 18 := ⟨_, Tryz.func18, by kernel_rfl, by kernel_rfl⟩

def c20 : MC :=
 (.seq
 (.ops [i_ 1 (.box 33 (T 0)),
 i_ 2 (.alloc 33 [(.slice none 0 0), (.slice none 0 0)])])
 (.seq
 (.ops [i_ 12 (.build [(.slice none 0 0), (.slice none 0 0)] []),
 i_ 3 (.alloc 33 [(.slice none 0 0), (.slice none 0 0)]),
 n_ (.st 2 (T 3) (T 12))])
 (.seq
 (.seq
 (.ops [i_ 4 (.mv (KI 0))])
 (.block 0
 (.loop [(13, 24), (24, 47), (5, 10), (47, 86), (4, 5)]
 (.seq
 (.seq
 (.ops [i_ 13 (.mv (T 4)),
 i_ 14 (.faddr 0 (T 1)),
 i_ 15 (.ld1 (T 14)),
 i_ 16 (.lenV (T 15)),
 i_ 17 (.ib .lss (T 13) (T 16)),
 i_ 18 (.mv (T 17)),
 ig 19 18 true (.mv (T 4)),
 ig 20 18 true (.ib .lss (T 19) (KI 5)),
 i_ 21 (.pick (T 18) (T 20) (KB false))])
 (.cond (T 21)
 .skip
 (.exit 0)))
 (.seq
 (.block 1
 (.seq
 (.ops [i_ 24 (.faddr 0 (T 1)),
 i_ 25 (.ld1 (T 24)),
 i_ 26 (.mv (T 4)),
 i_ 27 (.iaddr 2 (T 25) (T 26)),
 i_ 28 (.faddr 0 (T 27)),
 i_ 29 (.ld1 (T 28)),
 i_ 30 (.call 30 [(T 29), (KI 40)]),
 i_ 31 (.build [(.string ⟨⟨[]⟩⟩), (.slice none 0 0)] [(0, (1, (T 30)))]),
 i_ 5 (.alloc 69 [(.string ⟨⟨[]⟩⟩), (.slice none 0 0)]),
 n_ (.st 2 (T 5) (T 31))])
 (.seq
 (.seq
 (.ops [i_ 6 (.mv (KI 0))])
 (.block 2
 (.loop [(32, 47), (47, 79), (7, 9), (6, 7)]
 (.seq
 (.seq
 (.ops [i_ 32 (.mv (T 6)),
 i_ 33 (.faddr 0 (T 1)),
 i_ 34 (.ld1 (T 33)),
 i_ 35 (.mv (T 4)),
 i_ 36 (.iaddr 2 (T 34) (T 35)),
 i_ 37 (.faddr 1 (T 36)),
 i_ 38 (.ld1 (T 37)),
 i_ 39 (.lenV (T 38)),
 i_ 40 (.ib .lss (T 32) (T 39)),
 i_ 41 (.mv (T 40)),
 ig 42 41 true (.mv (T 6)),
 ig 43 41 true (.ib .lss (T 42) (KI 6)),
 i_ 44 (.pick (T 41) (T 43) (KB false))])
 (.cond (T 44)
 .skip
 (.exit 2)))
 (.seq
 (.block 3
 (.seq
 (.ops [i_ 47 (.faddr 0 (T 1)),
 i_ 48 (.ld1 (T 47)),
 i_ 49 (.mv (T 4)),
 i_ 50 (.iaddr 2 (T 48) (T 49)),
 i_ 51 (.faddr 1 (T 50)),
 i_ 52 (.ld1 (T 51)),
 i_ 53 (.mv (T 6)),
 i_ 54 (.iaddr 3 (T 52) (T 53)),
 i_ 55 (.ldN 3 (T 54)),
 i_ 7 (.alloc 74 [(.string ⟨⟨[]⟩⟩), (.slice none 0 0), (.slice none 0 0)]),
 n_ (.st 3 (T 7) (T 55))])
 (.seq
 (.seq
 (.ops [i_ 56 (.faddr 1 (T 7)),
 i_ 57 (.ld1 (T 56)),
 i_ 58 (.lenV (T 57)),
 i_ 59 (.ib .gtr (T 58) (KI 9))])
 (.cond (T 59)
 (.ops [i_ 60 (.faddr 1 (T 7)),
 i_ 61 (.ld1 (T 60)),
 i_ 62 (.slV 2 (T 61) none (some (KI 9))),
 i_ 63 (.faddr 1 (T 7)),
 n_ (.st 1 (T 63) (T 62))])
 .skip))
 (.seq
 (.seq
 (.ops [i_ 64 (.faddr 2 (T 7)),
 i_ 65 (.ld1 (T 64)),
 i_ 66 (.lenV (T 65)),
 i_ 67 (.ib .gtr (T 66) (KI 66))])
 (.cond (T 67)
 (.ops [i_ 68 (.faddr 2 (T 7)),
 i_ 69 (.ld1 (T 68)),
 i_ 70 (.slV 5 (T 69) none (some (KI 66))),
 i_ 71 (.faddr 2 (T 7)),
 n_ (.st 1 (T 71) (T 70))])
 .skip))
 (.seq
 (.ops [i_ 72 (.faddr 1 (T 5)),
 i_ 73 (.ld1 (T 72)),
 i_ 8 (.mv (T 73))])
 (.ops [i_ 74 (.mv (T 8)),
 i_ 75 (.ldN 3 (T 7)),
 i_ 76 (.bslice 74 [(.string ⟨⟨[]⟩⟩), (.slice none 0 0), (.slice none 0 0)] 1 3 [(0, (3, (T 75)))]),
 i_ 77 (.append 74 3 64 (T 74) (T 76)),
 i_ 78 (.faddr 1 (T 5)),
 n_ (.st 1 (T 78) (T 77))]))))))
 (.ops [i_ 45 (.mv (T 6)),
 i_ 46 (.ib .add (T 45) (KI 1)),
 i_ 6 (.mv (T 46))]))))))
 (.seq
 (.ops [i_ 79 (.faddr 0 (T 3)),
 i_ 80 (.ld1 (T 79)),
 i_ 9 (.mv (T 80))])
 (.ops [i_ 81 (.mv (T 9)),
 i_ 82 (.ldN 2 (T 5)),
 i_ 83 (.bslice 69 [(.string ⟨⟨[]⟩⟩), (.slice none 0 0)] 1 2 [(0, (2, (T 82)))]),
 i_ 84 (.append 69 2 40 (T 81) (T 83)),
 i_ 85 (.faddr 0 (T 3)),
 n_ (.st 1 (T 85) (T 84))])))))
 (.ops [i_ 22 (.mv (T 4)),
 i_ 23 (.ib .add (T 22) (KI 1)),
 i_ 4 (.mv (T 23))]))))))
 (.seq
 (.seq
 (.ops [i_ 10 (.mv (KI 0))])
 (.block 4
 (.loop [(86, 97), (97, 108), (11, 12), (10, 11)]
 (.seq
 (.seq
 (.ops [i_ 86 (.mv (T 10)),
 i_ 87 (.faddr 1 (T 1)),
 i_ 88 (.ld1 (T 87)),
 i_ 89 (.lenV (T 88)),
 i_ 90 (.ib .lss (T 86) (T 89)),
 i_ 91 (.mv (T 90)),
 ig 92 91 true (.mv (T 10)),
 ig 93 91 true (.ib .lss (T 92) (KI 5)),
 i_ 94 (.pick (T 91) (T 93) (KB false))])
 (.cond (T 94)
 .skip
 (.exit 4)))
 (.seq
 (.block 5
 (.seq
 (.ops [i_ 97 (.faddr 1 (T 3)),
 i_ 98 (.ld1 (T 97)),
 i_ 11 (.mv (T 98))])
 (.ops [i_ 99 (.mv (T 11)),
 i_ 100 (.faddr 1 (T 1)),
 i_ 101 (.ld1 (T 100)),
 i_ 102 (.mv (T 10)),
 i_ 103 (.iaddr 4 (T 101) (T 102)),
 i_ 104 (.ldN 4 (T 103)),
 i_ 105 (.bslice 78 [(.string ⟨⟨[]⟩⟩), (.string ⟨⟨[]⟩⟩), (.string ⟨⟨[]⟩⟩), (.string ⟨⟨[]⟩⟩)] 1 4 [(0, (4, (T 104)))]),
 i_ 106 (.append 78 4 64 (T 99) (T 105)),
 i_ 107 (.faddr 1 (T 3)),
 n_ (.st 1 (T 107) (T 106))])))
 (.ops [i_ 95 (.mv (T 10)),
 i_ 96 (.ib .add (T 95) (KI 1)),
 i_ 10 (.mv (T 96))]))))))
 (.seq
 (.ops [i_ 108 (.ldN 2 (T 3)),
 n_ (.st 2 (T 2) (T 108))])
 .ret)))))
def m20 : MF := ⟨109, [(.cell 2 2)], c20⟩
theorem r20 : resF Tryz.prog Tryz.f20 = some m20 := by kernel_rfl
def c21 : MC :=
 (.seq
 (.ops [i_ 1 (.box 33 (T 0)),
 i_ 2 (.mv (.const (.slice none 0 0))),
 i_ 3 (.mv (KI 0))])
 (.seq
 (.seq
 (.ops [i_ 15 (.ldN 2 (T 1)),
 i_ 16 (.call 31 [(T 15)]),
 i_ 17 (.not (T 16))])
 (.cond (T 17)
 (.seq
 (.ops [i_ 2 (.mv (.const (.slice none 0 0))),
 i_ 3 (.mv (KI 4))])
 .ret)
 .skip))
 (.seq
 (.seq
 (.ops [i_ 18 (.ldN 2 (T 1)),
 i_ 19 (.call 32 [(T 18)])])
 (.cond (T 19)
 (.seq
 (.ops [i_ 2 (.mv (.const (.slice none 0 0))),
 i_ 3 (.mv (KI 10))])
 .ret)
 .skip))
 (.seq
 (.ops [i_ 21 (.ldN 2 (T 1)),
 i_ 22 (.call 33 [(T 21)]),
 i_ 20 (.mv (T 22)),
 i_ 23 (.ext (T 20) 0),
 i_ 24 (.ext (T 20) 1),
 i_ 4 (.mv (T 23)),
 i_ 5 (.mv (T 24))])
 (.seq
 (.seq
 (.ops [i_ 25 (.mv (T 5)),
 i_ 26 (.not (T 25))])
 (.cond (T 26)
 (.seq
 (.ops [i_ 2 (.mv (.const (.slice none 0 0))),
 i_ 3 (.mv (KI 14))])
 .ret)
 .skip))
 (.seq
 (.ops [i_ 27 (.ldN 2 (T 1)),
 i_ 28 (.call 34 [(T 27)]),
 i_ 29 (.lenV (T 28)),
 i_ 6 (.mv (T 29))])
 (.seq
 (.ops [i_ 30 (.mv (T 4)),
 i_ 31 (.mv (T 6)),
 i_ 32 (.mv (T 6)),
 i_ 33 (.ib .add (T 32) (KI 1)),
 i_ 34 (.call 35 [(T 30), (T 31), (T 33)]),
 i_ 7 (.mv (T 34))])
 (.seq
 (.ops [i_ 35 (.mv (T 4)),
 i_ 36 (.mv (T 6)),
 i_ 37 (.mv (T 6)),
 i_ 38 (.ib .add (T 37) (KI 1)),
 i_ 39 (.mv (T 6)),
 i_ 40 (.ib .add (T 39) (KI 1)),
 i_ 41 (.ib .mul (T 38) (T 40)),
 i_ 42 (.call 35 [(T 35), (T 36), (T 41)]),
 i_ 8 (.mv (T 42))])
 (.seq
 (.seq
 (.ops [i_ 9 (.mv (KI 0))])
 (.block 0
 (.loop [(43, 48), (48, 65), (2, 4), (9, 10)]
 (.seq
 (.seq
 (.ops [i_ 43 (.mv (T 9)),
 i_ 44 (.mv (T 6)),
 i_ 45 (.ib .lss (T 43) (T 44))])
 (.cond (T 45)
 .skip
 (.exit 0)))
 (.seq
 (.block 1
 (.seq
 (.dops <|
 .op 0 (i_ 48 (.mv (T 7))) <|
 .op 1 (i_ 49 (.mv (T 9))) <|
 .op 2 (i_ 50 (.iaddr 1 (T 48) (T 49))) <|
 .op 3 (i_ 51 (.ld1 (T 50))) <|
 .op 4 (i_ 52 (.mv (T 8))) <|
 .op 5 (i_ 53 (.mv (T 9))) <|
 .op 6 (i_ 54 (.iaddr 1 (T 52) (T 53))) <|
 .op 7 (i_ 55 (.ld1 (T 54))) <|
 .op 8 (i_ 56 (.ib .neq (T 51) (T 55))) <|
 .op 9 (i_ 57 (.mv (T 56))) <|
 .op 10 (ig 58 57 false (.mv (T 7))) <|
 .op 11 (ig 59 57 false (.mv (T 9))) <|
 .op 12 (ig 60 57 false (.iaddr 1 (T 58) (T 59))) <|
 .op 13 (ig 61 57 false (.ld1 (T 60))) <|
 .op 14 (ig 62 57 false (.mv (T 6))) <|
 .op 15 (ig 63 57 false (.ib .geq (T 61) (T 62))) <|
 .op 16 (i_ 64 (.pick (T 57) (KB true) (T 63))) <|
 .nil)
 (.cond (T 64)
 (.seq
 (.ops [i_ 2 (.mv (.const (.slice none 0 0))),
 i_ 3 (.mv (KI 15))])
 .ret)
 .skip)))
 (.ops [i_ 46 (.mv (T 9)),
 i_ 47 (.ib .add (T 46) (KI 1)),
 i_ 9 (.mv (T 47))]))))))
 (.seq
 (.ops [i_ 10 (.mv (.const (.slice none 0 0)))])
 (.seq
 (.ops [i_ 11 (.mv (KI 0))])
 (.seq
 (.seq
 (.ops [i_ 12 (.mv (KI 0))])
 (.block 2
 (.loop [(65, 72), (13, 15), (72, 83), (83, 96), (11, 13), (10, 11)]
 (.seq
 (.seq
 (.ops [i_ 65 (.mv (T 12)),
 i_ 66 (.faddr 0 (T 1)),
 i_ 67 (.ld1 (T 66)),
 i_ 68 (.lenV (T 67)),
 i_ 69 (.ib .lss (T 65) (T 68))])
 (.cond (T 69)
 .skip
 (.exit 2)))
 (.seq
 (.block 3
 (.seq
 (.ops [i_ 13 (.mv (.const (.slice none 0 0)))])
 (.seq
 (.seq
 (.ops [i_ 14 (.mv (KI 0))])
 (.block 4
 (.loop [(72, 83), (83, 92), (13, 15), (11, 12)]
 (.seq
 (.seq
 (.ops [i_ 72 (.mv (T 14)),
 i_ 73 (.faddr 0 (T 1)),
 i_ 74 (.ld1 (T 73)),
 i_ 75 (.mv (T 12)),
 i_ 76 (.iaddr 2 (T 74) (T 75)),
 i_ 77 (.faddr 1 (T 76)),
 i_ 78 (.ld1 (T 77)),
 i_ 79 (.lenV (T 78)),
 i_ 80 (.ib .lss (T 72) (T 79))])
 (.cond (T 80)
 .skip
 (.exit 4)))
 (.seq
 (.block 5
 (.seq
 (.ops [i_ 83 (.mv (T 13)),
 i_ 84 (.mv (T 7)),
 i_ 85 (.mv (T 11)),
 i_ 86 (.iaddr 1 (T 84) (T 85)),
 i_ 87 (.ld1 (T 86)),
 i_ 88 (.bslice 3 [(.int .i64 0)] 1 1 [(0, (1, (T 87)))]),
 i_ 89 (.append 3 1 8 (T 83) (T 88)),
 i_ 13 (.mv (T 89))])
 (.ops [i_ 90 (.mv (T 11)),
 i_ 91 (.ib .add (T 90) (KI 1)),
 i_ 11 (.mv (T 91))])))
 (.ops [i_ 81 (.mv (T 14)),
 i_ 82 (.ib .add (T 81) (KI 1)),
 i_ 14 (.mv (T 82))]))))))
 (.ops [i_ 92 (.mv (T 10)),
 i_ 93 (.mv (T 13)),
 i_ 94 (.bslice 91 [(.slice none 0 0)] 1 1 [(0, (1, (T 93)))]),
 i_ 95 (.append 91 1 24 (T 92) (T 94)),
 i_ 10 (.mv (T 95))]))))
 (.ops [i_ 70 (.mv (T 12)),
 i_ 71 (.ib .add (T 70) (KI 1)),
 i_ 12 (.mv (T 71))]))))))
 (.seq
 (.ops [i_ 96 (.mv (T 10)),
 i_ 2 (.mv (T 96)),
 i_ 3 (.mv (KI 0))])
 .ret)))))))))))))
def m21 : MF := ⟨97, [(.tmp 2), (.tmp 3)], c21⟩
theorem r21 : resF Tryz.prog Tryz.f21 = some m21 := by kernel_rfl
def c22 : MC :=
 (.seq
 (.ops [i_ 0 (.alloc 33 [(.slice none 0 0), (.slice none 0 0)])])
 (.seq
 (.ops [i_ 4 (.call 36 [(KS [110, 97, 109, 101, 115, 112, 97, 99, 101, 32, 100, 32, 123, 32, 114, 101, 108, 97, 116, 105, 111, 110, 32, 97, 58, 32, 117, 115, 101, 114, 59, 32, 125])]),
 i_ 3 (.mv (T 4)),
 i_ 5 (.ext (T 3) 0),
 i_ 6 (.ext (T 3) 1),
 i_ 1 (.alloc 33 [(.slice none 0 0), (.slice none 0 0)]),
 n_ (.st 2 (T 1) (T 5)),
 i_ 2 (.mv (T 6))])
 (.seq
 (.ops [i_ 7 (.ldN 2 (T 1)),
 n_ (.st 2 (T 0) (T 7))])
 .ret)))
def m22 : MF := ⟨8, [(.cell 0 2)], c22⟩
theorem r22 : resF Tryz.prog Tryz.f22 = some m22 := by kernel_rfl
def c23 : MC :=
 (.seq
 (.ops [i_ 1 (.box 33 (T 0)),
 i_ 2 (.alloc 33 [(.slice none 0 0), (.slice none 0 0)])])
 (.seq
 (.ops [i_ 3 (.alloc 33 [(.slice none 0 0), (.slice none 0 0)])])
 (.seq
 (.seq
 (.ops [i_ 9 (.faddr 0 (T 1)),
 i_ 10 (.ld1 (T 9)),
 i_ 11 (.lenV (T 10)),
 i_ 12 (.mv (KI 0))])
 (.block 0
 (.loop [(13, 33), (5, 7), (8, 9), (33, 48), (12, 13)]
 (.seq
 (.ops [i_ 13 (.ib .lss (T 12) (T 11))])
 (.seq
 (.cond (T 13)
 .skip
 (.exit 0))
 (.seq
 (.block 1
 (.seq
 (.ops [i_ 14 (.iaddr 2 (T 10) (T 12)),
 i_ 15 (.ldN 2 (T 14)),
 i_ 5 (.alloc 69 [(.string ⟨⟨[]⟩⟩), (.slice none 0 0)]),
 n_ (.st 2 (T 5) (T 15))])
 (.seq
 (.ops [i_ 16 (.faddr 0 (T 5)),
 i_ 17 (.ld1 (T 16)),
 i_ 18 (.build [(.string ⟨⟨[]⟩⟩), (.slice none 0 0)] [(0, (1, (T 17)))]),
 i_ 6 (.alloc 69 [(.string ⟨⟨[]⟩⟩), (.slice none 0 0)]),
 n_ (.st 2 (T 6) (T 18))])
 (.seq
 (.seq
 (.ops [i_ 19 (.faddr 1 (T 5)),
 i_ 20 (.ld1 (T 19)),
 i_ 21 (.lenV (T 20)),
 i_ 22 (.mv (KI 0))])
 (.block 2
 (.loop [(23, 33), (8, 9), (33, 41), (22, 23)]
 (.seq
 (.ops [i_ 23 (.ib .lss (T 22) (T 21))])
 (.seq
 (.cond (T 23)
 .skip
 (.exit 2))
 (.seq
 (.block 3
 (.seq
 (.ops [i_ 24 (.iaddr 3 (T 20) (T 22)),
 i_ 25 (.ldN 3 (T 24)),
 i_ 8 (.alloc 74 [(.string ⟨⟨[]⟩⟩), (.slice none 0 0), (.slice none 0 0)]),
 n_ (.st 3 (T 8) (T 25))])
 (.dops <|
 .op 0 (i_ 26 (.faddr 1 (T 6))) <|
 .op 1 (i_ 27 (.ld1 (T 26))) <|
 .op 2 (i_ 28 (.faddr 0 (T 8))) <|
 .op 3 (i_ 29 (.ld1 (T 28))) <|
 .op 4 (i_ 30 (.faddr 1 (T 8))) <|
 .op 5 (i_ 31 (.ld1 (T 30))) <|
 .op 7 (i_ 33 (.faddr 2 (T 8))) <|
 .op 8 (i_ 34 (.ld1 (T 33))) <|
 .op 6 (id_ 32 (.call 37 [(T 31)]) [5]) <|
 .op 9 (id_ 35 (.call 38 [(T 34)]) [5, 8]) <|
 .op 10 (i_ 36 (.build [(.string ⟨⟨[]⟩⟩), (.slice none 0 0), (.slice none 0 0)] [(0, (1, (T 29))), (1, (1, (T 32))), (2, (1, (T 35)))])) <|
 .op 11 (id_ 37 (.bslice 74 [(.string ⟨⟨[]⟩⟩), (.slice none 0 0), (.slice none 0 0)] 1 3 [(0, (3, (T 36)))]) [3, 5, 8]) <|
 .op 12 (id_ 38 (.append 74 3 64 (T 27) (T 37)) [8, 5, 3, 1]) <|
 .op 13 (i_ 39 (.faddr 1 (T 6))) <|
 .op 14 (nd_ (.st 1 (T 39) (T 38)) [1, 3, 5, 8]) <|
 .nil)))
 (.ops [i_ 40 (.ib .add (T 22) (KI 1)),
 i_ 22 (.mv (T 40))])))))))
 (.ops [i_ 41 (.faddr 0 (T 3)),
 i_ 42 (.ld1 (T 41)),
 i_ 43 (.ldN 2 (T 6)),
 i_ 44 (.bslice 69 [(.string ⟨⟨[]⟩⟩), (.slice none 0 0)] 1 2 [(0, (2, (T 43)))]),
 i_ 45 (.append 69 2 40 (T 42) (T 44)),
 i_ 46 (.faddr 0 (T 3)),
 n_ (.st 1 (T 46) (T 45))])))))
 (.ops [i_ 47 (.ib .add (T 12) (KI 1)),
 i_ 12 (.mv (T 47))])))))))
 (.seq
 (.ops [i_ 48 (.faddr 1 (T 1)),
 i_ 49 (.ld1 (T 48)),
 i_ 50 (.call 39 [(T 49)]),
 i_ 51 (.faddr 1 (T 3)),
 n_ (.st 1 (T 51) (T 50))])
 (.seq
 (.ops [i_ 52 (.ldN 2 (T 3)),
 n_ (.st 2 (T 2) (T 52))])
 .ret)))))
def m23 : MF := ⟨53, [(.cell 2 2)], c23⟩
theorem r23 : resF Tryz.prog Tryz.f23 = some m23 := by kernel_rfl
def c24 : MC :=
 (.seq
 (.ops [i_ 4 (.mv (KI 0))])
 (.seq
 (.seq
 (.ops [i_ 8 (.mv (T 0)),
 i_ 9 (.call 18 [(T 8)]),
 i_ 10 (.not (T 9))])
 (.cond (T 10)
 (.seq
 (.ops [i_ 4 (.mv (KI (-1)))])
 .ret)
 .skip))
 (.seq
 (.ops [i_ 5 (.mv (KI (-1)))])
 (.seq
 (.seq
 (.ops [i_ 11 (.mv (T 0)),
 i_ 12 (.nilck (T 11)),
 i_ 13 (.faddr 1 (T 12)),
 i_ 14 (.ld1 (T 13)),
 i_ 15 (.lenV (T 14)),
 i_ 16 (.mv (KI 0))])
 (.block 0
 (.loop [(17, 28), (7, 8), (6, 7), (5, 6), (16, 17)]
 (.seq
 (.ops [i_ 17 (.ib .lss (T 16) (T 15))])
 (.seq
 (.cond (T 17)
 .skip
 (.exit 0))
 (.seq
 (.block 1
 (.seq
 (.ops [i_ 18 (.mv (T 16)),
 i_ 19 (.iaddr 4 (T 14) (T 16)),
 i_ 20 (.ldN 4 (T 19)),
 i_ 7 (.alloc 66 [(.int .u64 0), (.slice none 0 0), (.slice none 0 0), (.slice none 0 0)]),
 i_ 6 (.mv (T 18)),
 n_ (.st 4 (T 7) (T 20))])
 (.seq
 (.ops [i_ 21 (.faddr 0 (T 7)),
 i_ 22 (.faddr 0 (T 21)),
 i_ 23 (.ld1 (T 22)),
 i_ 24 (.mv (T 1)),
 i_ 25 (.ib .leq (T 23) (T 24))])
 (.cond (T 25)
 (.ops [i_ 26 (.mv (T 6)),
 i_ 5 (.mv (T 26))])
 .skip))))
 (.ops [i_ 27 (.ib .add (T 16) (KI 1)),
 i_ 16 (.mv (T 27))])))))))
 (.seq
 (.ops [i_ 28 (.mv (T 5)),
 i_ 4 (.mv (T 28))])
 .ret)))))
def m24 : MF := ⟨29, [(.tmp 4)], c24⟩
theorem r24 : resF Tryz.prog Tryz.f24 = some m24 := by kernel_rfl
theorem k24 : Callable Tryz.prog 24 := ⟨_, Tryz.func24, by kernel_rfl, by kernel_rfl⟩

def c25 : MC :=
 (.seq
 (.ops [i_ 2 (.box 74 (T 0)),
 i_ 3 (.box 74 (T 1)),
 i_ 4 (.mv (KB false))])
 (.seq
 (.seq
 (.ops [i_ 7 (.faddr 0 (T 2)),
 i_ 8 (.ld1 (T 7)),
 i_ 9 (.faddr 0 (T 3)),
 i_ 10 (.ld1 (T 9)),
 i_ 11 (.sb .neq (T 8) (T 10)),
 i_ 12 (.mv (T 11)),
 ig 13 12 false (.faddr 1 (T 2)),
 ig 14 12 false (.ld1 (T 13)),
 ig 15 12 false (.lenV (T 14)),
 ig 16 12 false (.faddr 1 (T 3)),
 ig 17 12 false (.ld1 (T 16)),
 ig 18 12 false (.lenV (T 17)),
 ig 19 12 false (.ib .neq (T 15) (T 18)),
 i_ 20 (.pick (T 12) (KB true) (T 19)),
 i_ 21 (.mv (T 20)),
 ig 22 21 false (.faddr 2 (T 2)),
 ig 23 21 false (.ld1 (T 22)),
 ig 24 21 false (.lenV (T 23)),
 ig 25 21 false (.faddr 2 (T 3)),
 ig 26 21 false (.ld1 (T 25)),
 ig 27 21 false (.lenV (T 26)),
 ig 28 21 false (.ib .neq (T 24) (T 27)),
 i_ 29 (.pick (T 21) (KB true) (T 28))])
 (.cond (T 29)
 (.seq
 (.ops [i_ 4 (.mv (KB false))])
 .ret)
 .skip))
 (.seq
 (.seq
 (.ops [i_ 5 (.mv (KI 0))])
 (.block 0
 (.loop [(30, 37), (37, 48), (4, 6)]
 (.seq
 (.seq
 (.ops [i_ 30 (.mv (T 5)),
 i_ 31 (.faddr 1 (T 2)),
 i_ 32 (.ld1 (T 31)),
 i_ 33 (.lenV (T 32)),
 i_ 34 (.ib .lss (T 30) (T 33))])
 (.cond (T 34)
 .skip
 (.exit 0)))
 (.seq
 (.block 1
 (.seq
 (.dops <|
 .op 0 (i_ 37 (.faddr 1 (T 2))) <|
 .op 1 (i_ 38 (.ld1 (T 37))) <|
 .op 2 (i_ 39 (.mv (T 5))) <|
 .op 3 (i_ 40 (.iaddr 2 (T 38) (T 39))) <|
 .op 4 (i_ 41 (.ldN 2 (T 40))) <|
 .op 5 (i_ 42 (.faddr 1 (T 3))) <|
 .op 6 (i_ 43 (.ld1 (T 42))) <|
 .op 7 (i_ 44 (.mv (T 5))) <|
 .op 8 (i_ 45 (.iaddr 2 (T 43) (T 44))) <|
 .op 9 (i_ 46 (.ldN 2 (T 45))) <|
 .op 10 (i_ 47 (.eqA true 97 [97] [2, 2] (T 41) (T 46))) <|
 .nil)
 (.cond (T 47)
 (.seq
 (.ops [i_ 4 (.mv (KB false))])
 .ret)
 .skip)))
 (.ops [i_ 35 (.mv (T 5)),
 i_ 36 (.ib .add (T 35) (KI 1)),
 i_ 5 (.mv (T 36))]))))))
 (.seq
 (.seq
 (.ops [i_ 6 (.mv (KI 0))])
 (.block 2
 (.loop [(48, 55), (55, 66), (4, 5), (6, 7)]
 (.seq
 (.seq
 (.ops [i_ 48 (.mv (T 6)),
 i_ 49 (.faddr 2 (T 2)),
 i_ 50 (.ld1 (T 49)),
 i_ 51 (.lenV (T 50)),
 i_ 52 (.ib .lss (T 48) (T 51))])
 (.cond (T 52)
 .skip
 (.exit 2)))
 (.seq
 (.block 3
 (.seq
 (.dops <|
 .op 0 (i_ 55 (.faddr 2 (T 2))) <|
 .op 1 (i_ 56 (.ld1 (T 55))) <|
 .op 2 (i_ 57 (.mv (T 6))) <|
 .op 3 (i_ 58 (.iaddr 5 (T 56) (T 57))) <|
 .op 4 (i_ 59 (.ldN 5 (T 58))) <|
 .op 5 (i_ 60 (.faddr 2 (T 3))) <|
 .op 6 (i_ 61 (.ld1 (T 60))) <|
 .op 7 (i_ 62 (.mv (T 6))) <|
 .op 8 (i_ 63 (.iaddr 5 (T 61) (T 62))) <|
 .op 9 (i_ 64 (.ldN 5 (T 63))) <|
 .op 10 (i_ 65 (.eqA true 100 [100] [1, 2, 2, 1, 1] (T 59) (T 64))) <|
 .nil)
 (.cond (T 65)
 (.seq
 (.ops [i_ 4 (.mv (KB false))])
 .ret)
 .skip)))
 (.ops [i_ 53 (.mv (T 6)),
 i_ 54 (.ib .add (T 53) (KI 1)),
 i_ 6 (.mv (T 54))]))))))
 (.seq
 (.ops [i_ 4 (.mv (KB true))])
 .ret)))))
def m25 : MF := ⟨66, [(.tmp 4)], c25⟩
theorem r25 : resF Tryz.prog Tryz.f25 = some m25 := by kernel_rfl
def c26 : MC :=
 (.seq
 (.ops [i_ 1 (.box 33 (T 0)),
 i_ 2 (.mv (.const (.slice none 0 0))),
 i_ 3 (.mv (KI 0))])
 (.seq
 (.seq
 (.ops [i_ 8 (.ldN 2 (T 1)),
 i_ 9 (.call 40 [(T 8)]),
 i_ 10 (.not (T 9))])
 (.cond (T 10)
 (.seq
 (.ops [i_ 2 (.mv (.const (.slice none 0 0))),
 i_ 3 (.mv (KI 4))])
 .ret)
 .skip))
 (.seq
 (.ops [i_ 12 (.ldN 2 (T 1)),
 i_ 13 (.call 41 [(T 12)]),
 i_ 11 (.mv (T 13)),
 i_ 14 (.ext (T 11) 0),
 i_ 15 (.ext (T 11) 1),
 i_ 4 (.mv (T 14)),
 i_ 5 (.mv (T 15))])
 (.seq
 (.seq
 (.ops [i_ 16 (.mv (T 5)),
 i_ 17 (.not (T 16))])
 (.cond (T 17)
 (.seq
 (.ops [i_ 2 (.mv (.const (.slice none 0 0))),
 i_ 3 (.mv (KI 10))])
 .ret)
 .skip))
 (.seq
 (.ops [i_ 19 (.mv (T 4)),
 i_ 20 (.call 42 [(T 19)]),
 i_ 18 (.mv (T 20)),
 i_ 21 (.ext (T 18) 0),
 i_ 22 (.ext (T 18) 1),
 i_ 6 (.mv (T 21)),
 i_ 5 (.mv (T 22))])
 (.seq
 (.seq
 (.ops [i_ 23 (.mv (T 5)),
 i_ 24 (.not (T 23))])
 (.cond (T 24)
 (.seq
 (.ops [i_ 2 (.mv (.const (.slice none 0 0))),
 i_ 3 (.mv (KI 14))])
 .ret)
 .skip))
 (.seq
 (.ops [i_ 26 (.mv (T 4)),
 i_ 27 (.mv (T 6)),
 i_ 28 (.call 43 [(T 26), (T 27)]),
 i_ 25 (.mv (T 28)),
 i_ 29 (.ext (T 25) 0),
 i_ 30 (.ext (T 25) 1),
 i_ 7 (.mv (T 29)),
 i_ 5 (.mv (T 30))])
 (.seq
 (.seq
 (.ops [i_ 31 (.mv (T 5)),
 i_ 32 (.not (T 31))])
 (.cond (T 32)
 (.seq
 (.ops [i_ 2 (.mv (.const (.slice none 0 0))),
 i_ 3 (.mv (KI 15))])
 .ret)
 .skip))
 (.seq
 (.ops [i_ 33 (.mv (T 7)),
 i_ 2 (.mv (T 33)),
 i_ 3 (.mv (KI 0))])
 .ret)))))))))
def m26 : MF := ⟨34, [(.tmp 2), (.tmp 3)], c26⟩
theorem r26 : resF Tryz.prog Tryz.f26 = some m26 := by kernel_rfl
def c27 : MC :=
 (.seq
 (.ops [i_ 2 (.mv (.const (.slice none 0 0)))])
 (.seq
 (.seq
 (.ops [i_ 3 (.mv (T 0)),
 i_ 4 (.raw ⟨(some 4), (.binOp .eql 61 (T 3) (.const (.slice none 0 0)) 61), 4, "slices.go:357", ⟨[⟨0, .data⟩]⟩, none⟩)])
 (.cond (T 4)
 (.seq
 (.ops [i_ 2 (.mv (.const (.slice none 0 0)))])
 .ret)
 .skip))
 (.seq
 (.ops [i_ 5 (.raw ⟨(some 5), (.buildSlice 61 0 ⟨[]⟩), 61, "slices.go:362", ⟨[]⟩, none⟩),
 i_ 6 (.mv (T 0)),
 i_ 7 (.append 66 4 80 (T 5) (T 6)),
 i_ 2 (.mv (T 7))])
 .ret)))
def m27 : MF := ⟨8, [(.tmp 2)], c27⟩
theorem r27 : resF Tryz.prog Tryz.f27 = some m27 := by kernel_rfl
theorem k27 : Callable Tryz.prog 27 := ⟨_, Tryz.func27, by kernel_rfl, by kernel_rfl⟩

def c28 : MC :=
 (.seq
 (.ops [i_ 4 (.mv (KB false))])
 (.seq
 (.seq
 (.ops [i_ 7 (.mv (T 0)),
 i_ 8 (.lenV (T 7)),
 i_ 9 (.mv (T 1)),
 i_ 10 (.lenV (T 9)),
 i_ 11 (.ib .neq (T 8) (T 10))])
 (.cond (T 11)
 (.seq
 (.ops [i_ 4 (.mv (KB false))])
 .ret)
 .skip))
 (.seq
 (.seq
 (.ops [i_ 5 (.mv (KI 0))])
 (.block 0
 (.loop [(12, 18), (18, 38), (4, 6), (6, 7), (38, 53)]
 (.seq
 (.seq
 (.ops [i_ 12 (.mv (T 5)),
 i_ 13 (.mv (T 0)),
 i_ 14 (.lenV (T 13)),
 i_ 15 (.ib .lss (T 12) (T 14))])
 (.cond (T 15)
 .skip
 (.exit 0)))
 (.seq
 (.block 1
 (.seq
 (.seq
 (.dops <|
 .op 0 (i_ 18 (.mv (T 0))) <|
 .op 1 (i_ 19 (.mv (T 5))) <|
 .op 2 (i_ 20 (.iaddr 1 (T 18) (T 19))) <|
 .op 3 (i_ 21 (.ld1 (T 20))) <|
 .op 4 (i_ 22 (.lenV (T 21))) <|
 .op 5 (i_ 23 (.mv (T 1))) <|
 .op 6 (i_ 24 (.mv (T 5))) <|
 .op 7 (i_ 25 (.iaddr 1 (T 23) (T 24))) <|
 .op 8 (i_ 26 (.ld1 (T 25))) <|
 .op 9 (i_ 27 (.lenV (T 26))) <|
 .op 10 (i_ 28 (.ib .neq (T 22) (T 27))) <|
 .nil)
 (.cond (T 28)
 (.seq
 (.ops [i_ 4 (.mv (KB false))])
 .ret)
 .skip))
 (.seq
 (.ops [i_ 6 (.mv (KI 0))])
 (.block 2
 (.loop [(29, 38), (38, 53), (4, 5), (6, 7)]
 (.seq
 (.seq
 (.ops [i_ 29 (.mv (T 6)),
 i_ 30 (.mv (T 0)),
 i_ 31 (.mv (T 5)),
 i_ 32 (.iaddr 1 (T 30) (T 31)),
 i_ 33 (.ld1 (T 32)),
 i_ 34 (.lenV (T 33)),
 i_ 35 (.ib .lss (T 29) (T 34))])
 (.cond (T 35)
 .skip
 (.exit 2)))
 (.seq
 (.block 3
 (.seq
 (.dops <|
 .op 0 (i_ 38 (.mv (T 0))) <|
 .op 1 (i_ 39 (.mv (T 5))) <|
 .op 2 (i_ 40 (.iaddr 1 (T 38) (T 39))) <|
 .op 3 (i_ 41 (.ld1 (T 40))) <|
 .op 4 (i_ 42 (.mv (T 6))) <|
 .op 5 (i_ 43 (.iaddr 1 (T 41) (T 42))) <|
 .op 6 (i_ 44 (.ld1 (T 43))) <|
 .op 7 (i_ 45 (.mv (T 1))) <|
 .op 8 (i_ 46 (.mv (T 5))) <|
 .op 9 (i_ 47 (.iaddr 1 (T 45) (T 46))) <|
 .op 10 (i_ 48 (.ld1 (T 47))) <|
 .op 11 (i_ 49 (.mv (T 6))) <|
 .op 12 (i_ 50 (.iaddr 1 (T 48) (T 49))) <|
 .op 13 (i_ 51 (.ld1 (T 50))) <|
 .op 14 (i_ 52 (.ib .neq (T 44) (T 51))) <|
 .nil)
 (.cond (T 52)
 (.seq
 (.ops [i_ 4 (.mv (KB false))])
 .ret)
 .skip)))
 (.ops [i_ 36 (.mv (T 6)),
 i_ 37 (.ib .add (T 36) (KI 1)),
 i_ 6 (.mv (T 37))]))))))))
 (.ops [i_ 16 (.mv (T 5)),
 i_ 17 (.ib .add (T 16) (KI 1)),
 i_ 5 (.mv (T 17))]))))))
 (.seq
 (.ops [i_ 4 (.mv (KB true))])
 .ret))))
def m28 : MF := ⟨53, [(.tmp 4)], c28⟩
theorem r28 : resF Tryz.prog Tryz.f28 = some m28 := by kernel_rfl
def c29 : MC :=
 (.seq
 (.ops [i_ 4 (.mv (.const (.slice none 0 0)))])
 (.seq
 (.ops [i_ 9 (.mv (T 0)),
 i_ 10 (.mv (T 1)),
 i_ 11 (.call 24 [(T 9), (T 10)]),
 i_ 5 (.mv (T 11))])
 (.seq
 (.seq
 (.ops [i_ 12 (.mv (T 5)),
 i_ 13 (.ib .lss (T 12) (KI 0))])
 (.cond (T 13)
 (.seq
 (.ops [i_ 4 (.mv (.const (.slice none 0 0)))])
 .ret)
 .skip))
 (.seq
 (.ops [i_ 6 (.mv (.const (.slice none 0 0)))])
 (.seq
 (.seq
 (.ops [i_ 14 (.mv (T 0)),
 i_ 15 (.nilck (T 14)),
 i_ 16 (.faddr 1 (T 15)),
 i_ 17 (.ld1 (T 16)),
 i_ 18 (.mv (T 5)),
 i_ 19 (.iaddr 4 (T 17) (T 18)),
 i_ 20 (.faddr 3 (T 19)),
 i_ 21 (.ld1 (T 20)),
 i_ 22 (.lenV (T 21)),
 i_ 23 (.mv (KI 0))])
 (.block 0
 (.loop [(24, 33), (8, 9), (6, 7), (23, 24)]
 (.seq
 (.ops [i_ 24 (.ib .lss (T 23) (T 22))])
 (.seq
 (.cond (T 24)
 .skip
 (.exit 0))
 (.seq
 (.block 1
 (.seq
 (.ops [i_ 25 (.iaddr 1 (T 21) (T 23)),
 i_ 26 (.ld1 (T 25)),
 i_ 8 (.mv (T 26))])
 (.ops [i_ 27 (.mv (T 6)),
 i_ 28 (.mv (T 8)),
 i_ 29 (.call 44 [(T 28)]),
 i_ 30 (.bslice 91 [(.slice none 0 0)] 1 1 [(0, (1, (T 29)))]),
 i_ 31 (.append 91 1 24 (T 27) (T 30)),
 i_ 6 (.mv (T 31))])))
 (.ops [i_ 32 (.ib .add (T 23) (KI 1)),
 i_ 23 (.mv (T 32))])))))))
 (.seq
 (.ops [i_ 33 (.mv (T 6)),
 i_ 4 (.mv (T 33))])
 .ret))))))
def m29 : MF := ⟨34, [(.tmp 4)], c29⟩
theorem r29 : resF Tryz.prog Tryz.f29 = some m29 := by kernel_rfl
theorem k29 : Callable Tryz.prog 29 := ⟨_, Tryz.func29, by kernel_rfl, by kernel_rfl⟩

def c30 : MC :=
 (.seq
 (.ops [i_ 4 (.mv (KS []))])
 (.seq
 (.seq
 (.ops [i_ 5 (.mv (T 0)),
 i_ 6 (.lenS (T 5)),
 i_ 7 (.mv (T 1)),
 i_ 8 (.ib .gtr (T 6) (T 7))])
 (.cond (T 8)
 (.seq
 (.ops [i_ 9 (.mv (T 0)),
 i_ 10 (.mv (T 1)),
 i_ 11 (.slS (T 9) none (some (T 10))),
 i_ 4 (.mv (T 11))])
 .ret)
 .skip))
 (.seq
 (.ops [i_ 12 (.mv (T 0)),
 i_ 4 (.mv (T 12))])
 .ret)))
def m30 : MF := ⟨13, [(.tmp 4)], c30⟩
theorem r30 : resF Tryz.prog Tryz.f30 = some m30 := by kernel_rfl
def c31 : MC :=
 (.seq
 (.ops [i_ 1 (.box 33 (T 0)),
 i_ 2 (.mv (KB false))])
 (.seq
 (.seq
 (.ops [i_ 3 (.mv (KI 0))])
 (.block 0
 (.loop [(11, 18), (18, 34), (4, 9), (2, 4), (34, 56), (56, 80)]
 (.seq
 (.seq
 (.ops [i_ 11 (.mv (T 3)),
 i_ 12 (.faddr 0 (T 1)),
 i_ 13 (.ld1 (T 12)),
 i_ 14 (.lenV (T 13)),
 i_ 15 (.ib .lss (T 11) (T 14))])
 (.cond (T 15)
 .skip
 (.exit 0)))
 (.seq
 (.block 1
 (.seq
 (.ops [i_ 18 (.faddr 0 (T 1)),
 i_ 19 (.ld1 (T 18)),
 i_ 20 (.mv (T 3)),
 i_ 21 (.iaddr 2 (T 19) (T 20)),
 i_ 22 (.ldN 2 (T 21)),
 i_ 4 (.alloc 69 [(.string ⟨⟨[]⟩⟩), (.slice none 0 0)]),
 n_ (.st 2 (T 4) (T 22))])
 (.seq
 (.seq
 (.ops [i_ 23 (.faddr 0 (T 4)),
 i_ 24 (.ld1 (T 23)),
 i_ 25 (.call 45 [(T 24)]),
 i_ 26 (.not (T 25))])
 (.cond (T 26)
 (.seq
 (.ops [i_ 2 (.mv (KB false))])
 .ret)
 .skip))
 (.seq
 (.ops [i_ 5 (.mv (KI 0))])
 (.block 2
 (.loop [(27, 34), (34, 56), (6, 9), (2, 3), (56, 80), (5, 6)]
 (.seq
 (.seq
 (.ops [i_ 27 (.mv (T 5)),
 i_ 28 (.faddr 1 (T 4)),
 i_ 29 (.ld1 (T 28)),
 i_ 30 (.lenV (T 29)),
 i_ 31 (.ib .lss (T 27) (T 30))])
 (.cond (T 31)
 .skip
 (.exit 2)))
 (.seq
 (.block 3
 (.seq
 (.ops [i_ 34 (.faddr 1 (T 4)),
 i_ 35 (.ld1 (T 34)),
 i_ 36 (.mv (T 5)),
 i_ 37 (.iaddr 3 (T 35) (T 36)),
 i_ 38 (.ldN 3 (T 37)),
 i_ 6 (.alloc 74 [(.string ⟨⟨[]⟩⟩), (.slice none 0 0), (.slice none 0 0)]),
 n_ (.st 3 (T 6) (T 38))])
 (.seq
 (.seq
 (.ops [i_ 39 (.faddr 0 (T 6)),
 i_ 40 (.ld1 (T 39)),
 i_ 41 (.call 45 [(T 40)]),
 i_ 42 (.not (T 41)),
 i_ 43 (.mv (T 42)),
 ig 44 43 false (.faddr 2 (T 6)),
 ig 45 43 false (.ld1 (T 44)),
 ig 46 43 false (.call 46 [(T 45)]),
 ig 47 43 false (.ib .eql (T 46) (KI 0)),
 i_ 48 (.pick (T 43) (KB true) (T 47))])
 (.cond (T 48)
 (.seq
 (.ops [i_ 2 (.mv (KB false))])
 .ret)
 .skip))
 (.seq
 (.ops [i_ 7 (.mv (KI 0))])
 (.block 4
 (.loop [(49, 56), (56, 80), (8, 9), (2, 3), (7, 8)]
 (.seq
 (.seq
 (.ops [i_ 49 (.mv (T 7)),
 i_ 50 (.faddr 1 (T 6)),
 i_ 51 (.ld1 (T 50)),
 i_ 52 (.lenV (T 51)),
 i_ 53 (.ib .lss (T 49) (T 52))])
 (.cond (T 53)
 .skip
 (.exit 4)))
 (.seq
 (.block 5
 (.seq
 (.ops [i_ 56 (.faddr 1 (T 6)),
 i_ 57 (.ld1 (T 56)),
 i_ 58 (.mv (T 7)),
 i_ 59 (.iaddr 2 (T 57) (T 58)),
 i_ 60 (.ldN 2 (T 59)),
 i_ 8 (.alloc 97 [(.string ⟨⟨[]⟩⟩), (.string ⟨⟨[]⟩⟩)]),
 n_ (.st 2 (T 8) (T 60))])
 (.seq
 (.ops [i_ 61 (.faddr 0 (T 8)),
 i_ 62 (.ld1 (T 61)),
 i_ 63 (.sb .eql (T 62) (KS [])),
 i_ 64 (.mv (T 63)),
 ig 65 64 true (.faddr 1 (T 8)),
 ig 66 64 true (.ld1 (T 65)),
 ig 67 64 true (.sb .eql (T 66) (KS [])),
 i_ 68 (.pick (T 64) (T 67) (KB false)),
 i_ 69 (.mv (T 68)),
 ig 70 69 false (.faddr 0 (T 8)),
 ig 71 69 false (.ld1 (T 70)),
 ig 72 69 false (.call 45 [(T 71)]),
 ig 73 69 false (.mv (T 72)),
 ig 74 73 true (.faddr 1 (T 8)),
 ig 75 73 true (.ld1 (T 74)),
 ig 76 73 true (.call 45 [(T 75)]),
 ig 77 69 false (.pick (T 73) (T 76) (KB false)),
 i_ 78 (.pick (T 69) (KB true) (T 77)),
 i_ 79 (.not (T 78))])
 (.cond (T 79)
 (.seq
 (.ops [i_ 2 (.mv (KB false))])
 .ret)
 .skip))))
 (.ops [i_ 54 (.mv (T 7)),
 i_ 55 (.ib .add (T 54) (KI 1)),
 i_ 7 (.mv (T 55))])))))))))
 (.ops [i_ 32 (.mv (T 5)),
 i_ 33 (.ib .add (T 32) (KI 1)),
 i_ 5 (.mv (T 33))])))))))))
 (.ops [i_ 16 (.mv (T 3)),
 i_ 17 (.ib .add (T 16) (KI 1)),
 i_ 3 (.mv (T 17))]))))))
 (.seq
 (.seq
 (.ops [i_ 9 (.mv (KI 0))])
 (.block 6
 (.loop [(80, 87), (87, 108), (10, 11), (2, 3), (9, 10)]
 (.seq
 (.seq
 (.ops [i_ 80 (.mv (T 9)),
 i_ 81 (.faddr 1 (T 1)),
 i_ 82 (.ld1 (T 81)),
 i_ 83 (.lenV (T 82)),
 i_ 84 (.ib .lss (T 80) (T 83))])
 (.cond (T 84)
 .skip
 (.exit 6)))
 (.seq
 (.block 7
 (.seq
 (.ops [i_ 87 (.faddr 1 (T 1)),
 i_ 88 (.ld1 (T 87)),
 i_ 89 (.mv (T 9)),
 i_ 90 (.iaddr 4 (T 88) (T 89)),
 i_ 91 (.ldN 4 (T 90)),
 i_ 10 (.alloc 78 [(.string ⟨⟨[]⟩⟩), (.string ⟨⟨[]⟩⟩), (.string ⟨⟨[]⟩⟩), (.string ⟨⟨[]⟩⟩)]),
 n_ (.st 4 (T 10) (T 91))])
 (.seq
 (.ops [i_ 92 (.faddr 0 (T 10)),
 i_ 93 (.ld1 (T 92)),
 i_ 94 (.call 45 [(T 93)]),
 i_ 95 (.not (T 94)),
 i_ 96 (.mv (T 95)),
 ig 97 96 false (.faddr 1 (T 10)),
 ig 98 96 false (.ldN 2 (T 97)),
 ig 99 96 false (.call 47 [(T 98)]),
 ig 100 96 false (.not (T 99)),
 i_ 101 (.pick (T 96) (KB true) (T 100)),
 i_ 102 (.mv (T 101)),
 ig 103 102 false (.faddr 3 (T 10)),
 ig 104 102 false (.ld1 (T 103)),
 ig 105 102 false (.call 45 [(T 104)]),
 ig 106 102 false (.not (T 105)),
 i_ 107 (.pick (T 102) (KB true) (T 106))])
 (.cond (T 107)
 (.seq
 (.ops [i_ 2 (.mv (KB false))])
 .ret)
 .skip))))
 (.ops [i_ 85 (.mv (T 9)),
 i_ 86 (.ib .add (T 85) (KI 1)),
 i_ 9 (.mv (T 86))]))))))
 (.seq
 (.ops [i_ 108 (.ldN 2 (T 1)),
 i_ 109 (.call 48 [(T 108)]),
 i_ 110 (.not (T 109)),
 i_ 2 (.mv (T 110))])
 .ret))))
def m31 : MF := ⟨111, [(.tmp 2)], c31⟩
theorem r31 : resF Tryz.prog Tryz.f31 = some m31 := by kernel_rfl
def c32 : MC :=
 (.seq
 (.ops [i_ 1 (.box 33 (T 0)),
 i_ 2 (.mv (KB false))])
 (.seq
 (.seq
 (.ops [i_ 3 (.mv (KI 0))])
 (.block 0
 (.loop [(9, 16), (4, 5), (16, 21), (21, 34), (2, 4)]
 (.seq
 (.seq
 (.ops [i_ 9 (.mv (T 3)),
 i_ 10 (.faddr 0 (T 1)),
 i_ 11 (.ld1 (T 10)),
 i_ 12 (.lenV (T 11)),
 i_ 13 (.ib .lss (T 9) (T 12))])
 (.cond (T 13)
 .skip
 (.exit 0)))
 (.seq
 (.block 1
 (.seq
 (.ops [i_ 4 (.mv (KI 0))])
 (.block 2
 (.loop [(16, 21), (21, 34), (2, 3), (4, 5)]
 (.seq
 (.seq
 (.ops [i_ 16 (.mv (T 4)),
 i_ 17 (.mv (T 3)),
 i_ 18 (.ib .lss (T 16) (T 17))])
 (.cond (T 18)
 .skip
 (.exit 2)))
 (.seq
 (.block 3
 (.seq
 (.dops <|
 .op 0 (i_ 21 (.faddr 0 (T 1))) <|
 .op 1 (i_ 22 (.ld1 (T 21))) <|
 .op 2 (i_ 23 (.mv (T 3))) <|
 .op 3 (i_ 24 (.iaddr 2 (T 22) (T 23))) <|
 .op 4 (i_ 25 (.faddr 0 (T 24))) <|
 .op 5 (i_ 26 (.ld1 (T 25))) <|
 .op 6 (i_ 27 (.faddr 0 (T 1))) <|
 .op 7 (i_ 28 (.ld1 (T 27))) <|
 .op 8 (i_ 29 (.mv (T 4))) <|
 .op 9 (i_ 30 (.iaddr 2 (T 28) (T 29))) <|
 .op 10 (i_ 31 (.faddr 0 (T 30))) <|
 .op 11 (i_ 32 (.ld1 (T 31))) <|
 .op 12 (i_ 33 (.sb .eql (T 26) (T 32))) <|
 .nil)
 (.cond (T 33)
 (.seq
 (.ops [i_ 2 (.mv (KB true))])
 .ret)
 .skip)))
 (.ops [i_ 19 (.mv (T 4)),
 i_ 20 (.ib .add (T 19) (KI 1)),
 i_ 4 (.mv (T 20))])))))))
 (.ops [i_ 14 (.mv (T 3)),
 i_ 15 (.ib .add (T 14) (KI 1)),
 i_ 3 (.mv (T 15))]))))))
 (.seq
 (.ops [i_ 34 (.ldN 2 (T 1)),
 i_ 35 (.call 34 [(T 34)]),
 i_ 5 (.mv (T 35))])
 (.seq
 (.seq
 (.ops [i_ 6 (.mv (KI 0))])
 (.block 4
 (.loop [(36, 42), (42, 55), (55, 57), (2, 3), (6, 7)]
 (.seq
 (.seq
 (.ops [i_ 36 (.mv (T 6)),
 i_ 37 (.mv (T 5)),
 i_ 38 (.lenV (T 37)),
 i_ 39 (.ib .lss (T 36) (T 38))])
 (.cond (T 39)
 .skip
 (.exit 4)))
 (.seq
 (.block 5
 (.seq
 (.dops <|
 .op 0 (i_ 42 (.mv (T 5))) <|
 .op 1 (i_ 43 (.mv (T 5))) <|
 .op 2 (i_ 44 (.mv (T 6))) <|
 .op 3 (i_ 45 (.iaddr 4 (T 43) (T 44))) <|
 .op 4 (i_ 46 (.faddr 0 (T 45))) <|
 .op 5 (i_ 47 (.ld1 (T 46))) <|
 .op 6 (i_ 48 (.mv (T 5))) <|
 .op 7 (i_ 49 (.mv (T 6))) <|
 .op 8 (i_ 50 (.iaddr 4 (T 48) (T 49))) <|
 .op 9 (i_ 51 (.faddr 1 (T 50))) <|
 .op 10 (i_ 52 (.faddr 0 (T 51))) <|
 .op 11 (i_ 53 (.ld1 (T 52))) <|
 .op 13 (i_ 55 (.mv (T 6))) <|
 .op 12 (id_ 54 (.call 49 [(T 42), (T 47), (T 53)]) [11, 5]) <|
 .op 14 (i_ 56 (.ib .neq (T 54) (T 55))) <|
 .nil)
 (.cond (T 56)
 (.seq
 (.ops [i_ 2 (.mv (KB true))])
 .ret)
 .skip)))
 (.ops [i_ 40 (.mv (T 6)),
 i_ 41 (.ib .add (T 40) (KI 1)),
 i_ 6 (.mv (T 41))]))))))
 (.seq
 (.seq
 (.ops [i_ 7 (.mv (KI 0))])
 (.block 6
 (.loop [(57, 64), (8, 9), (64, 69), (69, 82), (2, 3), (7, 8)]
 (.seq
 (.seq
 (.ops [i_ 57 (.mv (T 7)),
 i_ 58 (.faddr 1 (T 1)),
 i_ 59 (.ld1 (T 58)),
 i_ 60 (.lenV (T 59)),
 i_ 61 (.ib .lss (T 57) (T 60))])
 (.cond (T 61)
 .skip
 (.exit 6)))
 (.seq
 (.block 7
 (.seq
 (.ops [i_ 8 (.mv (KI 0))])
 (.block 8
 (.loop [(64, 69), (69, 82), (2, 3), (8, 9)]
 (.seq
 (.seq
 (.ops [i_ 64 (.mv (T 8)),
 i_ 65 (.mv (T 7)),
 i_ 66 (.ib .lss (T 64) (T 65))])
 (.cond (T 66)
 .skip
 (.exit 8)))
 (.seq
 (.block 9
 (.seq
 (.dops <|
 .op 0 (i_ 69 (.faddr 1 (T 1))) <|
 .op 1 (i_ 70 (.ld1 (T 69))) <|
 .op 2 (i_ 71 (.mv (T 7))) <|
 .op 3 (i_ 72 (.iaddr 4 (T 70) (T 71))) <|
 .op 4 (i_ 73 (.faddr 0 (T 72))) <|
 .op 5 (i_ 74 (.ld1 (T 73))) <|
 .op 6 (i_ 75 (.faddr 1 (T 1))) <|
 .op 7 (i_ 76 (.ld1 (T 75))) <|
 .op 8 (i_ 77 (.mv (T 8))) <|
 .op 9 (i_ 78 (.iaddr 4 (T 76) (T 77))) <|
 .op 10 (i_ 79 (.faddr 0 (T 78))) <|
 .op 11 (i_ 80 (.ld1 (T 79))) <|
 .op 12 (i_ 81 (.sb .eql (T 74) (T 80))) <|
 .nil)
 (.cond (T 81)
 (.seq
 (.ops [i_ 2 (.mv (KB true))])
 .ret)
 .skip)))
 (.ops [i_ 67 (.mv (T 8)),
 i_ 68 (.ib .add (T 67) (KI 1)),
 i_ 8 (.mv (T 68))])))))))
 (.ops [i_ 62 (.mv (T 7)),
 i_ 63 (.ib .add (T 62) (KI 1)),
 i_ 7 (.mv (T 63))]))))))
 (.seq
 (.ops [i_ 2 (.mv (KB false))])
 .ret))))))
def m32 : MF := ⟨82, [(.tmp 2)], c32⟩
theorem r32 : resF Tryz.prog Tryz.f32 = some m32 := by kernel_rfl
def c33 : MC :=
 (.seq
 (.ops [i_ 1 (.box 33 (T 0)),
 i_ 2 (.mv (.const (.slice none 0 0))),
 i_ 3 (.mv (KB false))])
 (.seq
 (.ops [i_ 13 (.ldN 2 (T 1)),
 i_ 14 (.call 34 [(T 13)]),
 i_ 4 (.mv (T 14))])
 (.seq
 (.ops [i_ 5 (.mv (.const (.slice none 0 0)))])
 (.seq
 (.ops [i_ 6 (.mv (KB true))])
 (.seq
 (.seq
 (.ops [i_ 7 (.mv (KI 0))])
 (.block 0
 (.loop [(15, 21), (21, 33), (8, 12), (33, 61), (6, 8), (61, 77), (5, 6)]
 (.seq
 (.seq
 (.ops [i_ 15 (.mv (T 7)),
 i_ 16 (.mv (T 4)),
 i_ 17 (.lenV (T 16)),
 i_ 18 (.ib .lss (T 15) (T 17))])
 (.cond (T 18)
 .skip
 (.exit 0)))
 (.seq
 (.block 1
 (.seq
 (.ops [i_ 21 (.mv (T 4)),
 i_ 22 (.mv (T 7)),
 i_ 23 (.iaddr 4 (T 21) (T 22)),
 i_ 24 (.faddr 1 (T 23)),
 i_ 25 (.ldN 3 (T 24)),
 i_ 8 (.alloc 74 [(.string ⟨⟨[]⟩⟩), (.slice none 0 0), (.slice none 0 0)]),
 n_ (.st 3 (T 8) (T 25))])
 (.seq
 (.seq
 (.ops [i_ 9 (.mv (KI 0))])
 (.block 2
 (.loop [(26, 33), (33, 60), (6, 7), (9, 10)]
 (.seq
 (.seq
 (.ops [i_ 26 (.mv (T 9)),
 i_ 27 (.faddr 1 (T 8)),
 i_ 28 (.ld1 (T 27)),
 i_ 29 (.lenV (T 28)),
 i_ 30 (.ib .lss (T 26) (T 29))])
 (.cond (T 30)
 .skip
 (.exit 2)))
 (.seq
 (.block 3
 (.dops <|
 .op 0 (i_ 33 (.mv (T 6))) <|
 .op 1 (i_ 34 (.mv (T 33))) <|
 .op 2 (ig 35 34 true (.faddr 1 (T 8))) <|
 .op 3 (ig 36 34 true (.ld1 (T 35))) <|
 .op 4 (ig 37 34 true (.mv (T 9))) <|
 .op 5 (ig 38 34 true (.iaddr 2 (T 36) (T 37))) <|
 .op 6 (ig 39 34 true (.faddr 0 (T 38))) <|
 .op 7 (ig 40 34 true (.ld1 (T 39))) <|
 .op 8 (ig 41 34 true (.sb .eql (T 40) (KS []))) <|
 .op 9 (ig 42 34 true (.mv (T 41))) <|
 .op 10 (ig 43 42 false (.mv (T 4))) <|
 .op 11 (ig 44 42 false (.faddr 1 (T 8))) <|
 .op 12 (ig 45 42 false (.ld1 (T 44))) <|
 .op 13 (ig 46 42 false (.mv (T 9))) <|
 .op 14 (ig 47 42 false (.iaddr 2 (T 45) (T 46))) <|
 .op 15 (ig 48 42 false (.faddr 0 (T 47))) <|
 .op 16 (ig 49 42 false (.ld1 (T 48))) <|
 .op 17 (ig 50 42 false (.faddr 1 (T 8))) <|
 .op 18 (ig 51 42 false (.ld1 (T 50))) <|
 .op 19 (ig 52 42 false (.mv (T 9))) <|
 .op 20 (ig 53 42 false (.iaddr 2 (T 51) (T 52))) <|
 .op 21 (ig 54 42 false (.faddr 1 (T 53))) <|
 .op 22 (ig 55 42 false (.ld1 (T 54))) <|
 .op 23 (igd 56 42 false (.call 49 [(T 43), (T 49), (T 55)]) [18, 22, 12, 16, 7, 3]) <|
 .op 24 (ig 57 42 false (.ib .geq (T 56) (KI 0))) <|
 .op 25 (ig 58 34 true (.pick (T 42) (KB true) (T 57))) <|
 .op 26 (i_ 59 (.pick (T 34) (T 58) (KB false))) <|
 .op 27 (i_ 6 (.mv (T 59))) <|
 .nil))
 (.ops [i_ 31 (.mv (T 9)),
 i_ 32 (.ib .add (T 31) (KI 1)),
 i_ 9 (.mv (T 32))]))))))
 (.seq
 (.ops [i_ 61 (.mv (T 4)),
 i_ 62 (.mv (T 7)),
 i_ 63 (.faddr 2 (T 8)),
 i_ 64 (.ld1 (T 63)),
 i_ 65 (.lenV (T 64)),
 i_ 66 (.ib .sub (T 65) (KI 1)),
 i_ 67 (.call 50 [(T 61), (T 62), (T 66), (KB false)]),
 i_ 60 (.mv (T 67)),
 i_ 68 (.ext (T 60) 0),
 i_ 69 (.ext (T 60) 1),
 i_ 10 (.mv (T 68)),
 i_ 11 (.mv (T 69))])
 (.seq
 (.ops [i_ 70 (.mv (T 6)),
 i_ 71 (.mv (T 70)),
 ig 72 71 true (.mv (T 11)),
 i_ 73 (.pick (T 71) (T 72) (KB false)),
 i_ 6 (.mv (T 73))])
 (.ops [i_ 74 (.mv (T 5)),
 i_ 75 (.mv (T 10)),
 i_ 76 (.append 119 3 24 (T 74) (T 75)),
 i_ 5 (.mv (T 76))]))))))
 (.ops [i_ 19 (.mv (T 7)),
 i_ 20 (.ib .add (T 19) (KI 1)),
 i_ 7 (.mv (T 20))]))))))
 (.seq
 (.seq
 (.ops [i_ 12 (.mv (KI 0))])
 (.block 4
 (.loop [(77, 84), (84, 103), (6, 7), (12, 13)]
 (.seq
 (.seq
 (.ops [i_ 77 (.mv (T 12)),
 i_ 78 (.faddr 1 (T 1)),
 i_ 79 (.ld1 (T 78)),
 i_ 80 (.lenV (T 79)),
 i_ 81 (.ib .lss (T 77) (T 80))])
 (.cond (T 81)
 .skip
 (.exit 4)))
 (.seq
 (.block 5
 (.dops <|
 .op 0 (i_ 84 (.mv (T 6))) <|
 .op 1 (i_ 85 (.mv (T 84))) <|
 .op 2 (ig 86 85 true (.mv (T 4))) <|
 .op 3 (ig 87 85 true (.faddr 1 (T 1))) <|
 .op 4 (ig 88 85 true (.ld1 (T 87))) <|
 .op 5 (ig 89 85 true (.mv (T 12))) <|
 .op 6 (ig 90 85 true (.iaddr 4 (T 88) (T 89))) <|
 .op 7 (ig 91 85 true (.faddr 1 (T 90))) <|
 .op 8 (ig 92 85 true (.faddr 0 (T 91))) <|
 .op 9 (ig 93 85 true (.ld1 (T 92))) <|
 .op 10 (ig 94 85 true (.faddr 1 (T 1))) <|
 .op 11 (ig 95 85 true (.ld1 (T 94))) <|
 .op 12 (ig 96 85 true (.mv (T 12))) <|
 .op 13 (ig 97 85 true (.iaddr 4 (T 95) (T 96))) <|
 .op 14 (ig 98 85 true (.faddr 3 (T 97))) <|
 .op 15 (ig 99 85 true (.ld1 (T 98))) <|
 .op 16 (igd 100 85 true (.call 49 [(T 86), (T 93), (T 99)]) [11, 15, 4, 9]) <|
 .op 17 (ig 101 85 true (.ib .geq (T 100) (KI 0))) <|
 .op 18 (i_ 102 (.pick (T 85) (T 101) (KB false))) <|
 .op 19 (i_ 6 (.mv (T 102))) <|
 .nil))
 (.ops [i_ 82 (.mv (T 12)),
 i_ 83 (.ib .add (T 82) (KI 1)),
 i_ 12 (.mv (T 83))]))))))
 (.seq
 (.ops [i_ 103 (.mv (T 5)),
 i_ 104 (.mv (T 6)),
 i_ 2 (.mv (T 103)),
 i_ 3 (.mv (T 104))])
 .ret)))))))
def m33 : MF := ⟨105, [(.tmp 2), (.tmp 3)], c33⟩
theorem r33 : resF Tryz.prog Tryz.f33 = some m33 := by kernel_rfl
def c34 : MC :=
 (.seq
 (.ops [i_ 1 (.box 33 (T 0)),
 i_ 2 (.mv (.const (.slice none 0 0)))])
 (.seq
 (.ops [i_ 3 (.mv (.const (.slice none 0 0)))])
 (.seq
 (.seq
 (.ops [i_ 4 (.mv (KI 0))])
 (.block 0
 (.loop [(6, 13), (5, 6), (13, 24), (24, 43), (3, 5)]
 (.seq
 (.seq
 (.ops [i_ 6 (.mv (T 4)),
 i_ 7 (.faddr 0 (T 1)),
 i_ 8 (.ld1 (T 7)),
 i_ 9 (.lenV (T 8)),
 i_ 10 (.ib .lss (T 6) (T 9))])
 (.cond (T 10)
 .skip
 (.exit 0)))
 (.seq
 (.block 1
 (.seq
 (.ops [i_ 5 (.mv (KI 0))])
 (.block 2
 (.loop [(13, 24), (24, 43), (3, 4), (5, 6)]
 (.seq
 (.seq
 (.ops [i_ 13 (.mv (T 5)),
 i_ 14 (.faddr 0 (T 1)),
 i_ 15 (.ld1 (T 14)),
 i_ 16 (.mv (T 4)),
 i_ 17 (.iaddr 2 (T 15) (T 16)),
 i_ 18 (.faddr 1 (T 17)),
 i_ 19 (.ld1 (T 18)),
 i_ 20 (.lenV (T 19)),
 i_ 21 (.ib .lss (T 13) (T 20))])
 (.cond (T 21)
 .skip
 (.exit 2)))
 (.seq
 (.block 3
 (.dops <|
 .op 0 (i_ 24 (.mv (T 3))) <|
 .op 1 (i_ 25 (.faddr 0 (T 1))) <|
 .op 2 (i_ 26 (.ld1 (T 25))) <|
 .op 3 (i_ 27 (.mv (T 4))) <|
 .op 4 (i_ 28 (.iaddr 2 (T 26) (T 27))) <|
 .op 5 (i_ 29 (.faddr 0 (T 28))) <|
 .op 6 (i_ 30 (.ld1 (T 29))) <|
 .op 7 (i_ 31 (.faddr 0 (T 1))) <|
 .op 8 (i_ 32 (.ld1 (T 31))) <|
 .op 9 (i_ 33 (.mv (T 4))) <|
 .op 10 (i_ 34 (.iaddr 2 (T 32) (T 33))) <|
 .op 11 (i_ 35 (.faddr 1 (T 34))) <|
 .op 12 (i_ 36 (.ld1 (T 35))) <|
 .op 13 (i_ 37 (.mv (T 5))) <|
 .op 14 (i_ 38 (.iaddr 3 (T 36) (T 37))) <|
 .op 15 (i_ 39 (.ldN 3 (T 38))) <|
 .op 16 (i_ 40 (.build [(.string ⟨⟨[]⟩⟩), (.string ⟨⟨[]⟩⟩), (.slice none 0 0), (.slice none 0 0)] [(0, (1, (T 30))), (1, (3, (T 39)))])) <|
 .op 17 (id_ 41 (.bslice 116 [(.string ⟨⟨[]⟩⟩), (.string ⟨⟨[]⟩⟩), (.slice none 0 0), (.slice none 0 0)] 1 4 [(0, (4, (T 40)))]) [6, 2, 15, 12, 8]) <|
 .op 18 (id_ 42 (.append 116 4 80 (T 24) (T 41)) [8, 12, 15, 2, 6]) <|
 .op 19 (i_ 3 (.mv (T 42))) <|
 .nil))
 (.ops [i_ 22 (.mv (T 5)),
 i_ 23 (.ib .add (T 22) (KI 1)),
 i_ 5 (.mv (T 23))])))))))
 (.ops [i_ 11 (.mv (T 4)),
 i_ 12 (.ib .add (T 11) (KI 1)),
 i_ 4 (.mv (T 12))]))))))
 (.seq
 (.ops [i_ 43 (.mv (T 3)),
 i_ 2 (.mv (T 43))])
 .ret))))
def m34 : MF := ⟨44, [(.tmp 2)], c34⟩
theorem r34 : resF Tryz.prog Tryz.f34 = some m34 := by kernel_rfl
def c35 : MC :=
 (.seq
 (.ops [i_ 6 (.mv (.const (.slice none 0 0)))])
 (.seq
 (.ops [i_ 13 (.mv (T 1)),
 i_ 14 (.mkslice 3 1 8 [(.int .i64 0)] (T 13) (T 13)),
 i_ 7 (.mv (T 14))])
 (.seq
 (.seq
 (.ops [i_ 8 (.mv (KI 0))])
 (.block 0
 (.loop [(15, 20), (20, 28), (9, 13), (28, 54), (7, 9)]
 (.seq
 (.seq
 (.ops [i_ 15 (.mv (T 8)),
 i_ 16 (.mv (T 2)),
 i_ 17 (.ib .lss (T 15) (T 16))])
 (.cond (T 17)
 .skip
 (.exit 0)))
 (.seq
 (.block 1
 (.seq
 (.ops [i_ 20 (.mv (T 1)),
 i_ 21 (.mkslice 3 1 8 [(.int .i64 0)] (T 20) (T 20)),
 i_ 9 (.mv (T 21))])
 (.seq
 (.seq
 (.ops [i_ 10 (.mv (KI 0))])
 (.block 2
 (.loop [(22, 28), (28, 53), (11, 13), (10, 11)]
 (.seq
 (.seq
 (.ops [i_ 22 (.mv (T 10)),
 i_ 23 (.mv (T 0)),
 i_ 24 (.lenV (T 23)),
 i_ 25 (.ib .lss (T 22) (T 24))])
 (.cond (T 25)
 .skip
 (.exit 2)))
 (.seq
 (.block 3
 (.seq
 (.ops [i_ 28 (.mv (T 0)),
 i_ 29 (.mv (T 10)),
 i_ 30 (.iaddr 3 (T 28) (T 29)),
 i_ 31 (.ldN 3 (T 30)),
 i_ 11 (.alloc 119 [(.int .i64 0), (.int .i64 0), (.bool false)]),
 n_ (.st 3 (T 11) (T 31))])
 (.seq
 (.ops [i_ 32 (.mv (T 7)),
 i_ 33 (.faddr 1 (T 11)),
 i_ 34 (.ld1 (T 33)),
 i_ 35 (.iaddr 1 (T 32) (T 34)),
 i_ 36 (.ld1 (T 35)),
 i_ 12 (.mv (T 36))])
 (.seq
 (.seq
 (.ops [i_ 37 (.faddr 2 (T 11)),
 i_ 38 (.ld1 (T 37))])
 (.cond (T 38)
 (.ops [i_ 39 (.mv (T 12)),
 i_ 40 (.ib .add (T 39) (KI 1)),
 i_ 12 (.mv (T 40))])
 .skip))
 (.seq
 (.ops [i_ 41 (.mv (T 12)),
 i_ 42 (.mv (T 9)),
 i_ 43 (.faddr 0 (T 11)),
 i_ 44 (.ld1 (T 43)),
 i_ 45 (.iaddr 1 (T 42) (T 44)),
 i_ 46 (.ld1 (T 45)),
 i_ 47 (.ib .gtr (T 41) (T 46))])
 (.cond (T 47)
 (.ops [i_ 48 (.mv (T 9)),
 i_ 49 (.faddr 0 (T 11)),
 i_ 50 (.ld1 (T 49)),
 i_ 51 (.mv (T 12)),
 i_ 52 (.iaddr 1 (T 48) (T 50)),
 n_ (.st 1 (T 52) (T 51))])
 .skip))))))
 (.ops [i_ 26 (.mv (T 10)),
 i_ 27 (.ib .add (T 26) (KI 1)),
 i_ 10 (.mv (T 27))]))))))
 (.ops [i_ 53 (.mv (T 9)),
 i_ 7 (.mv (T 53))]))))
 (.ops [i_ 18 (.mv (T 8)),
 i_ 19 (.ib .add (T 18) (KI 1)),
 i_ 8 (.mv (T 19))]))))))
 (.seq
 (.ops [i_ 54 (.mv (T 7)),
 i_ 6 (.mv (T 54))])
 .ret))))
def m35 : MF := ⟨55, [(.tmp 6)], c35⟩
theorem r35 : resF Tryz.prog Tryz.f35 = some m35 := by kernel_rfl
def c36 : MC :=
 (.seq
 (.ops [i_ 2 (.alloc 33 [(.slice none 0 0), (.slice none 0 0)]),
 i_ 3 (.mv (KI 0))])
 (.seq
 (.ops [i_ 9 (.mv (T 0)),
 i_ 10 (.call 51 [(T 9)]),
 i_ 8 (.mv (T 10)),
 i_ 11 (.ext (T 8) 0),
 i_ 12 (.ext (T 8) 1),
 i_ 4 (.mv (T 11)),
 i_ 5 (.mv (T 12))])
 (.seq
 (.block 0
 (.seq
 (.ops [i_ 14 (.mv (T 5)),
 i_ 15 (.ib .neq (T 14) (KI 0)),
 i_ 13 (.mv (T 15))])
 (.cond (T 13)
 (.seq
 (.ops [i_ 16 (.build [(.slice none 0 0), (.slice none 0 0)] []),
 i_ 17 (.mv (T 5)),
 n_ (.st 2 (T 2) (T 16)),
 i_ 3 (.mv (T 17))])
 .ret)
 (.seq
 (.ops [i_ 19 (.mv (T 4)),
 i_ 20 (.call 52 [(T 19)]),
 i_ 18 (.mv (T 20))])
 (.cond (T 18)
 (.seq
 (.ops [i_ 21 (.build [(.slice none 0 0), (.slice none 0 0)] []),
 n_ (.st 2 (T 2) (T 21)),
 i_ 3 (.mv (KI 5))])
 .ret)
 .skip)))))
 (.seq
 (.ops [i_ 22 (.mv (T 4)),
 i_ 23 (.build [(.slice none 0 0), (.bool false)] [(0, (1, (T 22)))]),
 i_ 24 (.box 126 (T 23)),
 i_ 6 (.mv (T 24))])
 (.seq
 (.ops [i_ 25 (.mv (T 6)),
 i_ 26 (.call 53 [(T 25)]),
 i_ 7 (.alloc 33 [(.slice none 0 0), (.slice none 0 0)]),
 n_ (.st 2 (T 7) (T 26))])
 (.seq
 (.block 1
 (.seq
 (.ops [i_ 28 (.mv (T 6)),
 i_ 29 (.nilck (T 28)),
 i_ 30 (.faddr 1 (T 29)),
 i_ 31 (.ld1 (T 30)),
 i_ 27 (.mv (T 31))])
 (.cond (T 27)
 (.seq
 (.ops [i_ 32 (.build [(.slice none 0 0), (.slice none 0 0)] []),
 n_ (.st 2 (T 2) (T 32)),
 i_ 3 (.mv (KI 4))])
 .ret)
 (.seq
 (.ops [i_ 34 (.ldN 2 (T 7)),
 i_ 35 (.call 54 [(T 34)]),
 i_ 36 (.not (T 35)),
 i_ 33 (.mv (T 36))])
 (.cond (T 33)
 (.seq
 (.ops [i_ 37 (.build [(.slice none 0 0), (.slice none 0 0)] []),
 n_ (.st 2 (T 2) (T 37)),
 i_ 3 (.mv (KI 25))])
 .ret)
 .skip)))))
 (.seq
 (.ops [i_ 38 (.ldN 2 (T 7)),
 n_ (.st 2 (T 2) (T 38)),
 i_ 3 (.mv (KI 0))])
 .ret)))))))
def m36 : MF := ⟨39, [(.cell 2 2), (.tmp 3)], c36⟩
theorem r36 : resF Tryz.prog Tryz.f36 = some m36 := by kernel_rfl
def c37 : MC :=
 (.seq
 (.ops [i_ 2 (.mv (.const (.slice none 0 0)))])
 (.seq
 (.seq
 (.ops [i_ 3 (.mv (T 0)),
 i_ 4 (.raw ⟨(some 4), (.binOp .eql 71 (T 3) (.const (.slice none 0 0)) 71), 4, "slices.go:357", ⟨[⟨0, .data⟩]⟩, none⟩)])
 (.cond (T 4)
 (.seq
 (.ops [i_ 2 (.mv (.const (.slice none 0 0)))])
 .ret)
 .skip))
 (.seq
 (.ops [i_ 5 (.raw ⟨(some 5), (.buildSlice 71 0 ⟨[]⟩), 71, "slices.go:362", ⟨[]⟩, none⟩),
 i_ 6 (.mv (T 0)),
 i_ 7 (.append 97 2 32 (T 5) (T 6)),
 i_ 2 (.mv (T 7))])
 .ret)))
def m37 : MF := ⟨8, [(.tmp 2)], c37⟩
theorem r37 : resF Tryz.prog Tryz.f37 = some m37 := by kernel_rfl
def c38 : MC :=
 (.seq
 (.ops [i_ 2 (.mv (.const (.slice none 0 0)))])
 (.seq
 (.seq
 (.ops [i_ 3 (.mv (T 0)),
 i_ 4 (.raw ⟨(some 4), (.binOp .eql 72 (T 3) (.const (.slice none 0 0)) 72), 4, "slices.go:357", ⟨[⟨0, .data⟩]⟩, none⟩)])
 (.cond (T 4)
 (.seq
 (.ops [i_ 2 (.mv (.const (.slice none 0 0)))])
 .ret)
 .skip))
 (.seq
 (.ops [i_ 5 (.raw ⟨(some 5), (.buildSlice 72 0 ⟨[]⟩), 72, "slices.go:362", ⟨[]⟩, none⟩),
 i_ 6 (.mv (T 0)),
 i_ 7 (.append 100 5 56 (T 5) (T 6)),
 i_ 2 (.mv (T 7))])
 .ret)))
def m38 : MF := ⟨8, [(.tmp 2)], c38⟩
theorem r38 : resF Tryz.prog Tryz.f38 = some m38 := by kernel_rfl
def c39 : MC :=
 (.seq
 (.ops [i_ 2 (.mv (.const (.slice none 0 0)))])
 (.seq
 (.seq
 (.ops [i_ 3 (.mv (T 0)),
 i_ 4 (.raw ⟨(some 4), (.binOp .eql 31 (T 3) (.const (.slice none 0 0)) 31), 4, "slices.go:357", ⟨[⟨0, .data⟩]⟩, none⟩)])
 (.cond (T 4)
 (.seq
 (.ops [i_ 2 (.mv (.const (.slice none 0 0)))])
 .ret)
 .skip))
 (.seq
 (.ops [i_ 5 (.raw ⟨(some 5), (.buildSlice 31 0 ⟨[]⟩), 31, "slices.go:362", ⟨[]⟩, none⟩),
 i_ 6 (.mv (T 0)),
 i_ 7 (.append 78 4 64 (T 5) (T 6)),
 i_ 2 (.mv (T 7))])
 .ret)))
def m39 : MF := ⟨8, [(.tmp 2)], c39⟩
theorem r39 : resF Tryz.prog Tryz.f39 = some m39 := by kernel_rfl
def c40 : MC :=
 (.seq
 (.ops [i_ 1 (.box 33 (T 0)),
 i_ 2 (.mv (KB false))])
 (.seq
 (.seq
 (.ops [i_ 7 (.ldN 2 (T 1)),
 i_ 8 (.call 54 [(T 7)]),
 i_ 9 (.not (T 8))])
 (.cond (T 9)
 (.seq
 (.ops [i_ 2 (.mv (KB false))])
 .ret)
 .skip))
 (.seq
 (.seq
 (.ops [i_ 10 (.faddr 0 (T 1)),
 i_ 11 (.ld1 (T 10)),
 i_ 12 (.lenV (T 11)),
 i_ 13 (.mv (KI 0))])
 (.block 0
 (.loop [(14, 45), (4, 5), (2, 3), (6, 7), (13, 14)]
 (.seq
 (.ops [i_ 14 (.ib .lss (T 13) (T 12))])
 (.seq
 (.cond (T 14)
 .skip
 (.exit 0))
 (.seq
 (.block 1
 (.seq
 (.ops [i_ 15 (.iaddr 2 (T 11) (T 13)),
 i_ 16 (.ldN 2 (T 15)),
 i_ 4 (.alloc 69 [(.string ⟨⟨[]⟩⟩), (.slice none 0 0)]),
 n_ (.st 2 (T 4) (T 16))])
 (.seq
 (.seq
 (.ops [i_ 17 (.faddr 0 (T 4)),
 i_ 18 (.ld1 (T 17)),
 i_ 19 (.call 55 [(T 18)]),
 i_ 20 (.not (T 19))])
 (.cond (T 20)
 (.seq
 (.ops [i_ 2 (.mv (KB false))])
 .ret)
 .skip))
 (.seq
 (.ops [i_ 21 (.faddr 1 (T 4)),
 i_ 22 (.ld1 (T 21)),
 i_ 23 (.lenV (T 22)),
 i_ 24 (.mv (KI 0))])
 (.block 2
 (.loop [(25, 44), (6, 7), (2, 3), (24, 25)]
 (.seq
 (.ops [i_ 25 (.ib .lss (T 24) (T 23))])
 (.seq
 (.cond (T 25)
 .skip
 (.exit 2))
 (.seq
 (.block 3
 (.seq
 (.ops [i_ 26 (.iaddr 3 (T 22) (T 24)),
 i_ 27 (.ldN 3 (T 26)),
 i_ 6 (.alloc 74 [(.string ⟨⟨[]⟩⟩), (.slice none 0 0), (.slice none 0 0)]),
 n_ (.st 3 (T 6) (T 27))])
 (.seq
 (.ops [i_ 28 (.faddr 0 (T 6)),
 i_ 29 (.ld1 (T 28)),
 i_ 30 (.call 55 [(T 29)]),
 i_ 31 (.not (T 30)),
 i_ 32 (.mv (T 31)),
 ig 33 32 false (.faddr 2 (T 6)),
 ig 34 32 false (.ld1 (T 33)),
 ig 35 32 false (.call 56 [(T 34)]),
 ig 36 32 false (.ib .eql (T 35) (KI 0)),
 i_ 37 (.pick (T 32) (KB true) (T 36)),
 i_ 38 (.mv (T 37)),
 ig 39 38 false (.faddr 1 (T 6)),
 ig 40 38 false (.ld1 (T 39)),
 ig 41 38 false (.call 57 [(T 40), (FN 58)]),
 i_ 42 (.pick (T 38) (KB true) (T 41))])
 (.cond (T 42)
 (.seq
 (.ops [i_ 2 (.mv (KB false))])
 .ret)
 .skip))))
 (.ops [i_ 43 (.ib .add (T 24) (KI 1)),
 i_ 24 (.mv (T 43))]))))))))))
 (.ops [i_ 44 (.ib .add (T 13) (KI 1)),
 i_ 13 (.mv (T 44))])))))))
 (.seq
 (.ops [i_ 45 (.faddr 1 (T 1)),
 i_ 46 (.ld1 (T 45)),
 i_ 47 (.call 60 [(T 46), (FN 61)]),
 i_ 48 (.not (T 47)),
 i_ 2 (.mv (T 48))])
 .ret))))
def m40 : MF := ⟨49, [(.tmp 2)], c40⟩
theorem r40 : resF Tryz.prog Tryz.f40 = some m40 := by kernel_rfl
def c41 : MC :=
 (.seq
 (.ops [i_ 1 (.box 33 (T 0)),
 i_ 2 (.mv (.const (.pointer none))),
 i_ 3 (.mv (KB false))])
 (.seq
 (.ops [i_ 16 (.ldN 2 (T 1)),
 i_ 17 (.raw ⟨(some 17), (.makeMap 132 none), 132, "strata.go:20", ⟨[]⟩, none⟩),
 i_ 18 (.build [(.slice none 0 0), (.slice none 0 0), (.map none)] [(0, (2, (T 16))), (2, (1, (T 17)))]),
 i_ 19 (.box 134 (T 18)),
 i_ 4 (.mv (T 19))])
 (.seq
 (.ops [i_ 20 (.raw ⟨(some 20), (.makeMap 135 none), 135, "strata.go:21", ⟨[]⟩, none⟩),
 i_ 5 (.mv (T 20))])
 (.seq
 (.seq
 (.ops [i_ 21 (.faddr 0 (T 1)),
 i_ 22 (.ld1 (T 21)),
 i_ 23 (.lenV (T 22)),
 i_ 24 (.mv (KI 0))])
 (.block 0
 (.loop [(25, 50), (7, 9), (6, 7), (2, 4), (9, 13), (50, 69), (24, 25)]
 (.seq
 (.ops [i_ 25 (.ib .lss (T 24) (T 23))])
 (.seq
 (.cond (T 25)
 .skip
 (.exit 0))
 (.seq
 (.block 1
 (.seq
 (.ops [i_ 26 (.mv (T 24)),
 i_ 27 (.iaddr 2 (T 22) (T 24)),
 i_ 28 (.ldN 2 (T 27)),
 i_ 7 (.alloc 69 [(.string ⟨⟨[]⟩⟩), (.slice none 0 0)]),
 i_ 6 (.mv (T 26)),
 n_ (.st 2 (T 7) (T 28))])
 (.seq
 (.seq
 (.ops [i_ 29 (.mv (T 5)),
 i_ 30 (.faddr 0 (T 7)),
 i_ 31 (.ld1 (T 30)),
 i_ 32 (.raw ⟨(some 32), (.lookup 135 (T 29) (T 31) false), 4, "strata.go:23", ⟨[⟨0, .data⟩, ⟨2, .data⟩]⟩, none⟩)])
 (.cond (T 32)
 (.seq
 (.ops [i_ 2 (.mv (.const (.pointer none))),
 i_ 3 (.mv (KB false))])
 .ret)
 .skip))
 (.seq
 (.ops [i_ 33 (.mv (T 5)),
 i_ 34 (.faddr 0 (T 7)),
 i_ 35 (.ld1 (T 34)),
 n_ (.raw ⟨none, (.mapUpdate 135 (T 33) (T 35) (KB true)), 0, "strata.go:26", ⟨[⟨0, .data⟩, ⟨2, .data⟩, ⟨0, .phase⟩, ⟨1, .phase⟩, ⟨2, .phase⟩]⟩, none⟩)])
 (.seq
 (.ops [i_ 36 (.faddr 1 (T 7)),
 i_ 37 (.ld1 (T 36)),
 i_ 38 (.lenV (T 37)),
 i_ 39 (.mv (KI 0))])
 (.block 2
 (.loop [(40, 50), (9, 13), (8, 9), (50, 68), (2, 4), (39, 40)]
 (.seq
 (.ops [i_ 40 (.ib .lss (T 39) (T 38))])
 (.seq
 (.cond (T 40)
 .skip
 (.exit 2))
 (.seq
 (.block 3
 (.seq
 (.ops [i_ 41 (.mv (T 39)),
 i_ 42 (.iaddr 3 (T 37) (T 39)),
 i_ 43 (.ldN 3 (T 42)),
 i_ 9 (.alloc 74 [(.string ⟨⟨[]⟩⟩), (.slice none 0 0), (.slice none 0 0)]),
 i_ 8 (.mv (T 41)),
 n_ (.st 3 (T 9) (T 43))])
 (.seq
 (.ops [i_ 44 (.faddr 0 (T 7)),
 i_ 45 (.ld1 (T 44)),
 i_ 46 (.faddr 0 (T 9)),
 i_ 47 (.ld1 (T 46)),
 i_ 48 (.build [(.string ⟨⟨[]⟩⟩), (.string ⟨⟨[]⟩⟩)] [(0, (1, (T 45))), (1, (1, (T 47)))]),
 i_ 10 (.alloc 97 [(.string ⟨⟨[]⟩⟩), (.string ⟨⟨[]⟩⟩)]),
 n_ (.st 2 (T 10) (T 48))])
 (.seq
 (.seq
 (.dops <|
 .op 0 (i_ 50 (.mv (T 4))) <|
 .op 1 (i_ 51 (.nilck (T 50))) <|
 .op 2 (i_ 52 (.faddr 2 (T 51))) <|
 .op 3 (i_ 53 (.ld1 (T 52))) <|
 .op 4 (i_ 54 (.ldN 2 (T 10))) <|
 .both
 (.op 5 (id_ 55 (.raw ⟨(some 55), (.lookup 132 (T 53) (T 54) true), 138, "strata.go:29", ⟨[⟨3, .data⟩, ⟨4, .data⟩]⟩, none⟩) [4, 3]) <|
 .op 6 (i_ 49 (.mv (T 55))) <|
 .op 7 (i_ 56 (.ext (T 49) 0)) <|
 .op 8 (i_ 57 (.ext (T 49) 1)) <|
 .op 9 (i_ 11 (.alloc 137 [(.int .i64 0), (.int .i64 0)])) <|
 .op 10 (nd_ (.st 2 (T 11) (T 56)) [3, 4]) <|
 .op 11 (i_ 12 (.mv (T 57))) <|
 .nil)
 (.op 9 (i_ 11 (.alloc 137 [(.int .i64 0), (.int .i64 0)])) <|
 .op 5 (id_ 55 (.raw ⟨(some 55), (.lookup 132 (T 53) (T 54) true), 138, "strata.go:29", ⟨[⟨3, .data⟩, ⟨4, .data⟩]⟩, none⟩) [4, 3]) <|
 .op 6 (i_ 49 (.mv (T 55))) <|
 .op 7 (i_ 56 (.ext (T 49) 0)) <|
 .op 8 (i_ 57 (.ext (T 49) 1)) <|
 .op 10 (nd_ (.st 2 (T 11) (T 56)) [3, 4]) <|
 .op 11 (i_ 12 (.mv (T 57))) <|
 .nil))
 (.seq
 (.ops [i_ 58 (.mv (T 12))])
 (.cond (T 58)
 (.seq
 (.ops [i_ 2 (.mv (.const (.pointer none))),
 i_ 3 (.mv (KB false))])
 .ret)
 .skip)))
 (.dops <|
 .op 0 (i_ 59 (.mv (T 4))) <|
 .op 1 (i_ 60 (.nilck (T 59))) <|
 .op 2 (i_ 61 (.faddr 2 (T 60))) <|
 .op 3 (i_ 62 (.ld1 (T 61))) <|
 .op 4 (i_ 63 (.ldN 2 (T 10))) <|
 .op 5 (i_ 64 (.mv (T 6))) <|
 .op 6 (i_ 65 (.mv (T 8))) <|
 .op 7 (i_ 66 (.build [(.int .i64 0), (.int .i64 0)] [(0, (1, (T 64))), (1, (1, (T 65)))])) <|
 .op 8 (nd_ (.raw ⟨none, (.mapUpdate 132 (T 62) (T 63) (T 66)), 0, "strata.go:32", ⟨[⟨3, .data⟩, ⟨4, .data⟩, ⟨7, .data⟩, ⟨0, .phase⟩, ⟨1, .phase⟩, ⟨2, .phase⟩, ⟨3, .phase⟩, ⟨4, .phase⟩, ⟨5, .phase⟩, ⟨6, .phase⟩, ⟨7, .phase⟩]⟩, none⟩) [4, 3]) <|
 .nil)))))
 (.ops [i_ 67 (.ib .add (T 39) (KI 1)),
 i_ 39 (.mv (T 67))])))))))))))
 (.ops [i_ 68 (.ib .add (T 24) (KI 1)),
 i_ 24 (.mv (T 68))])))))))
 (.seq
 (.ops [i_ 69 (.raw ⟨(some 69), (.makeMap 135 none), 135, "strata.go:35", ⟨[]⟩, none⟩),
 i_ 13 (.mv (T 69))])
 (.seq
 (.seq
 (.ops [i_ 70 (.faddr 1 (T 1)),
 i_ 71 (.ld1 (T 70)),
 i_ 72 (.lenV (T 71)),
 i_ 73 (.mv (KI 0))])
 (.block 4
 (.loop [(74, 85), (15, 16), (2, 4), (73, 74)]
 (.seq
 (.ops [i_ 74 (.ib .lss (T 73) (T 72))])
 (.seq
 (.cond (T 74)
 .skip
 (.exit 4))
 (.seq
 (.block 5
 (.seq
 (.ops [i_ 75 (.iaddr 4 (T 71) (T 73)),
 i_ 76 (.ldN 4 (T 75)),
 i_ 15 (.alloc 78 [(.string ⟨⟨[]⟩⟩), (.string ⟨⟨[]⟩⟩), (.string ⟨⟨[]⟩⟩), (.string ⟨⟨[]⟩⟩)]),
 n_ (.st 4 (T 15) (T 76))])
 (.seq
 (.seq
 (.ops [i_ 77 (.mv (T 13)),
 i_ 78 (.faddr 0 (T 15)),
 i_ 79 (.ld1 (T 78)),
 i_ 80 (.raw ⟨(some 80), (.lookup 135 (T 77) (T 79) false), 4, "strata.go:37", ⟨[⟨0, .data⟩, ⟨2, .data⟩]⟩, none⟩)])
 (.cond (T 80)
 (.seq
 (.ops [i_ 2 (.mv (.const (.pointer none))),
 i_ 3 (.mv (KB false))])
 .ret)
 .skip))
 (.ops [i_ 81 (.mv (T 13)),
 i_ 82 (.faddr 0 (T 15)),
 i_ 83 (.ld1 (T 82)),
 n_ (.raw ⟨none, (.mapUpdate 135 (T 81) (T 83) (KB true)), 0, "strata.go:40", ⟨[⟨0, .data⟩, ⟨2, .data⟩, ⟨0, .phase⟩, ⟨1, .phase⟩, ⟨2, .phase⟩]⟩, none⟩)]))))
 (.ops [i_ 84 (.ib .add (T 73) (KI 1)),
 i_ 73 (.mv (T 84))])))))))
 (.seq
 (.ops [i_ 85 (.mv (T 4)),
 i_ 2 (.mv (T 85)),
 i_ 3 (.mv (KB true))])
 .ret)))))))
def m41 : MF := ⟨86, [(.tmp 2), (.tmp 3)], c41⟩
theorem r41 : resF Tryz.prog Tryz.f41 = some m41 := by kernel_rfl
def c42 : MC :=
 (.seq
 (.ops [i_ 2 (.mv (.const (.slice none 0 0))),
 i_ 3 (.mv (KB false))])
 (.seq
 (.ops [i_ 4 (.mv (.const (.slice none 0 0)))])
 (.seq
 (.seq
 (.ops [i_ 14 (.mv (T 0)),
 i_ 15 (.nilck (T 14)),
 i_ 16 (.faddr 0 (T 15)),
 i_ 17 (.faddr 0 (T 16)),
 i_ 18 (.ld1 (T 17)),
 i_ 19 (.lenV (T 18)),
 i_ 20 (.mv (KI 0))])
 (.block 0
 (.loop [(21, 32), (6, 10), (5, 6), (32, 46), (2, 5), (20, 21)]
 (.seq
 (.ops [i_ 21 (.ib .lss (T 20) (T 19))])
 (.seq
 (.cond (T 21)
 .skip
 (.exit 0))
 (.seq
 (.block 1
 (.seq
 (.ops [i_ 22 (.mv (T 20)),
 i_ 23 (.iaddr 2 (T 18) (T 20)),
 i_ 24 (.ldN 2 (T 23)),
 i_ 6 (.alloc 69 [(.string ⟨⟨[]⟩⟩), (.slice none 0 0)]),
 i_ 5 (.mv (T 22)),
 n_ (.st 2 (T 6) (T 24))])
 (.seq
 (.ops [i_ 25 (.faddr 1 (T 6)),
 i_ 26 (.ld1 (T 25)),
 i_ 27 (.lenV (T 26)),
 i_ 28 (.mv (KI 0))])
 (.block 2
 (.loop [(29, 32), (7, 10), (32, 45), (2, 5), (28, 29)]
 (.seq
 (.ops [i_ 29 (.ib .lss (T 28) (T 27))])
 (.seq
 (.cond (T 29)
 .skip
 (.exit 2))
 (.seq
 (.block 3
 (.seq
 (.ops [i_ 30 (.mv (T 28)),
 i_ 7 (.mv (T 30))])
 (.seq
 (.ops [i_ 32 (.mv (T 0)),
 i_ 33 (.mv (T 5)),
 i_ 34 (.mv (T 7)),
 i_ 35 (.build [(.int .i64 0), (.int .i64 0)] [(0, (1, (T 33))), (1, (1, (T 34)))]),
 i_ 36 (.call 63 [(T 32), (T 35)]),
 i_ 31 (.mv (T 36)),
 i_ 37 (.ext (T 31) 0),
 i_ 38 (.ext (T 31) 1),
 i_ 8 (.mv (T 37)),
 i_ 9 (.mv (T 38))])
 (.seq
 (.seq
 (.ops [i_ 39 (.mv (T 9)),
 i_ 40 (.not (T 39))])
 (.cond (T 40)
 (.seq
 (.ops [i_ 2 (.mv (.const (.slice none 0 0))),
 i_ 3 (.mv (KB false))])
 .ret)
 .skip))
 (.ops [i_ 41 (.mv (T 4)),
 i_ 42 (.mv (T 8)),
 i_ 43 (.append 141 5 40 (T 41) (T 42)),
 i_ 4 (.mv (T 43))])))))
 (.ops [i_ 44 (.ib .add (T 28) (KI 1)),
 i_ 28 (.mv (T 44))])))))))))
 (.ops [i_ 45 (.ib .add (T 20) (KI 1)),
 i_ 20 (.mv (T 45))])))))))
 (.seq
 (.seq
 (.ops [i_ 46 (.mv (T 0)),
 i_ 47 (.nilck (T 46)),
 i_ 48 (.faddr 0 (T 47)),
 i_ 49 (.faddr 1 (T 48)),
 i_ 50 (.ld1 (T 49)),
 i_ 51 (.lenV (T 50)),
 i_ 52 (.mv (KI 0))])
 (.block 4
 (.loop [(53, 57), (11, 14), (57, 73), (2, 4), (52, 53)]
 (.seq
 (.ops [i_ 53 (.ib .lss (T 52) (T 51))])
 (.seq
 (.cond (T 53)
 .skip
 (.exit 4))
 (.seq
 (.block 5
 (.seq
 (.ops [i_ 54 (.iaddr 4 (T 50) (T 52)),
 i_ 55 (.ldN 4 (T 54)),
 i_ 11 (.alloc 78 [(.string ⟨⟨[]⟩⟩), (.string ⟨⟨[]⟩⟩), (.string ⟨⟨[]⟩⟩), (.string ⟨⟨[]⟩⟩)]),
 n_ (.st 4 (T 11) (T 55))])
 (.seq
 (.dops <|
 .op 0 (i_ 57 (.mv (T 0))) <|
 .op 1 (i_ 58 (.nilck (T 57))) <|
 .op 2 (i_ 59 (.faddr 2 (T 58))) <|
 .op 3 (i_ 60 (.ld1 (T 59))) <|
 .op 4 (i_ 61 (.faddr 1 (T 11))) <|
 .op 5 (i_ 62 (.faddr 0 (T 61))) <|
 .op 6 (i_ 63 (.ld1 (T 62))) <|
 .op 7 (i_ 64 (.faddr 3 (T 11))) <|
 .op 8 (i_ 65 (.ld1 (T 64))) <|
 .op 9 (i_ 66 (.build [(.string ⟨⟨[]⟩⟩), (.string ⟨⟨[]⟩⟩)] [(0, (1, (T 63))), (1, (1, (T 65)))])) <|
 .both
 (.op 10 (id_ 67 (.raw ⟨(some 67), (.lookup 132 (T 60) (T 66) true), 138, "strata.go:144", ⟨[⟨3, .data⟩, ⟨9, .data⟩]⟩, none⟩) [6, 8, 3]) <|
 .op 11 (i_ 56 (.mv (T 67))) <|
 .op 12 (i_ 68 (.ext (T 56) 0)) <|
 .op 13 (i_ 69 (.ext (T 56) 1)) <|
 .op 14 (i_ 12 (.alloc 137 [(.int .i64 0), (.int .i64 0)])) <|
 .op 15 (nd_ (.st 2 (T 12) (T 68)) [3, 8, 6]) <|
 .op 16 (i_ 13 (.mv (T 69))) <|
 .nil)
 (.op 14 (i_ 12 (.alloc 137 [(.int .i64 0), (.int .i64 0)])) <|
 .op 10 (id_ 67 (.raw ⟨(some 67), (.lookup 132 (T 60) (T 66) true), 138, "strata.go:144", ⟨[⟨3, .data⟩, ⟨9, .data⟩]⟩, none⟩) [6, 8, 3]) <|
 .op 11 (i_ 56 (.mv (T 67))) <|
 .op 12 (i_ 68 (.ext (T 56) 0)) <|
 .op 13 (i_ 69 (.ext (T 56) 1)) <|
 .op 15 (nd_ (.st 2 (T 12) (T 68)) [3, 8, 6]) <|
 .op 16 (i_ 13 (.mv (T 69))) <|
 .nil))
 (.seq
 (.ops [i_ 70 (.mv (T 13)),
 i_ 71 (.not (T 70))])
 (.cond (T 71)
 (.seq
 (.ops [i_ 2 (.mv (.const (.slice none 0 0))),
 i_ 3 (.mv (KB false))])
 .ret)
 .skip)))))
 (.ops [i_ 72 (.ib .add (T 52) (KI 1)),
 i_ 52 (.mv (T 72))])))))))
 (.seq
 (.ops [i_ 73 (.mv (T 4)),
 i_ 2 (.mv (T 73)),
 i_ 3 (.mv (KB true))])
 .ret)))))
def m42 : MF := ⟨74, [(.tmp 2), (.tmp 3)], c42⟩
theorem r42 : resF Tryz.prog Tryz.f42 = some m42 := by kernel_rfl
def c43 : MC :=
 (.seq
 (.ops [i_ 4 (.mv (.const (.slice none 0 0))),
 i_ 5 (.mv (KB false))])
 (.seq
 (.ops [i_ 12 (.mv (T 0)),
 i_ 13 (.nilck (T 12)),
 i_ 14 (.faddr 0 (T 13)),
 i_ 15 (.faddr 0 (T 14)),
 i_ 16 (.ld1 (T 15)),
 i_ 17 (.lenV (T 16)),
 i_ 18 (.mkslice 91 1 24 [(.slice none 0 0)] (T 17) (T 17)),
 i_ 6 (.mv (T 18))])
 (.seq
 (.seq
 (.ops [i_ 19 (.mv (T 0)),
 i_ 20 (.nilck (T 19)),
 i_ 21 (.faddr 0 (T 20)),
 i_ 22 (.faddr 0 (T 21)),
 i_ 23 (.ld1 (T 22)),
 i_ 24 (.lenV (T 23)),
 i_ 25 (.mv (KI 0))])
 (.block 0
 (.loop [(26, 38), (8, 9), (7, 8), (25, 26)]
 (.seq
 (.ops [i_ 26 (.ib .lss (T 25) (T 24))])
 (.seq
 (.cond (T 26)
 .skip
 (.exit 0))
 (.seq
 (.block 1
 (.seq
 (.ops [i_ 27 (.mv (T 25)),
 i_ 28 (.iaddr 2 (T 23) (T 25)),
 i_ 29 (.ldN 2 (T 28)),
 i_ 8 (.alloc 69 [(.string ⟨⟨[]⟩⟩), (.slice none 0 0)]),
 i_ 7 (.mv (T 27)),
 n_ (.st 2 (T 8) (T 29))])
 (.ops [i_ 30 (.mv (T 6)),
 i_ 31 (.mv (T 7)),
 i_ 32 (.faddr 1 (T 8)),
 i_ 33 (.ld1 (T 32)),
 i_ 34 (.lenV (T 33)),
 i_ 35 (.mkslice 3 1 8 [(.int .i64 0)] (T 34) (T 34)),
 i_ 36 (.iaddr 1 (T 30) (T 31)),
 n_ (.st 1 (T 36) (T 35))])))
 (.ops [i_ 37 (.ib .add (T 25) (KI 1)),
 i_ 25 (.mv (T 37))])))))))
 (.seq
 (.seq
 (.ops [i_ 38 (.mv (T 0)),
 i_ 39 (.nilck (T 38)),
 i_ 40 (.faddr 2 (T 39)),
 i_ 41 (.ld1 (T 40)),
 i_ 42 (.raw ⟨(some 42), (.call ⟨(.builtin .len), ⟨[(T 41)]⟩, ⟨[132]⟩⟩), 3, "strata.go:171", ⟨[⟨3, .data⟩]⟩, none⟩),
 i_ 43 (.ib .add (T 42) (KI 1)),
 i_ 44 (.mv (KI 0))])
 (.block 2
 (.loop [(45, 60), (9, 10), (11, 12), (4, 6), (44, 45)]
 (.seq
 (.ops [i_ 45 (.ib .lss (T 44) (T 43))])
 (.seq
 (.cond (T 45)
 .skip
 (.exit 2))
 (.seq
 (.block 3
 (.seq
 (.ops [i_ 9 (.mv (KB false))])
 (.seq
 (.seq
 (.ops [i_ 46 (.mv (T 1)),
 i_ 47 (.lenV (T 46)),
 i_ 48 (.mv (KI 0))])
 (.block 4
 (.loop [(49, 56), (11, 12), (9, 10), (48, 49)]
 (.seq
 (.ops [i_ 49 (.ib .lss (T 48) (T 47))])
 (.seq
 (.cond (T 49)
 .skip
 (.exit 4))
 (.seq
 (.block 5
 (.seq
 (.ops [i_ 50 (.iaddr 5 (T 46) (T 48)),
 i_ 51 (.ldN 5 (T 50)),
 i_ 11 (.alloc 141 [(.int .i64 0), (.int .i64 0), (.int .i64 0), (.int .i64 0), (.bool false)]),
 n_ (.st 5 (T 11) (T 51))])
 (.seq
 (.ops [i_ 52 (.mv (T 6)),
 i_ 53 (.ldN 5 (T 11)),
 i_ 54 (.call 64 [(T 52), (T 53)])])
 (.cond (T 54)
 (.ops [i_ 9 (.mv (KB true))])
 .skip))))
 (.ops [i_ 55 (.ib .add (T 48) (KI 1)),
 i_ 48 (.mv (T 55))])))))))
 (.seq
 (.ops [i_ 56 (.mv (T 9)),
 i_ 57 (.not (T 56))])
 (.cond (T 57)
 (.seq
 (.ops [i_ 58 (.mv (T 6)),
 i_ 4 (.mv (T 58)),
 i_ 5 (.mv (KB true))])
 .ret)
 .skip)))))
 (.ops [i_ 59 (.ib .add (T 44) (KI 1)),
 i_ 44 (.mv (T 59))])))))))
 (.seq
 (.ops [i_ 4 (.mv (.const (.slice none 0 0))),
 i_ 5 (.mv (KB false))])
 .ret)))))
def m43 : MF := ⟨60, [(.tmp 4), (.tmp 5)], c43⟩
theorem r43 : resF Tryz.prog Tryz.f43 = some m43 := by kernel_rfl
def c45 : MC :=
 (.seq
 (.ops [i_ 2 (.mv (KB false))])
 (.seq
 (.seq
 (.ops [i_ 5 (.mv (T 0)),
 i_ 6 (.lenS (T 5)),
 i_ 7 (.ib .lss (T 6) (KI 1)),
 i_ 8 (.mv (T 7)),
 ig 9 8 false (.mv (T 0)),
 ig 10 8 false (.lenS (T 9)),
 ig 11 8 false (.ib .gtr (T 10) (KI 32)),
 i_ 12 (.pick (T 8) (KB true) (T 11)),
 i_ 13 (.mv (T 12)),
 ig 14 13 false (.mv (T 0)),
 ig 15 13 false (.idx (T 14) (KI 0)),
 ig 16 13 false (.ib .lss (T 15) (KU 97)),
 i_ 17 (.pick (T 13) (KB true) (T 16)),
 i_ 18 (.mv (T 17)),
 ig 19 18 false (.mv (T 0)),
 ig 20 18 false (.idx (T 19) (KI 0)),
 ig 21 18 false (.ib .gtr (T 20) (KU 122)),
 i_ 22 (.pick (T 18) (KB true) (T 21))])
 (.cond (T 22)
 (.seq
 (.ops [i_ 2 (.mv (KB false))])
 .ret)
 .skip))
 (.seq
 (.seq
 (.ops [i_ 3 (.mv (KI 0))])
 (.block 0
 (.loop [(23, 29), (29, 51), (4, 5), (2, 4)]
 (.seq
 (.seq
 (.ops [i_ 23 (.mv (T 3)),
 i_ 24 (.mv (T 0)),
 i_ 25 (.lenS (T 24)),
 i_ 26 (.ib .lss (T 23) (T 25))])
 (.cond (T 26)
 .skip
 (.exit 0)))
 (.seq
 (.block 1
 (.seq
 (.ops [i_ 29 (.mv (T 0)),
 i_ 30 (.mv (T 3)),
 i_ 31 (.idx (T 29) (T 30)),
 i_ 4 (.mv (T 31))])
 (.seq
 (.ops [i_ 32 (.mv (T 4)),
 i_ 33 (.ib .geq (T 32) (KU 97)),
 i_ 34 (.mv (T 33)),
 ig 35 34 true (.mv (T 4)),
 ig 36 34 true (.ib .leq (T 35) (KU 122)),
 i_ 37 (.pick (T 34) (T 36) (KB false)),
 i_ 38 (.mv (T 37)),
 ig 39 38 false (.mv (T 4)),
 ig 40 38 false (.ib .geq (T 39) (KU 48)),
 ig 41 38 false (.mv (T 40)),
 ig 42 41 true (.mv (T 4)),
 ig 43 41 true (.ib .leq (T 42) (KU 57)),
 ig 44 38 false (.pick (T 41) (T 43) (KB false)),
 i_ 45 (.pick (T 38) (KB true) (T 44)),
 i_ 46 (.mv (T 45)),
 ig 47 46 false (.mv (T 4)),
 ig 48 46 false (.ib .eql (T 47) (KU 95)),
 i_ 49 (.pick (T 46) (KB true) (T 48)),
 i_ 50 (.not (T 49))])
 (.cond (T 50)
 (.seq
 (.ops [i_ 2 (.mv (KB false))])
 .ret)
 .skip))))
 (.ops [i_ 27 (.mv (T 3)),
 i_ 28 (.ib .add (T 27) (KI 1)),
 i_ 3 (.mv (T 28))]))))))
 (.seq
 (.ops [i_ 51 (.mv (T 0)),
 i_ 52 (.sb .neq (T 51) (KS [117, 115, 101, 114])),
 i_ 53 (.mv (T 52)),
 ig 54 53 true (.mv (T 0)),
 ig 55 53 true (.sb .neq (T 54) (KS [116, 104, 105, 115])),
 i_ 56 (.pick (T 53) (T 55) (KB false)),
 i_ 57 (.mv (T 56)),
 ig 58 57 true (.mv (T 0)),
 ig 59 57 true (.sb .neq (T 58) (KS [110, 97, 109, 101, 115, 112, 97, 99, 101])),
 i_ 60 (.pick (T 57) (T 59) (KB false)),
 i_ 61 (.mv (T 60)),
 ig 62 61 true (.mv (T 0)),
 ig 63 61 true (.sb .neq (T 62) (KS [114, 101, 108, 97, 116, 105, 111, 110])),
 i_ 64 (.pick (T 61) (T 63) (KB false)),
 i_ 65 (.mv (T 64)),
 ig 66 65 true (.mv (T 0)),
 ig 67 65 true (.sb .neq (T 66) (KS [115, 99, 111, 112, 101])),
 i_ 68 (.pick (T 65) (T 67) (KB false)),
 i_ 2 (.mv (T 68))])
 .ret))))
def m45 : MF := ⟨69, [(.tmp 2)], c45⟩
theorem r45 : resF Tryz.prog Tryz.f45 = some m45 := by kernel_rfl
def c46 : MC :=
 (.seq
 (.ops [i_ 2 (.mv (KI 0))])
 (.seq
 (.ops [i_ 6 (.mv (T 0)),
 i_ 7 (.mv (T 0)),
 i_ 8 (.lenV (T 7)),
 i_ 9 (.ib .sub (T 8) (KI 1)),
 i_ 10 (.call 65 [(T 6), (T 9)]),
 i_ 5 (.mv (T 10)),
 i_ 11 (.ext (T 5) 0),
 i_ 12 (.ext (T 5) 1),
 i_ 3 (.mv (T 11)),
 i_ 4 (.mv (T 12))])
 (.seq
 (.seq
 (.ops [i_ 13 (.mv (T 3)),
 i_ 14 (.ib .neq (T 13) (KI 0))])
 (.cond (T 14)
 (.seq
 (.ops [i_ 2 (.mv (KI 0))])
 .ret)
 .skip))
 (.seq
 (.ops [i_ 15 (.mv (T 4)),
 i_ 2 (.mv (T 15))])
 .ret))))
def m46 : MF := ⟨16, [(.tmp 2)], c46⟩
theorem r46 : resF Tryz.prog Tryz.f46 = some m46 := by kernel_rfl
def c47 : MC :=
 (.seq
 (.ops [i_ 1 (.box 76 (T 0)),
 i_ 2 (.mv (KB false))])
 (.seq
 (.ops [i_ 3 (.faddr 0 (T 1)),
 i_ 4 (.ld1 (T 3)),
 i_ 5 (.call 45 [(T 4)]),
 i_ 6 (.mv (T 5)),
 ig 7 6 true (.faddr 1 (T 1)),
 ig 8 6 true (.ld1 (T 7)),
 ig 9 6 true (.call 66 [(T 8)]),
 i_ 10 (.pick (T 6) (T 9) (KB false)),
 i_ 2 (.mv (T 10))])
 .ret))
def m47 : MF := ⟨11, [(.tmp 2)], c47⟩
theorem r47 : resF Tryz.prog Tryz.f47 = some m47 := by kernel_rfl
def c48 : MC :=
 (.seq
 (.ops [i_ 1 (.box 33 (T 0)),
 i_ 2 (.mv (KB false))])
 (.seq
 (.seq
 (.ops [i_ 6 (.faddr 0 (T 1)),
 i_ 7 (.ld1 (T 6)),
 i_ 8 (.lenV (T 7)),
 i_ 9 (.ib .gtr (T 8) (KI 16)),
 i_ 10 (.mv (T 9)),
 ig 11 10 false (.faddr 1 (T 1)),
 ig 12 10 false (.ld1 (T 11)),
 ig 13 10 false (.lenV (T 12)),
 ig 14 10 false (.ib .gtr (T 13) (KI 16)),
 i_ 15 (.pick (T 10) (KB true) (T 14))])
 (.cond (T 15)
 (.seq
 (.ops [i_ 2 (.mv (KB true))])
 .ret)
 .skip))
 (.seq
 (.seq
 (.ops [i_ 3 (.mv (KI 0))])
 (.block 0
 (.loop [(16, 23), (23, 42), (2, 4), (4, 6), (42, 67)]
 (.seq
 (.seq
 (.ops [i_ 16 (.mv (T 3)),
 i_ 17 (.faddr 0 (T 1)),
 i_ 18 (.ld1 (T 17)),
 i_ 19 (.lenV (T 18)),
 i_ 20 (.ib .lss (T 16) (T 19))])
 (.cond (T 20)
 .skip
 (.exit 0)))
 (.seq
 (.block 1
 (.seq
 (.seq
 (.ops [i_ 23 (.faddr 0 (T 1)),
 i_ 24 (.ld1 (T 23)),
 i_ 25 (.mv (T 3)),
 i_ 26 (.iaddr 2 (T 24) (T 25)),
 i_ 27 (.faddr 1 (T 26)),
 i_ 28 (.ld1 (T 27)),
 i_ 29 (.lenV (T 28)),
 i_ 30 (.ib .gtr (T 29) (KI 16))])
 (.cond (T 30)
 (.seq
 (.ops [i_ 2 (.mv (KB true))])
 .ret)
 .skip))
 (.seq
 (.ops [i_ 4 (.mv (KI 0))])
 (.block 2
 (.loop [(31, 42), (42, 67), (5, 6), (2, 3), (4, 5)]
 (.seq
 (.seq
 (.ops [i_ 31 (.mv (T 4)),
 i_ 32 (.faddr 0 (T 1)),
 i_ 33 (.ld1 (T 32)),
 i_ 34 (.mv (T 3)),
 i_ 35 (.iaddr 2 (T 33) (T 34)),
 i_ 36 (.faddr 1 (T 35)),
 i_ 37 (.ld1 (T 36)),
 i_ 38 (.lenV (T 37)),
 i_ 39 (.ib .lss (T 31) (T 38))])
 (.cond (T 39)
 .skip
 (.exit 2)))
 (.seq
 (.block 3
 (.seq
 (.ops [i_ 42 (.faddr 0 (T 1)),
 i_ 43 (.ld1 (T 42)),
 i_ 44 (.mv (T 3)),
 i_ 45 (.iaddr 2 (T 43) (T 44)),
 i_ 46 (.faddr 1 (T 45)),
 i_ 47 (.ld1 (T 46)),
 i_ 48 (.mv (T 4)),
 i_ 49 (.iaddr 3 (T 47) (T 48)),
 i_ 50 (.ldN 3 (T 49)),
 i_ 5 (.alloc 74 [(.string ⟨⟨[]⟩⟩), (.slice none 0 0), (.slice none 0 0)]),
 n_ (.st 3 (T 5) (T 50))])
 (.seq
 (.ops [i_ 51 (.faddr 1 (T 5)),
 i_ 52 (.ld1 (T 51)),
 i_ 53 (.lenV (T 52)),
 i_ 54 (.ib .gtr (T 53) (KI 8)),
 i_ 55 (.mv (T 54)),
 ig 56 55 false (.faddr 2 (T 5)),
 ig 57 55 false (.ld1 (T 56)),
 ig 58 55 false (.lenV (T 57)),
 ig 59 55 false (.ib .gtr (T 58) (KI 64)),
 i_ 60 (.pick (T 55) (KB true) (T 59)),
 i_ 61 (.mv (T 60)),
 ig 62 61 false (.faddr 2 (T 5)),
 ig 63 61 false (.ld1 (T 62)),
 ig 64 61 false (.call 46 [(T 63)]),
 ig 65 61 false (.ib .gtr (T 64) (KI 16)),
 i_ 66 (.pick (T 61) (KB true) (T 65))])
 (.cond (T 66)
 (.seq
 (.ops [i_ 2 (.mv (KB true))])
 .ret)
 .skip))))
 (.ops [i_ 40 (.mv (T 4)),
 i_ 41 (.ib .add (T 40) (KI 1)),
 i_ 4 (.mv (T 41))]))))))))
 (.ops [i_ 21 (.mv (T 3)),
 i_ 22 (.ib .add (T 21) (KI 1)),
 i_ 3 (.mv (T 22))]))))))
 (.seq
 (.ops [i_ 2 (.mv (KB false))])
 .ret))))
def m48 : MF := ⟨67, [(.tmp 2)], c48⟩
theorem r48 : resF Tryz.prog Tryz.f48 = some m48 := by kernel_rfl
def c49 : MC :=
 (.seq
 (.ops [i_ 6 (.mv (KI 0))])
 (.seq
 (.seq
 (.ops [i_ 7 (.mv (KI 0))])
 (.block 0
 (.loop [(8, 14), (14, 32), (6, 8)]
 (.seq
 (.seq
 (.ops [i_ 8 (.mv (T 7)),
 i_ 9 (.mv (T 0)),
 i_ 10 (.lenV (T 9)),
 i_ 11 (.ib .lss (T 8) (T 10))])
 (.cond (T 11)
 .skip
 (.exit 0)))
 (.seq
 (.block 1
 (.seq
 (.ops [i_ 14 (.mv (T 0)),
 i_ 15 (.mv (T 7)),
 i_ 16 (.iaddr 4 (T 14) (T 15)),
 i_ 17 (.faddr 0 (T 16)),
 i_ 18 (.ld1 (T 17)),
 i_ 19 (.mv (T 1)),
 i_ 20 (.sb .eql (T 18) (T 19)),
 i_ 21 (.mv (T 20)),
 ig 22 21 true (.mv (T 0)),
 ig 23 21 true (.mv (T 7)),
 ig 24 21 true (.iaddr 4 (T 22) (T 23)),
 ig 25 21 true (.faddr 1 (T 24)),
 ig 26 21 true (.faddr 0 (T 25)),
 ig 27 21 true (.ld1 (T 26)),
 ig 28 21 true (.mv (T 2)),
 ig 29 21 true (.sb .eql (T 27) (T 28)),
 i_ 30 (.pick (T 21) (T 29) (KB false))])
 (.cond (T 30)
 (.seq
 (.ops [i_ 31 (.mv (T 7)),
 i_ 6 (.mv (T 31))])
 .ret)
 .skip)))
 (.ops [i_ 12 (.mv (T 7)),
 i_ 13 (.ib .add (T 12) (KI 1)),
 i_ 7 (.mv (T 13))]))))))
 (.seq
 (.ops [i_ 6 (.mv (KI (-1)))])
 .ret)))
def m49 : MF := ⟨32, [(.tmp 6)], c49⟩
theorem r49 : resF Tryz.prog Tryz.f49 = some m49 := by kernel_rfl
def c50 : MC :=
 (.seq
 (.ops [i_ 8 (.mv (.const (.slice none 0 0))),
 i_ 9 (.mv (KB false))])
 (.seq
 (.ops [i_ 10 (.mv (.const (.slice none 0 0)))])
 (.seq
 (.ops [i_ 24 (.mv (T 0)),
 i_ 25 (.mv (T 1)),
 i_ 26 (.iaddr 4 (T 24) (T 25)),
 i_ 27 (.faddr 1 (T 26)),
 i_ 28 (.faddr 2 (T 27)),
 i_ 29 (.ld1 (T 28)),
 i_ 30 (.mv (T 2)),
 i_ 31 (.iaddr 5 (T 29) (T 30)),
 i_ 32 (.ldN 5 (T 31)),
 i_ 11 (.alloc 100 [(.int .i64 0), (.string ⟨⟨[]⟩⟩), (.string ⟨⟨[]⟩⟩), (.int .i64 0), (.int .i64 0)]),
 n_ (.st 5 (T 11) (T 32))])
 (.seq
 (.seq
 (.ops [i_ 33 (.faddr 0 (T 11)),
 i_ 34 (.ld1 (T 33)),
 i_ 35 (.ib .eql (T 34) (KI 4)),
 i_ 36 (.mv (T 35)),
 ig 37 36 false (.faddr 0 (T 11)),
 ig 38 36 false (.ld1 (T 37)),
 ig 39 36 false (.ib .eql (T 38) (KI 5)),
 i_ 40 (.pick (T 36) (KB true) (T 39)),
 i_ 41 (.mv (T 40)),
 ig 42 41 false (.faddr 0 (T 11)),
 ig 43 41 false (.ld1 (T 42)),
 ig 44 41 false (.ib .eql (T 43) (KI 6)),
 i_ 45 (.pick (T 41) (KB true) (T 44))])
 (.cond (T 45)
 (.seq
 (.ops [i_ 47 (.mv (T 0)),
 i_ 48 (.mv (T 1)),
 i_ 49 (.faddr 3 (T 11)),
 i_ 50 (.ld1 (T 49)),
 i_ 51 (.mv (T 3)),
 i_ 52 (.call 50 [(T 47), (T 48), (T 50), (T 51)]),
 i_ 46 (.mv (T 52)),
 i_ 53 (.ext (T 46) 0),
 i_ 54 (.ext (T 46) 1),
 i_ 12 (.mv (T 53)),
 i_ 13 (.mv (T 54))])
 (.seq
 (.ops [i_ 56 (.mv (T 0)),
 i_ 57 (.mv (T 1)),
 i_ 58 (.faddr 4 (T 11)),
 i_ 59 (.ld1 (T 58)),
 i_ 60 (.mv (T 3)),
 i_ 61 (.mv (T 60)),
 ig 62 61 false (.faddr 0 (T 11)),
 ig 63 61 false (.ld1 (T 62)),
 ig 64 61 false (.ib .eql (T 63) (KI 6)),
 i_ 65 (.pick (T 61) (KB true) (T 64)),
 i_ 66 (.call 50 [(T 56), (T 57), (T 59), (T 65)]),
 i_ 55 (.mv (T 66)),
 i_ 67 (.ext (T 55) 0),
 i_ 68 (.ext (T 55) 1),
 i_ 14 (.mv (T 67)),
 i_ 15 (.mv (T 68))])
 (.seq
 (.ops [i_ 69 (.mv (T 10)),
 i_ 70 (.mv (T 12)),
 i_ 71 (.append 119 3 24 (T 69) (T 70)),
 i_ 10 (.mv (T 71))])
 (.seq
 (.ops [i_ 72 (.mv (T 10)),
 i_ 73 (.mv (T 14)),
 i_ 74 (.append 119 3 24 (T 72) (T 73)),
 i_ 75 (.mv (T 13)),
 i_ 76 (.mv (T 75)),
 ig 77 76 true (.mv (T 15)),
 i_ 78 (.pick (T 76) (T 77) (KB false)),
 i_ 8 (.mv (T 74)),
 i_ 9 (.mv (T 78))])
 .ret))))
 .skip))
 (.seq
 (.seq
 (.ops [i_ 79 (.faddr 0 (T 11)),
 i_ 80 (.ld1 (T 79)),
 i_ 81 (.ib .eql (T 80) (KI 2))])
 (.cond (T 81)
 (.seq
 (.dops <|
 .op 0 (i_ 82 (.mv (T 0))) <|
 .op 1 (i_ 83 (.mv (T 0))) <|
 .op 2 (i_ 84 (.mv (T 1))) <|
 .op 3 (i_ 85 (.iaddr 4 (T 83) (T 84))) <|
 .op 4 (i_ 86 (.faddr 0 (T 85))) <|
 .op 5 (i_ 87 (.ld1 (T 86))) <|
 .op 6 (i_ 88 (.faddr 1 (T 11))) <|
 .op 7 (i_ 89 (.ld1 (T 88))) <|
 .op 8 (id_ 90 (.call 49 [(T 82), (T 87), (T 89)]) [7, 5]) <|
 .op 9 (i_ 16 (.mv (T 90))) <|
 .nil)
 (.seq
 (.ops [i_ 91 (.mv (T 10)),
 i_ 92 (.mv (T 1)),
 i_ 93 (.mv (T 16)),
 i_ 94 (.mv (T 3)),
 i_ 95 (.build [(.int .i64 0), (.int .i64 0), (.bool false)] [(0, (1, (T 92))), (1, (1, (T 93))), (2, (1, (T 94)))]),
 i_ 96 (.bslice 119 [(.int .i64 0), (.int .i64 0), (.bool false)] 1 3 [(0, (3, (T 95)))]),
 i_ 97 (.append 119 3 24 (T 91) (T 96)),
 i_ 98 (.mv (T 16)),
 i_ 99 (.ib .geq (T 98) (KI 0)),
 i_ 8 (.mv (T 97)),
 i_ 9 (.mv (T 99))])
 .ret))
 .skip))
 (.seq
 (.ops [i_ 100 (.mv (T 0)),
 i_ 101 (.mv (T 1)),
 i_ 102 (.iaddr 4 (T 100) (T 101)),
 i_ 103 (.faddr 1 (T 102)),
 i_ 104 (.faddr 1 (T 103)),
 i_ 105 (.ld1 (T 104)),
 i_ 17 (.mv (T 105)),
 i_ 18 (.mv (KS []))])
 (.seq
 (.seq
 (.ops [i_ 106 (.faddr 0 (T 11)),
 i_ 107 (.ld1 (T 106)),
 i_ 108 (.ib .eql (T 107) (KI 3))])
 (.cond (T 108)
 (.seq
 (.dops <|
 .op 0 (i_ 109 (.mv (T 0))) <|
 .op 1 (i_ 110 (.mv (T 0))) <|
 .op 2 (i_ 111 (.mv (T 1))) <|
 .op 3 (i_ 112 (.iaddr 4 (T 110) (T 111))) <|
 .op 4 (i_ 113 (.faddr 0 (T 112))) <|
 .op 5 (i_ 114 (.ld1 (T 113))) <|
 .op 6 (i_ 115 (.faddr 1 (T 11))) <|
 .op 7 (i_ 116 (.ld1 (T 115))) <|
 .op 8 (id_ 117 (.call 49 [(T 109), (T 114), (T 116)]) [7, 5]) <|
 .op 9 (i_ 19 (.mv (T 117))) <|
 .nil)
 (.seq
 (.seq
 (.ops [i_ 118 (.mv (T 19)),
 i_ 119 (.ib .lss (T 118) (KI 0))])
 (.cond (T 119)
 (.seq
 (.ops [i_ 8 (.mv (.const (.slice none 0 0))),
 i_ 9 (.mv (KB false))])
 .ret)
 .skip))
 (.dops <|
 .op 0 (i_ 120 (.mv (T 0))) <|
 .op 1 (i_ 121 (.mv (T 19))) <|
 .op 2 (i_ 122 (.iaddr 4 (T 120) (T 121))) <|
 .op 3 (i_ 123 (.faddr 1 (T 122))) <|
 .op 4 (i_ 124 (.faddr 1 (T 123))) <|
 .op 5 (i_ 125 (.ld1 (T 124))) <|
 .op 6 (i_ 126 (.faddr 2 (T 11))) <|
 .op 7 (i_ 127 (.ld1 (T 126))) <|
 .op 8 (i_ 17 (.mv (T 125))) <|
 .op 9 (i_ 18 (.mv (T 127))) <|
 .nil)))
 .skip))
 (.seq
 (.ops [i_ 20 (.mv (KB true))])
 (.seq
 (.seq
 (.ops [i_ 21 (.mv (KI 0))])
 (.block 0
 (.loop [(128, 134), (134, 168), (22, 24), (20, 22), (10, 11)]
 (.seq
 (.seq
 (.ops [i_ 128 (.mv (T 21)),
 i_ 129 (.mv (T 17)),
 i_ 130 (.lenV (T 129)),
 i_ 131 (.ib .lss (T 128) (T 130))])
 (.cond (T 131)
 .skip
 (.exit 0)))
 (.seq
 (.block 1
 (.seq
 (.seq
 (.ops [i_ 134 (.mv (T 17)),
 i_ 135 (.mv (T 21)),
 i_ 136 (.iaddr 2 (T 134) (T 135)),
 i_ 137 (.faddr 0 (T 136)),
 i_ 138 (.ld1 (T 137)),
 i_ 139 (.sb .eql (T 138) (KS []))])
 (.cond (T 139)
 (.exit 1)
 .skip))
 (.seq
 (.ops [i_ 140 (.mv (T 17)),
 i_ 141 (.mv (T 21)),
 i_ 142 (.iaddr 2 (T 140) (T 141)),
 i_ 143 (.faddr 1 (T 142)),
 i_ 144 (.ld1 (T 143)),
 i_ 22 (.mv (T 144))])
 (.seq
 (.seq
 (.ops [i_ 145 (.mv (T 18)),
 i_ 146 (.sb .neq (T 145) (KS []))])
 (.cond (T 146)
 (.ops [i_ 147 (.mv (T 18)),
 i_ 22 (.mv (T 147))])
 .skip))
 (.seq
 (.ops [i_ 148 (.mv (T 0)),
 i_ 149 (.mv (T 17)),
 i_ 150 (.mv (T 21)),
 i_ 151 (.iaddr 2 (T 149) (T 150)),
 i_ 152 (.faddr 0 (T 151)),
 i_ 153 (.ld1 (T 152)),
 i_ 154 (.mv (T 22)),
 i_ 155 (.call 49 [(T 148), (T 153), (T 154)]),
 i_ 23 (.mv (T 155))])
 (.seq
 (.ops [i_ 156 (.mv (T 20)),
 i_ 157 (.mv (T 156)),
 ig 158 157 true (.mv (T 23)),
 ig 159 157 true (.ib .geq (T 158) (KI 0)),
 i_ 160 (.pick (T 157) (T 159) (KB false)),
 i_ 20 (.mv (T 160))])
 (.ops [i_ 161 (.mv (T 10)),
 i_ 162 (.mv (T 1)),
 i_ 163 (.mv (T 23)),
 i_ 164 (.mv (T 3)),
 i_ 165 (.build [(.int .i64 0), (.int .i64 0), (.bool false)] [(0, (1, (T 162))), (1, (1, (T 163))), (2, (1, (T 164)))]),
 i_ 166 (.bslice 119 [(.int .i64 0), (.int .i64 0), (.bool false)] 1 3 [(0, (3, (T 165)))]),
 i_ 167 (.append 119 3 24 (T 161) (T 166)),
 i_ 10 (.mv (T 167))])))))))
 (.ops [i_ 132 (.mv (T 21)),
 i_ 133 (.ib .add (T 132) (KI 1)),
 i_ 21 (.mv (T 133))]))))))
 (.seq
 (.ops [i_ 168 (.mv (T 10)),
 i_ 169 (.mv (T 20)),
 i_ 170 (.mv (T 169)),
 ig 171 170 true (.mv (T 18)),
 ig 172 170 true (.sb .eql (T 171) (KS [])),
 ig 173 170 true (.mv (T 172)),
 ig 174 173 false (.mv (T 10)),
 ig 175 173 false (.lenV (T 174)),
 ig 176 173 false (.ib .gtr (T 175) (KI 0)),
 ig 177 170 true (.pick (T 173) (KB true) (T 176)),
 i_ 178 (.pick (T 170) (T 177) (KB false)),
 i_ 8 (.mv (T 168)),
 i_ 9 (.mv (T 178))])
 .ret))))))))))
def m50 : MF := ⟨179, [(.tmp 8), (.tmp 9)], c50⟩
theorem r50 : resF Tryz.prog Tryz.f50 = some m50 := by kernel_rfl
def c51 : MC :=
 (.seq
 (.ops [i_ 2 (.mv (.const (.slice none 0 0))),
 i_ 3 (.mv (KI 0))])
 (.seq
 (.seq
 (.ops [i_ 8 (.mv (T 0)),
 i_ 9 (.lenS (T 8)),
 i_ 10 (.ib .gtr (T 9) (KI 16384))])
 (.cond (T 10)
 (.seq
 (.ops [i_ 2 (.mv (.const (.slice none 0 0))),
 i_ 3 (.mv (KI 5))])
 .ret)
 .skip))
 (.seq
 (.ops [i_ 11 (.mv (T 0)),
 i_ 12 (.build [(.string ⟨⟨[]⟩⟩), (.int .i64 0)] [(0, (1, (T 11)))]),
 i_ 13 (.box 147 (T 12)),
 i_ 4 (.mv (T 13))])
 (.seq
 (.ops [i_ 5 (.mv (.const (.slice none 0 0)))])
 (.block 0
 (.loop [(14, 25), (2, 4), (25, 35), (6, 8), (5, 6)]
 (.block 1
 (.seq
 (.ops [i_ 14 (.mv (T 4)),
 i_ 15 (.call 67 [(T 14)])])
 (.seq
 (.seq
 (.ops [i_ 16 (.mv (T 4)),
 i_ 17 (.nilck (T 16)),
 i_ 18 (.faddr 1 (T 17)),
 i_ 19 (.ld1 (T 18)),
 i_ 20 (.mv (T 0)),
 i_ 21 (.lenS (T 20)),
 i_ 22 (.ib .eql (T 19) (T 21))])
 (.cond (T 22)
 (.seq
 (.ops [i_ 23 (.mv (T 5)),
 i_ 2 (.mv (T 23)),
 i_ 3 (.mv (KI 0))])
 .ret)
 .skip))
 (.seq
 (.ops [i_ 25 (.mv (T 4)),
 i_ 26 (.call 68 [(T 25)]),
 i_ 24 (.mv (T 26)),
 i_ 27 (.ext (T 24) 0),
 i_ 28 (.ext (T 24) 1),
 i_ 6 (.alloc 149 [(.int .i64 0), (.string ⟨⟨[]⟩⟩), (.int .i64 0)]),
 n_ (.st 3 (T 6) (T 27)),
 i_ 7 (.mv (T 28))])
 (.seq
 (.seq
 (.ops [i_ 29 (.mv (T 7)),
 i_ 30 (.not (T 29))])
 (.cond (T 30)
 (.seq
 (.ops [i_ 2 (.mv (.const (.slice none 0 0))),
 i_ 3 (.mv (KI 4))])
 .ret)
 .skip))
 (.ops [i_ 31 (.mv (T 5)),
 i_ 32 (.ldN 3 (T 6)),
 i_ 33 (.bslice 149 [(.int .i64 0), (.string ⟨⟨[]⟩⟩), (.int .i64 0)] 1 3 [(0, (3, (T 32)))]),
 i_ 34 (.append 149 3 32 (T 31) (T 33)),
 i_ 5 (.mv (T 34))]))))))))))))
def m51 : MF := ⟨35, [(.tmp 2), (.tmp 3)], c51⟩
theorem r51 : resF Tryz.prog Tryz.f51 = some m51 := by kernel_rfl
def c52 : MC :=
 (.seq
 (.ops [i_ 2 (.mv (KB false))])
 (.seq
 (.ops [i_ 3 (.mv (KI 0))])
 (.seq
 (.seq
 (.ops [i_ 6 (.mv (T 0)),
 i_ 7 (.lenV (T 6)),
 i_ 8 (.mv (KI 0))])
 (.block 0
 (.loop [(9, 13), (5, 6), (13, 24), (3, 4), (24, 38), (2, 3), (8, 9)]
 (.seq
 (.ops [i_ 9 (.ib .lss (T 8) (T 7))])
 (.seq
 (.cond (T 9)
 .skip
 (.exit 0))
 (.seq
 (.block 1
 (.seq
 (.ops [i_ 10 (.iaddr 3 (T 6) (T 8)),
 i_ 11 (.ldN 3 (T 10)),
 i_ 5 (.alloc 149 [(.int .i64 0), (.string ⟨⟨[]⟩⟩), (.int .i64 0)]),
 n_ (.st 3 (T 5) (T 11))])
 (.seq
 (.block 2
 (.seq
 (.ops [i_ 13 (.faddr 0 (T 5)),
 i_ 14 (.ld1 (T 13)),
 i_ 15 (.ib .eql (T 14) (KI 3)),
 i_ 16 (.mv (T 15)),
 ig 17 16 true (.faddr 1 (T 5)),
 ig 18 16 true (.ld1 (T 17)),
 ig 19 16 true (.sb .eql (T 18) (KS [40])),
 i_ 20 (.pick (T 16) (T 19) (KB false)),
 i_ 12 (.mv (T 20))])
 (.cond (T 12)
 (.ops [i_ 21 (.mv (T 3)),
 i_ 22 (.ib .add (T 21) (KI 1)),
 i_ 3 (.mv (T 22))])
 (.seq
 (.ops [i_ 24 (.faddr 0 (T 5)),
 i_ 25 (.ld1 (T 24)),
 i_ 26 (.ib .eql (T 25) (KI 3)),
 i_ 27 (.mv (T 26)),
 ig 28 27 true (.faddr 1 (T 5)),
 ig 29 27 true (.ld1 (T 28)),
 ig 30 27 true (.sb .eql (T 29) (KS [41])),
 i_ 31 (.pick (T 27) (T 30) (KB false)),
 i_ 23 (.mv (T 31))])
 (.cond (T 23)
 (.ops [i_ 32 (.mv (T 3)),
 i_ 33 (.ib .sub (T 32) (KI 1)),
 i_ 34 (.maxI (T 33) (KI 0)),
 i_ 3 (.mv (T 34))])
 .skip)))))
 (.seq
 (.ops [i_ 35 (.mv (T 3)),
 i_ 36 (.ib .gtr (T 35) (KI 16))])
 (.cond (T 36)
 (.seq
 (.ops [i_ 2 (.mv (KB true))])
 .ret)
 .skip)))))
 (.ops [i_ 37 (.ib .add (T 8) (KI 1)),
 i_ 8 (.mv (T 37))])))))))
 (.seq
 (.ops [i_ 2 (.mv (KB false))])
 .ret))))
def m52 : MF := ⟨38, [(.tmp 2)], c52⟩
theorem r52 : resF Tryz.prog Tryz.f52 = some m52 := by kernel_rfl
def c53 : MC :=
 (.seq
 (.ops [i_ 2 (.alloc 33 [(.slice none 0 0), (.slice none 0 0)])])
 (.seq
 (.ops [i_ 3 (.alloc 33 [(.slice none 0 0), (.slice none 0 0)])])
 (.seq
 (.block 0
 (.loop [(4, 19), (20, 30), (19, 20), (30, 39)]
 (.seq
 (.seq
 (.ops [i_ 4 (.mv (T 0)),
 i_ 5 (.nilck (T 4)),
 i_ 6 (.faddr 1 (T 5)),
 i_ 7 (.ld1 (T 6)),
 i_ 8 (.not (T 7)),
 i_ 9 (.mv (T 8)),
 ig 10 9 true (.mv (T 0)),
 ig 11 9 true (.nilck (T 10)),
 ig 12 9 true (.faddr 0 (T 11)),
 ig 13 9 true (.ld1 (T 12)),
 ig 14 9 true (.lenV (T 13)),
 ig 15 9 true (.ib .gtr (T 14) (KI 0)),
 i_ 16 (.pick (T 9) (T 15) (KB false))])
 (.cond (T 16)
 .skip
 (.exit 0)))
 (.block 1
 (.block 2
 (.seq
 (.ops [i_ 20 (.mv (T 0)),
 i_ 21 (.call 69 [(T 20), (KS [110, 97, 109, 101, 115, 112, 97, 99, 101])]),
 i_ 19 (.mv (T 21))])
 (.cond (T 19)
 (.dops <|
 .op 0 (i_ 22 (.faddr 0 (T 3))) <|
 .op 1 (i_ 23 (.ld1 (T 22))) <|
 .op 2 (i_ 24 (.mv (T 0))) <|
 .op 3 (i_ 25 (.call 70 [(T 24)])) <|
 .op 4 (i_ 26 (.bslice 69 [(.string ⟨⟨[]⟩⟩), (.slice none 0 0)] 1 2 [(0, (2, (T 25)))])) <|
 .op 5 (id_ 27 (.append 69 2 40 (T 23) (T 26)) [1]) <|
 .op 6 (i_ 28 (.faddr 0 (T 3))) <|
 .op 7 (nd_ (.st 1 (T 28) (T 27)) [1]) <|
 .nil)
 (.seq
 (.ops [i_ 30 (.mv (T 0)),
 i_ 31 (.call 69 [(T 30), (KS [115, 99, 111, 112, 101])]),
 i_ 29 (.mv (T 31))])
 (.cond (T 29)
 (.dops <|
 .op 0 (i_ 32 (.faddr 1 (T 3))) <|
 .op 1 (i_ 33 (.ld1 (T 32))) <|
 .op 2 (i_ 34 (.mv (T 0))) <|
 .op 3 (i_ 35 (.call 71 [(T 34)])) <|
 .op 4 (i_ 36 (.bslice 78 [(.string ⟨⟨[]⟩⟩), (.string ⟨⟨[]⟩⟩), (.string ⟨⟨[]⟩⟩), (.string ⟨⟨[]⟩⟩)] 1 4 [(0, (4, (T 35)))])) <|
 .op 5 (id_ 37 (.append 78 4 64 (T 33) (T 36)) [1]) <|
 .op 6 (i_ 38 (.faddr 1 (T 3))) <|
 .op 7 (nd_ (.st 1 (T 38) (T 37)) [1]) <|
 .nil)
 (.ops [i_ 17 (.mv (T 0)),
 i_ 18 (.call 72 [(T 17)])]))))))))))
 (.seq
 (.ops [i_ 39 (.ldN 2 (T 3)),
 n_ (.st 2 (T 2) (T 39))])
 .ret))))
def m53 : MF := ⟨40, [(.cell 2 2)], c53⟩
theorem r53 : resF Tryz.prog Tryz.f53 = some m53 := by kernel_rfl
theorem k53 : Callable Tryz.prog 53 := ⟨_, Tryz.func53, by kernel_rfl, by kernel_rfl⟩

def c54 : MC :=
 (.seq
 (.ops [i_ 1 (.box 33 (T 0)),
 i_ 2 (.mv (KB false))])
 (.seq
 (.seq
 (.ops [i_ 5 (.faddr 0 (T 1)),
 i_ 6 (.ld1 (T 5)),
 i_ 7 (.lenV (T 6)),
 i_ 8 (.ib .gtr (T 7) (KI 16)),
 i_ 9 (.mv (T 8)),
 ig 10 9 false (.faddr 1 (T 1)),
 ig 11 9 false (.ld1 (T 10)),
 ig 12 9 false (.lenV (T 11)),
 ig 13 9 false (.ib .gtr (T 12) (KI 16)),
 i_ 14 (.pick (T 9) (KB true) (T 13))])
 (.cond (T 14)
 (.seq
 (.ops [i_ 2 (.mv (KB false))])
 .ret)
 .skip))
 (.seq
 (.seq
 (.ops [i_ 15 (.faddr 0 (T 1)),
 i_ 16 (.ld1 (T 15)),
 i_ 17 (.lenV (T 16)),
 i_ 18 (.mv (KI 0))])
 (.block 0
 (.loop [(19, 32), (4, 5), (2, 3), (18, 19)]
 (.seq
 (.ops [i_ 19 (.ib .lss (T 18) (T 17))])
 (.seq
 (.cond (T 19)
 .skip
 (.exit 0))
 (.seq
 (.block 1
 (.seq
 (.ops [i_ 20 (.iaddr 2 (T 16) (T 18)),
 i_ 21 (.ldN 2 (T 20)),
 i_ 4 (.alloc 69 [(.string ⟨⟨[]⟩⟩), (.slice none 0 0)]),
 n_ (.st 2 (T 4) (T 21))])
 (.seq
 (.ops [i_ 22 (.faddr 1 (T 4)),
 i_ 23 (.ld1 (T 22)),
 i_ 24 (.lenV (T 23)),
 i_ 25 (.ib .gtr (T 24) (KI 16)),
 i_ 26 (.mv (T 25)),
 ig 27 26 false (.faddr 1 (T 4)),
 ig 28 26 false (.ld1 (T 27)),
 ig 29 26 false (.call 73 [(T 28), (FN 74)]),
 i_ 30 (.pick (T 26) (KB true) (T 29))])
 (.cond (T 30)
 (.seq
 (.ops [i_ 2 (.mv (KB false))])
 .ret)
 .skip))))
 (.ops [i_ 31 (.ib .add (T 18) (KI 1)),
 i_ 18 (.mv (T 31))])))))))
 (.seq
 (.ops [i_ 2 (.mv (KB true))])
 .ret))))
def m54 : MF := ⟨32, [(.tmp 2)], c54⟩
theorem r54 : resF Tryz.prog Tryz.f54 = some m54 := by kernel_rfl
def c55 : MC :=
 (.seq
 (.ops [i_ 2 (.mv (KB false))])
 (.seq
 (.seq
 (.ops [i_ 3 (.mv (T 0))])
 (.block 0
 (.seq
 (.seq
 (.ops [i_ 5 (.sb .eql (T 3) (KS [117, 115, 101, 114])),
 i_ 4 (.mv (T 5))])
 (.cond (T 4)
 .skip
 (.seq
 (.ops [i_ 6 (.sb .eql (T 3) (KS [116, 104, 105, 115])),
 i_ 4 (.mv (T 6))])
 (.cond (T 4)
 .skip
 (.seq
 (.ops [i_ 7 (.sb .eql (T 3) (KS [110, 97, 109, 101, 115, 112, 97, 99, 101])),
 i_ 4 (.mv (T 7))])
 (.cond (T 4)
 .skip
 (.seq
 (.ops [i_ 8 (.sb .eql (T 3) (KS [114, 101, 108, 97, 116, 105, 111, 110])),
 i_ 4 (.mv (T 8))])
 (.cond (T 4)
 .skip
 (.ops [i_ 9 (.sb .eql (T 3) (KS [115, 99, 111, 112, 101])),
 i_ 4 (.mv (T 9))])))))))))
 (.cond (T 4)
 (.seq
 (.ops [i_ 2 (.mv (KB false))])
 .ret)
 .skip))))
 (.seq
 (.ops [i_ 10 (.mv (T 0)),
 i_ 11 (.call 75 [(T 10), (FN 76)]),
 i_ 12 (.mv (T 11)),
 ig 13 12 true (.mv (T 0)),
 ig 14 12 true (.idx (T 13) (KI 0)),
 ig 15 12 true (.call 77 [(T 14)]),
 i_ 16 (.pick (T 12) (T 15) (KB false)),
 i_ 2 (.mv (T 16))])
 .ret)))
def m55 : MF := ⟨17, [(.tmp 2)], c55⟩
theorem r55 : resF Tryz.prog Tryz.f55 = some m55 := by kernel_rfl
def c56 : MC :=
 (.seq
 (.ops [i_ 2 (.mv (KI 0))])
 (.seq
 (.dops <|
 .op 0 (i_ 7 (.mv (T 0))) <|
 .op 1 (i_ 8 (.lenV (T 7))) <|
 .op 3 (i_ 10 (.mv (T 0))) <|
 .op 4 (i_ 11 (.lenV (T 10))) <|
 .both
 (.op 2 (i_ 9 (.mkslice 3 1 8 [(.int .i64 0)] (T 8) (T 8))) <|
 .op 6 (i_ 3 (.mv (T 9))) <|
 .op 5 (i_ 12 (.mkslice 3 1 8 [(.int .i64 0)] (T 11) (T 11))) <|
 .op 7 (i_ 4 (.mv (T 12))) <|
 .nil)
 (.op 5 (i_ 12 (.mkslice 3 1 8 [(.int .i64 0)] (T 11) (T 11))) <|
 .op 2 (i_ 9 (.mkslice 3 1 8 [(.int .i64 0)] (T 8) (T 8))) <|
 .op 6 (i_ 3 (.mv (T 9))) <|
 .op 7 (i_ 4 (.mv (T 12))) <|
 .nil))
 (.seq
 (.seq
 (.ops [i_ 13 (.mv (T 0)),
 i_ 14 (.lenV (T 13)),
 i_ 15 (.mv (KI 0))])
 (.block 0
 (.loop [(16, 111), (6, 7), (5, 6), (2, 3), (15, 16)]
 (.seq
 (.ops [i_ 16 (.ib .lss (T 15) (T 14))])
 (.seq
 (.cond (T 16)
 .skip
 (.exit 0))
 (.seq
 (.block 1
 (.seq
 (.ops [i_ 17 (.mv (T 15)),
 i_ 18 (.iaddr 5 (T 13) (T 15)),
 i_ 19 (.ldN 5 (T 18)),
 i_ 6 (.alloc 100 [(.int .i64 0), (.string ⟨⟨[]⟩⟩), (.string ⟨⟨[]⟩⟩), (.int .i64 0), (.int .i64 0)]),
 i_ 5 (.mv (T 17)),
 n_ (.st 5 (T 6) (T 19))])
 (.seq
 (.seq
 (.ops [i_ 20 (.faddr 0 (T 6)),
 i_ 21 (.ld1 (T 20)),
 i_ 22 (.ib .neq (T 21) (KI 4)),
 i_ 23 (.mv (T 22)),
 ig 24 23 true (.faddr 0 (T 6)),
 ig 25 23 true (.ld1 (T 24)),
 ig 26 23 true (.ib .neq (T 25) (KI 5)),
 i_ 27 (.pick (T 23) (T 26) (KB false)),
 i_ 28 (.mv (T 27)),
 ig 29 28 true (.faddr 0 (T 6)),
 ig 30 28 true (.ld1 (T 29)),
 ig 31 28 true (.ib .neq (T 30) (KI 6)),
 i_ 32 (.pick (T 28) (T 31) (KB false))])
 (.cond (T 32)
 (.seq
 (.seq
 (.ops [i_ 33 (.ldN 5 (T 6)),
 i_ 34 (.call 79 [(T 33)]),
 i_ 35 (.not (T 34))])
 (.cond (T 35)
 (.seq
 (.ops [i_ 2 (.mv (KI 0))])
 .ret)
 .skip))
 (.seq
 (.ops [i_ 36 (.mv (T 3)),
 i_ 37 (.mv (T 5)),
 i_ 38 (.mv (T 4)),
 i_ 39 (.mv (T 5)),
 i_ 40 (.iaddr 1 (T 36) (T 37)),
 n_ (.st 1 (T 40) (KI 1)),
 i_ 41 (.iaddr 1 (T 38) (T 39)),
 n_ (.st 1 (T 41) (KI 1))])
 (.exit 1)))
 .skip))
 (.seq
 (.seq
 (.dops <|
 .op 0 (i_ 42 (.faddr 1 (T 6))) <|
 .op 1 (i_ 43 (.ld1 (T 42))) <|
 .op 2 (i_ 44 (.sb .neq (T 43) (KS []))) <|
 .op 3 (i_ 45 (.mv (T 44))) <|
 .op 4 (ig 46 45 false (.faddr 2 (T 6))) <|
 .op 5 (ig 47 45 false (.ld1 (T 46))) <|
 .op 6 (ig 48 45 false (.sb .neq (T 47) (KS []))) <|
 .op 7 (i_ 49 (.pick (T 45) (KB true) (T 48))) <|
 .op 8 (i_ 50 (.mv (T 49))) <|
 .op 9 (ig 51 50 false (.faddr 4 (T 6))) <|
 .op 10 (ig 52 50 false (.ld1 (T 51))) <|
 .op 11 (ig 53 50 false (.mv (T 5))) <|
 .op 12 (ig 54 50 false (.ib .sub (T 53) (KI 1))) <|
 .op 13 (ig 55 50 false (.ib .neq (T 52) (T 54))) <|
 .op 14 (i_ 56 (.pick (T 50) (KB true) (T 55))) <|
 .op 15 (i_ 57 (.mv (T 56))) <|
 .op 16 (ig 58 57 false (.faddr 4 (T 6))) <|
 .op 17 (ig 59 57 false (.ld1 (T 58))) <|
 .op 18 (ig 60 57 false (.ib .lss (T 59) (KI 0))) <|
 .op 19 (i_ 61 (.pick (T 57) (KB true) (T 60))) <|
 .op 20 (i_ 62 (.mv (T 61))) <|
 .op 21 (ig 63 62 false (.faddr 3 (T 6))) <|
 .op 22 (ig 64 62 false (.ld1 (T 63))) <|
 .op 23 (ig 65 62 false (.mv (T 5))) <|
 .op 24 (ig 66 62 false (.ib .sub (T 65) (KI 1))) <|
 .op 25 (ig 67 62 false (.mv (T 3))) <|
 .op 26 (ig 68 62 false (.mv (T 5))) <|
 .op 27 (ig 69 62 false (.ib .sub (T 68) (KI 1))) <|
 .op 28 (ig 70 62 false (.iaddr 1 (T 67) (T 69))) <|
 .op 29 (ig 71 62 false (.ld1 (T 70))) <|
 .op 30 (ig 72 62 false (.ib .sub (T 66) (T 71))) <|
 .op 31 (ig 73 62 false (.ib .neq (T 64) (T 72))) <|
 .op 32 (i_ 74 (.pick (T 62) (KB true) (T 73))) <|
 .op 33 (i_ 75 (.mv (T 74))) <|
 .op 34 (ig 76 75 false (.faddr 3 (T 6))) <|
 .op 35 (ig 77 75 false (.ld1 (T 76))) <|
 .op 36 (ig 78 75 false (.ib .lss (T 77) (KI 0))) <|
 .op 37 (i_ 79 (.pick (T 75) (KB true) (T 78))) <|
 .nil)
 (.cond (T 79)
 (.seq
 (.ops [i_ 2 (.mv (KI 0))])
 .ret)
 .skip))
 (.seq
 (.dops <|
 .op 0 (i_ 80 (.mv (T 3))) <|
 .op 1 (i_ 81 (.mv (T 5))) <|
 .op 2 (i_ 82 (.mv (T 3))) <|
 .op 3 (i_ 83 (.faddr 3 (T 6))) <|
 .op 4 (i_ 84 (.ld1 (T 83))) <|
 .op 5 (i_ 85 (.iaddr 1 (T 82) (T 84))) <|
 .op 6 (i_ 86 (.ld1 (T 85))) <|
 .op 7 (i_ 87 (.mv (T 3))) <|
 .op 8 (i_ 88 (.faddr 4 (T 6))) <|
 .op 9 (i_ 89 (.ld1 (T 88))) <|
 .op 10 (i_ 90 (.iaddr 1 (T 87) (T 89))) <|
 .op 11 (i_ 91 (.ld1 (T 90))) <|
 .op 12 (i_ 92 (.ib .add (T 86) (T 91))) <|
 .op 13 (i_ 93 (.ib .add (T 92) (KI 1))) <|
 .op 14 (i_ 94 (.iaddr 1 (T 80) (T 81))) <|
 .op 15 (nd_ (.st 1 (T 94) (T 93)) [4, 6, 9, 11]) <|
 .nil)
 (.dops <|
 .op 0 (i_ 95 (.mv (T 4))) <|
 .op 1 (i_ 96 (.mv (T 5))) <|
 .op 2 (i_ 97 (.mv (T 4))) <|
 .op 3 (i_ 98 (.faddr 3 (T 6))) <|
 .op 4 (i_ 99 (.ld1 (T 98))) <|
 .op 5 (i_ 100 (.iaddr 1 (T 97) (T 99))) <|
 .op 6 (i_ 101 (.ld1 (T 100))) <|
 .op 7 (i_ 102 (.mv (T 4))) <|
 .op 8 (i_ 103 (.faddr 4 (T 6))) <|
 .op 9 (i_ 104 (.ld1 (T 103))) <|
 .op 10 (i_ 105 (.iaddr 1 (T 102) (T 104))) <|
 .op 11 (i_ 106 (.ld1 (T 105))) <|
 .op 12 (i_ 107 (.maxI (T 101) (T 106))) <|
 .op 13 (i_ 108 (.ib .add (T 107) (KI 1))) <|
 .op 14 (i_ 109 (.iaddr 1 (T 95) (T 96))) <|
 .op 15 (nd_ (.st 1 (T 109) (T 108)) [4, 6, 9, 11]) <|
 .nil))))))
 (.ops [i_ 110 (.ib .add (T 15) (KI 1)),
 i_ 15 (.mv (T 110))])))))))
 (.seq
 (.seq
 (.ops [i_ 111 (.mv (T 0)),
 i_ 112 (.lenV (T 111)),
 i_ 113 (.ib .eql (T 112) (KI 0)),
 i_ 114 (.mv (T 113)),
 ig 115 114 false (.mv (T 3)),
 ig 116 114 false (.mv (T 0)),
 ig 117 114 false (.lenV (T 116)),
 ig 118 114 false (.ib .sub (T 117) (KI 1)),
 ig 119 114 false (.iaddr 1 (T 115) (T 118)),
 ig 120 114 false (.ld1 (T 119)),
 ig 121 114 false (.mv (T 0)),
 ig 122 114 false (.lenV (T 121)),
 ig 123 114 false (.ib .neq (T 120) (T 122)),
 i_ 124 (.pick (T 114) (KB true) (T 123))])
 (.cond (T 124)
 (.seq
 (.ops [i_ 2 (.mv (KI 0))])
 .ret)
 .skip))
 (.seq
 (.ops [i_ 125 (.mv (T 4)),
 i_ 126 (.mv (T 0)),
 i_ 127 (.lenV (T 126)),
 i_ 128 (.ib .sub (T 127) (KI 1)),
 i_ 129 (.iaddr 1 (T 125) (T 128)),
 i_ 130 (.ld1 (T 129)),
 i_ 2 (.mv (T 130))])
 .ret)))))
def m56 : MF := ⟨131, [(.tmp 2)], c56⟩
theorem r56 : resF Tryz.prog Tryz.f56 = some m56 := by kernel_rfl
def c57 : MC :=
 (.seq
 (.ops [i_ 4 (.mv (KB false))])
 (.seq
 (.ops [i_ 5 (.mv (T 0)),
 i_ 6 (.mv (T 1)),
 i_ 7 (.call 80 [(T 5), (T 6)]),
 i_ 8 (.ib .geq (T 7) (KI 0)),
 i_ 4 (.mv (T 8))])
 .ret))
def m57 : MF := ⟨9, [(.tmp 4)], c57⟩
theorem r57 : resF Tryz.prog Tryz.f57 = some m57 := by kernel_rfl
def c58 : MC :=
 (.seq
 (.ops [i_ 1 (.box 97 (T 0)),
 i_ 2 (.mv (KB false))])
 (.seq
 (.ops [i_ 3 (.ldN 2 (T 1)),
 i_ 4 (.call 59 [(T 3)]),
 i_ 5 (.not (T 4)),
 i_ 2 (.mv (T 5))])
 .ret))
def m58 : MF := ⟨6, [(.tmp 2)], c58⟩
theorem r58 : resF Tryz.prog Tryz.f58 = some m58 := by kernel_rfl
def c59 : MC :=
 (.seq
 (.ops [i_ 1 (.box 97 (T 0)),
 i_ 2 (.mv (KB false))])
 (.seq
 (.ops [i_ 3 (.ldN 2 (T 1)),
 i_ 4 (.build [(.string ⟨⟨[]⟩⟩), (.string ⟨⟨[]⟩⟩)] []),
 i_ 5 (.eqA false 97 [97] [2, 2] (T 3) (T 4)),
 i_ 6 (.mv (T 5)),
 ig 7 6 false (.faddr 0 (T 1)),
 ig 8 6 false (.ld1 (T 7)),
 ig 9 6 false (.call 55 [(T 8)]),
 ig 10 6 false (.mv (T 9)),
 ig 11 10 true (.faddr 1 (T 1)),
 ig 12 10 true (.ld1 (T 11)),
 ig 13 10 true (.call 55 [(T 12)]),
 ig 14 6 false (.pick (T 10) (T 13) (KB false)),
 i_ 15 (.pick (T 6) (KB true) (T 14)),
 i_ 2 (.mv (T 15))])
 .ret))
def m59 : MF := ⟨16, [(.tmp 2)], c59⟩
theorem r59 : resF Tryz.prog Tryz.f59 = some m59 := by kernel_rfl
def c60 : MC :=
 (.seq
 (.ops [i_ 4 (.mv (KB false))])
 (.seq
 (.ops [i_ 5 (.mv (T 0)),
 i_ 6 (.mv (T 1)),
 i_ 7 (.call 81 [(T 5), (T 6)]),
 i_ 8 (.ib .geq (T 7) (KI 0)),
 i_ 4 (.mv (T 8))])
 .ret))
def m60 : MF := ⟨9, [(.tmp 4)], c60⟩
theorem r60 : resF Tryz.prog Tryz.f60 = some m60 := by kernel_rfl
def c61 : MC :=
 (.seq
 (.ops [i_ 1 (.box 78 (T 0)),
 i_ 2 (.mv (KB false))])
 (.seq
 (.ops [i_ 3 (.faddr 0 (T 1)),
 i_ 4 (.ld1 (T 3)),
 i_ 5 (.call 55 [(T 4)]),
 i_ 6 (.not (T 5)),
 i_ 7 (.mv (T 6)),
 ig 8 7 false (.faddr 1 (T 1)),
 ig 9 7 false (.ldN 2 (T 8)),
 ig 10 7 false (.call 62 [(T 9)]),
 ig 11 7 false (.ib .neq (T 10) (KI 0)),
 i_ 12 (.pick (T 7) (KB true) (T 11)),
 i_ 13 (.mv (T 12)),
 ig 14 13 false (.faddr 3 (T 1)),
 ig 15 13 false (.ld1 (T 14)),
 ig 16 13 false (.call 55 [(T 15)]),
 ig 17 13 false (.not (T 16)),
 i_ 18 (.pick (T 13) (KB true) (T 17)),
 i_ 2 (.mv (T 18))])
 .ret))
def m61 : MF := ⟨19, [(.tmp 2)], c61⟩
theorem r61 : resF Tryz.prog Tryz.f61 = some m61 := by kernel_rfl
def c62 : MC :=
 (.seq
 (.ops [i_ 1 (.box 76 (T 0)),
 i_ 2 (.mv (KI 0))])
 (.seq
 (.ops [i_ 3 (.faddr 0 (T 1)),
 i_ 4 (.ld1 (T 3)),
 i_ 5 (.call 55 [(T 4)]),
 i_ 6 (.mv (T 5)),
 ig 7 6 true (.faddr 1 (T 1)),
 ig 8 6 true (.ld1 (T 7)),
 ig 9 6 true (.call 83 [(T 8)]),
 i_ 10 (.pick (T 6) (T 9) (KB false)),
 i_ 11 (.call 82 [(T 10)]),
 i_ 2 (.mv (T 11))])
 .ret))
def m62 : MF := ⟨12, [(.tmp 2)], c62⟩
theorem r62 : resF Tryz.prog Tryz.f62 = some m62 := by kernel_rfl
def c63 : MC :=
 (.seq
 (.ops [i_ 3 (.box 137 (T 1)),
 i_ 4 (.mv (.const (.slice none 0 0))),
 i_ 5 (.mv (KB false))])
 (.seq
 (.ops [i_ 19 (.mv (T 0)),
 i_ 20 (.ldN 2 (T 3)),
 i_ 21 (.call 84 [(T 19), (T 20)]),
 i_ 6 (.alloc 74 [(.string ⟨⟨[]⟩⟩), (.slice none 0 0), (.slice none 0 0)]),
 n_ (.st 3 (T 6) (T 21))])
 (.seq
 (.seq
 (.ops [i_ 22 (.faddr 1 (T 6)),
 i_ 23 (.ld1 (T 22)),
 i_ 24 (.call 85 [(T 23)]),
 i_ 25 (.lenV (T 24)),
 i_ 26 (.mv (KI 0))])
 (.block 0
 (.loop [(27, 31), (8, 11), (31, 42), (4, 6), (26, 27)]
 (.seq
 (.ops [i_ 27 (.ib .lss (T 26) (T 25))])
 (.seq
 (.cond (T 27)
 .skip
 (.exit 0))
 (.seq
 (.block 1
 (.seq
 (.ops [i_ 28 (.iaddr 2 (T 24) (T 26)),
 i_ 29 (.ldN 2 (T 28)),
 i_ 8 (.alloc 97 [(.string ⟨⟨[]⟩⟩), (.string ⟨⟨[]⟩⟩)]),
 n_ (.st 2 (T 8) (T 29))])
 (.seq
 (.dops <|
 .op 0 (i_ 31 (.mv (T 0))) <|
 .op 1 (i_ 32 (.nilck (T 31))) <|
 .op 2 (i_ 33 (.faddr 2 (T 32))) <|
 .op 3 (i_ 34 (.ld1 (T 33))) <|
 .op 4 (i_ 35 (.ldN 2 (T 8))) <|
 .both
 (.op 5 (id_ 36 (.raw ⟨(some 36), (.lookup 132 (T 34) (T 35) true), 138, "strata.go:113", ⟨[⟨3, .data⟩, ⟨4, .data⟩]⟩, none⟩) [4, 3]) <|
 .op 6 (i_ 30 (.mv (T 36))) <|
 .op 7 (i_ 37 (.ext (T 30) 0)) <|
 .op 8 (i_ 38 (.ext (T 30) 1)) <|
 .op 9 (i_ 9 (.alloc 137 [(.int .i64 0), (.int .i64 0)])) <|
 .op 10 (nd_ (.st 2 (T 9) (T 37)) [3, 4]) <|
 .op 11 (i_ 10 (.mv (T 38))) <|
 .nil)
 (.op 9 (i_ 9 (.alloc 137 [(.int .i64 0), (.int .i64 0)])) <|
 .op 5 (id_ 36 (.raw ⟨(some 36), (.lookup 132 (T 34) (T 35) true), 138, "strata.go:113", ⟨[⟨3, .data⟩, ⟨4, .data⟩]⟩, none⟩) [4, 3]) <|
 .op 6 (i_ 30 (.mv (T 36))) <|
 .op 7 (i_ 37 (.ext (T 30) 0)) <|
 .op 8 (i_ 38 (.ext (T 30) 1)) <|
 .op 10 (nd_ (.st 2 (T 9) (T 37)) [3, 4]) <|
 .op 11 (i_ 10 (.mv (T 38))) <|
 .nil))
 (.seq
 (.ops [i_ 39 (.mv (T 10)),
 i_ 40 (.not (T 39))])
 (.cond (T 40)
 (.seq
 (.ops [i_ 4 (.mv (.const (.slice none 0 0))),
 i_ 5 (.mv (KB false))])
 .ret)
 .skip)))))
 (.ops [i_ 41 (.ib .add (T 26) (KI 1)),
 i_ 26 (.mv (T 41))])))))))
 (.seq
 (.ops [i_ 42 (.faddr 2 (T 6)),
 i_ 43 (.ld1 (T 42)),
 i_ 44 (.call 86 [(T 43)]),
 i_ 11 (.mv (T 44))])
 (.seq
 (.ops [i_ 12 (.mv (.const (.slice none 0 0)))])
 (.seq
 (.seq
 (.ops [i_ 45 (.faddr 2 (T 6)),
 i_ 46 (.ld1 (T 45)),
 i_ 47 (.lenV (T 46)),
 i_ 48 (.mv (KI 0))])
 (.block 2
 (.loop [(49, 54), (14, 17), (13, 14), (54, 80), (4, 6), (18, 19), (12, 13), (48, 49)]
 (.seq
 (.ops [i_ 49 (.ib .lss (T 48) (T 47))])
 (.seq
 (.cond (T 49)
 .skip
 (.exit 2))
 (.seq
 (.block 3
 (.seq
 (.ops [i_ 50 (.mv (T 48)),
 i_ 51 (.iaddr 5 (T 46) (T 48)),
 i_ 52 (.ldN 5 (T 51)),
 i_ 14 (.alloc 100 [(.int .i64 0), (.string ⟨⟨[]⟩⟩), (.string ⟨⟨[]⟩⟩), (.int .i64 0), (.int .i64 0)]),
 i_ 13 (.mv (T 50)),
 n_ (.st 5 (T 14) (T 52))])
 (.seq
 (.ops [i_ 54 (.mv (T 0)),
 i_ 55 (.ldN 2 (T 3)),
 i_ 56 (.ldN 5 (T 14)),
 i_ 57 (.call 87 [(T 54), (T 55), (T 56)]),
 i_ 53 (.mv (T 57)),
 i_ 58 (.ext (T 53) 0),
 i_ 59 (.ext (T 53) 1),
 i_ 15 (.mv (T 58)),
 i_ 16 (.mv (T 59))])
 (.seq
 (.seq
 (.ops [i_ 60 (.mv (T 16)),
 i_ 61 (.not (T 60))])
 (.cond (T 61)
 (.seq
 (.ops [i_ 4 (.mv (.const (.slice none 0 0))),
 i_ 5 (.mv (KB false))])
 .ret)
 .skip))
 (.seq
 (.ops [i_ 62 (.mv (T 15)),
 i_ 63 (.lenV (T 62)),
 i_ 64 (.mv (KI 0))])
 (.block 4
 (.loop [(65, 79), (18, 19), (12, 13), (64, 65)]
 (.seq
 (.ops [i_ 65 (.ib .lss (T 64) (T 63))])
 (.seq
 (.cond (T 65)
 .skip
 (.exit 4))
 (.seq
 (.block 5
 (.seq
 (.ops [i_ 66 (.iaddr 2 (T 62) (T 64)),
 i_ 67 (.ldN 2 (T 66)),
 i_ 18 (.alloc 137 [(.int .i64 0), (.int .i64 0)]),
 n_ (.st 2 (T 18) (T 67))])
 (.dops <|
 .op 0 (i_ 68 (.mv (T 12))) <|
 .op 1 (i_ 69 (.ldN 2 (T 3))) <|
 .op 2 (i_ 70 (.ldN 2 (T 18))) <|
 .op 3 (i_ 71 (.mv (T 11))) <|
 .op 4 (i_ 72 (.mv (T 13))) <|
 .op 5 (i_ 73 (.iaddr 1 (T 71) (T 72))) <|
 .op 6 (i_ 74 (.ld1 (T 73))) <|
 .op 7 (i_ 75 (.build [(.int .i64 0), (.int .i64 0), (.int .i64 0), (.int .i64 0), (.bool false)] [(0, (2, (T 69))), (2, (2, (T 70))), (4, (1, (T 74)))])) <|
 .op 8 (id_ 76 (.bslice 141 [(.int .i64 0), (.int .i64 0), (.int .i64 0), (.int .i64 0), (.bool false)] 1 5 [(0, (5, (T 75)))]) [1, 2, 6]) <|
 .op 9 (id_ 77 (.append 141 5 40 (T 68) (T 76)) [6, 2, 1]) <|
 .op 10 (i_ 12 (.mv (T 77))) <|
 .nil)))
 (.ops [i_ 78 (.ib .add (T 64) (KI 1)),
 i_ 64 (.mv (T 78))])))))))))))
 (.ops [i_ 79 (.ib .add (T 48) (KI 1)),
 i_ 48 (.mv (T 79))])))))))
 (.seq
 (.ops [i_ 80 (.mv (T 12)),
 i_ 4 (.mv (T 80)),
 i_ 5 (.mv (KB true))])
 .ret)))))))
def m63 : MF := ⟨81, [(.tmp 4), (.tmp 5)], c63⟩
theorem r63 : resF Tryz.prog Tryz.f63 = some m63 := by kernel_rfl
def c64 : MC :=
 (.seq
 (.ops [i_ 3 (.box 141 (T 1)),
 i_ 4 (.mv (KB false))])
 (.seq
 (.dops <|
 .op 0 (i_ 6 (.mv (T 0))) <|
 .op 1 (i_ 7 (.faddr 2 (T 3))) <|
 .op 2 (i_ 8 (.faddr 0 (T 7))) <|
 .op 3 (i_ 9 (.ld1 (T 8))) <|
 .op 4 (i_ 10 (.iaddr 1 (T 6) (T 9))) <|
 .op 5 (i_ 11 (.ld1 (T 10))) <|
 .op 6 (i_ 12 (.faddr 2 (T 3))) <|
 .op 7 (i_ 13 (.faddr 1 (T 12))) <|
 .op 8 (i_ 14 (.ld1 (T 13))) <|
 .op 9 (i_ 15 (.iaddr 1 (T 11) (T 14))) <|
 .op 10 (i_ 16 (.ld1 (T 15))) <|
 .op 11 (i_ 5 (.mv (T 16))) <|
 .nil)
 (.seq
 (.seq
 (.ops [i_ 17 (.faddr 4 (T 3)),
 i_ 18 (.ld1 (T 17))])
 (.cond (T 18)
 (.ops [i_ 19 (.mv (T 5)),
 i_ 20 (.ib .add (T 19) (KI 1)),
 i_ 5 (.mv (T 20))])
 .skip))
 (.seq
 (.seq
 (.dops <|
 .op 0 (i_ 21 (.mv (T 0))) <|
 .op 1 (i_ 22 (.faddr 0 (T 3))) <|
 .op 2 (i_ 23 (.faddr 0 (T 22))) <|
 .op 3 (i_ 24 (.ld1 (T 23))) <|
 .op 4 (i_ 25 (.iaddr 1 (T 21) (T 24))) <|
 .op 5 (i_ 26 (.ld1 (T 25))) <|
 .op 6 (i_ 27 (.faddr 0 (T 3))) <|
 .op 7 (i_ 28 (.faddr 1 (T 27))) <|
 .op 8 (i_ 29 (.ld1 (T 28))) <|
 .op 9 (i_ 30 (.iaddr 1 (T 26) (T 29))) <|
 .op 10 (i_ 31 (.ld1 (T 30))) <|
 .op 11 (i_ 32 (.mv (T 5))) <|
 .op 12 (i_ 33 (.ib .geq (T 31) (T 32))) <|
 .nil)
 (.cond (T 33)
 (.seq
 (.ops [i_ 4 (.mv (KB false))])
 .ret)
 .skip))
 (.seq
 (.dops <|
 .op 0 (i_ 34 (.mv (T 0))) <|
 .op 1 (i_ 35 (.faddr 0 (T 3))) <|
 .op 2 (i_ 36 (.faddr 0 (T 35))) <|
 .op 3 (i_ 37 (.ld1 (T 36))) <|
 .op 4 (i_ 38 (.iaddr 1 (T 34) (T 37))) <|
 .op 5 (i_ 39 (.ld1 (T 38))) <|
 .op 6 (i_ 40 (.faddr 0 (T 3))) <|
 .op 7 (i_ 41 (.faddr 1 (T 40))) <|
 .op 8 (i_ 42 (.ld1 (T 41))) <|
 .op 9 (i_ 43 (.mv (T 5))) <|
 .op 10 (i_ 44 (.iaddr 1 (T 39) (T 42))) <|
 .op 11 (nd_ (.st 1 (T 44) (T 43)) [5, 3, 8]) <|
 .nil)
 (.seq
 (.ops [i_ 4 (.mv (KB true))])
 .ret))))))
def m64 : MF := ⟨45, [(.tmp 4)], c64⟩
theorem r64 : resF Tryz.prog Tryz.f64 = some m64 := by kernel_rfl
def c65 : MC :=
 (.seq
 (.ops [i_ 4 (.mv (KI 0)),
 i_ 5 (.mv (KI 0))])
 (.seq
 (.seq
 (.ops [i_ 12 (.mv (T 1)),
 i_ 13 (.ib .lss (T 12) (KI 0))])
 (.cond (T 13)
 (.seq
 (.ops [i_ 4 (.mv (KI (-1))),
 i_ 5 (.mv (KI 0))])
 .ret)
 .skip))
 (.seq
 (.ops [i_ 14 (.mv (T 0)),
 i_ 15 (.mv (T 1)),
 i_ 16 (.iaddr 5 (T 14) (T 15)),
 i_ 17 (.ldN 5 (T 16)),
 i_ 6 (.alloc 100 [(.int .i64 0), (.string ⟨⟨[]⟩⟩), (.string ⟨⟨[]⟩⟩), (.int .i64 0), (.int .i64 0)]),
 n_ (.st 5 (T 6) (T 17))])
 (.seq
 (.seq
 (.ops [i_ 18 (.faddr 0 (T 6)),
 i_ 19 (.ld1 (T 18)),
 i_ 20 (.ib .eql (T 19) (KI 4)),
 i_ 21 (.mv (T 20)),
 ig 22 21 false (.faddr 0 (T 6)),
 ig 23 21 false (.ld1 (T 22)),
 ig 24 21 false (.ib .eql (T 23) (KI 5)),
 i_ 25 (.pick (T 21) (KB true) (T 24)),
 i_ 26 (.mv (T 25)),
 ig 27 26 false (.faddr 0 (T 6)),
 ig 28 26 false (.ld1 (T 27)),
 ig 29 26 false (.ib .eql (T 28) (KI 6)),
 i_ 30 (.pick (T 26) (KB true) (T 29))])
 (.cond (T 30)
 (.seq
 (.ops [i_ 32 (.mv (T 0)),
 i_ 33 (.mv (T 1)),
 i_ 34 (.ib .sub (T 33) (KI 1)),
 i_ 35 (.call 65 [(T 32), (T 34)]),
 i_ 31 (.mv (T 35)),
 i_ 36 (.ext (T 31) 0),
 i_ 37 (.ext (T 31) 1),
 i_ 7 (.mv (T 36)),
 i_ 8 (.mv (T 37))])
 (.seq
 (.seq
 (.ops [i_ 38 (.mv (T 7)),
 i_ 39 (.ib .lss (T 38) (KI 0))])
 (.cond (T 39)
 (.seq
 (.ops [i_ 4 (.mv (KI (-1))),
 i_ 5 (.mv (KI 0))])
 .ret)
 .skip))
 (.seq
 (.ops [i_ 41 (.mv (T 0)),
 i_ 42 (.mv (T 7)),
 i_ 43 (.ib .sub (T 42) (KI 1)),
 i_ 44 (.call 65 [(T 41), (T 43)]),
 i_ 40 (.mv (T 44)),
 i_ 45 (.ext (T 40) 0),
 i_ 46 (.ext (T 40) 1),
 i_ 9 (.mv (T 45)),
 i_ 10 (.mv (T 46))])
 (.seq
 (.seq
 (.ops [i_ 47 (.mv (T 9)),
 i_ 48 (.ib .lss (T 47) (KI 0)),
 i_ 49 (.mv (T 48)),
 ig 50 49 false (.faddr 3 (T 6)),
 ig 51 49 false (.ld1 (T 50)),
 ig 52 49 false (.mv (T 7)),
 ig 53 49 false (.ib .sub (T 52) (KI 1)),
 ig 54 49 false (.ib .neq (T 51) (T 53)),
 i_ 55 (.pick (T 49) (KB true) (T 54)),
 i_ 56 (.mv (T 55)),
 ig 57 56 false (.faddr 4 (T 6)),
 ig 58 56 false (.ld1 (T 57)),
 ig 59 56 false (.mv (T 1)),
 ig 60 56 false (.ib .sub (T 59) (KI 1)),
 ig 61 56 false (.ib .neq (T 58) (T 60)),
 i_ 62 (.pick (T 56) (KB true) (T 61)),
 i_ 63 (.mv (T 62)),
 ig 64 63 false (.faddr 1 (T 6)),
 ig 65 63 false (.ld1 (T 64)),
 ig 66 63 false (.sb .neq (T 65) (KS [])),
 i_ 67 (.pick (T 63) (KB true) (T 66)),
 i_ 68 (.mv (T 67)),
 ig 69 68 false (.faddr 2 (T 6)),
 ig 70 68 false (.ld1 (T 69)),
 ig 71 68 false (.sb .neq (T 70) (KS [])),
 i_ 72 (.pick (T 68) (KB true) (T 71))])
 (.cond (T 72)
 (.seq
 (.ops [i_ 4 (.mv (KI (-1))),
 i_ 5 (.mv (KI 0))])
 .ret)
 .skip))
 (.seq
 (.seq
 (.ops [i_ 73 (.mv (T 10)),
 i_ 74 (.mv (T 8)),
 i_ 75 (.ib .gtr (T 73) (T 74))])
 (.cond (T 75)
 (.seq
 (.ops [i_ 76 (.mv (T 9)),
 i_ 77 (.mv (T 10)),
 i_ 78 (.ib .add (T 77) (KI 1)),
 i_ 4 (.mv (T 76)),
 i_ 5 (.mv (T 78))])
 .ret)
 .skip))
 (.seq
 (.ops [i_ 79 (.mv (T 9)),
 i_ 80 (.mv (T 8)),
 i_ 81 (.ib .add (T 80) (KI 1)),
 i_ 4 (.mv (T 79)),
 i_ 5 (.mv (T 81))])
 .ret))))))
 .skip))
 (.seq
 (.ops [i_ 82 (.faddr 3 (T 6)),
 i_ 83 (.ld1 (T 82)),
 i_ 84 (.ib .eql (T 83) (KI 0)),
 i_ 85 (.mv (T 84)),
 ig 86 85 true (.faddr 4 (T 6)),
 ig 87 85 true (.ld1 (T 86)),
 ig 88 85 true (.ib .eql (T 87) (KI 0)),
 i_ 89 (.pick (T 85) (T 88) (KB false)),
 i_ 11 (.mv (T 89))])
 (.seq
 (.seq
 (.ops [i_ 90 (.faddr 0 (T 6)),
 i_ 91 (.ld1 (T 90)),
 i_ 92 (.ib .eql (T 91) (KI 1))])
 (.cond (T 92)
 (.ops [i_ 93 (.mv (T 11)),
 i_ 94 (.mv (T 93)),
 ig 95 94 true (.faddr 1 (T 6)),
 ig 96 94 true (.ld1 (T 95)),
 ig 97 94 true (.sb .eql (T 96) (KS [])),
 i_ 98 (.pick (T 94) (T 97) (KB false)),
 i_ 99 (.mv (T 98)),
 ig 100 99 true (.faddr 2 (T 6)),
 ig 101 99 true (.ld1 (T 100)),
 ig 102 99 true (.sb .eql (T 101) (KS [])),
 i_ 103 (.pick (T 99) (T 102) (KB false)),
 i_ 11 (.mv (T 103))])
 (.seq
 (.ops [i_ 104 (.faddr 0 (T 6)),
 i_ 105 (.ld1 (T 104)),
 i_ 106 (.ib .eql (T 105) (KI 2))])
 (.cond (T 106)
 (.ops [i_ 107 (.mv (T 11)),
 i_ 108 (.mv (T 107)),
 ig 109 108 true (.faddr 1 (T 6)),
 ig 110 108 true (.ld1 (T 109)),
 ig 111 108 true (.call 45 [(T 110)]),
 i_ 112 (.pick (T 108) (T 111) (KB false)),
 i_ 113 (.mv (T 112)),
 ig 114 113 true (.faddr 2 (T 6)),
 ig 115 113 true (.ld1 (T 114)),
 ig 116 113 true (.sb .eql (T 115) (KS [])),
 i_ 117 (.pick (T 113) (T 116) (KB false)),
 i_ 11 (.mv (T 117))])
 (.seq
 (.ops [i_ 118 (.faddr 0 (T 6)),
 i_ 119 (.ld1 (T 118)),
 i_ 120 (.ib .eql (T 119) (KI 3))])
 (.cond (T 120)
 (.ops [i_ 121 (.mv (T 11)),
 i_ 122 (.mv (T 121)),
 ig 123 122 true (.faddr 1 (T 6)),
 ig 124 122 true (.ld1 (T 123)),
 ig 125 122 true (.call 45 [(T 124)]),
 i_ 126 (.pick (T 122) (T 125) (KB false)),
 i_ 127 (.mv (T 126)),
 ig 128 127 true (.faddr 2 (T 6)),
 ig 129 127 true (.ld1 (T 128)),
 ig 130 127 true (.call 45 [(T 129)]),
 i_ 131 (.pick (T 127) (T 130) (KB false)),
 i_ 11 (.mv (T 131))])
 (.ops [i_ 11 (.mv (KB false))])))))))
 (.seq
 (.seq
 (.ops [i_ 132 (.mv (T 11)),
 i_ 133 (.not (T 132))])
 (.cond (T 133)
 (.seq
 (.ops [i_ 4 (.mv (KI (-1))),
 i_ 5 (.mv (KI 0))])
 .ret)
 .skip))
 (.seq
 (.ops [i_ 134 (.mv (T 1)),
 i_ 4 (.mv (T 134)),
 i_ 5 (.mv (KI 1))])
 .ret))))))))
def m65 : MF := ⟨135, [(.tmp 4), (.tmp 5)], c65⟩
theorem r65 : resF Tryz.prog Tryz.f65 = some m65 := by kernel_rfl
def c66 : MC :=
 (.seq
 (.ops [i_ 2 (.mv (KB false))])
 (.seq
 (.seq
 (.ops [i_ 3 (.mv (KI 0))])
 (.block 0
 (.loop [(5, 11), (11, 49), (4, 5), (2, 4)]
 (.seq
 (.seq
 (.ops [i_ 5 (.mv (T 3)),
 i_ 6 (.mv (T 0)),
 i_ 7 (.lenS (T 6)),
 i_ 8 (.ib .lss (T 5) (T 7))])
 (.cond (T 8)
 .skip
 (.exit 0)))
 (.seq
 (.block 1
 (.seq
 (.ops [i_ 11 (.mv (T 0)),
 i_ 12 (.mv (T 3)),
 i_ 13 (.idx (T 11) (T 12)),
 i_ 4 (.mv (T 13))])
 (.seq
 (.ops [i_ 14 (.mv (T 4)),
 i_ 15 (.ib .geq (T 14) (KU 97)),
 i_ 16 (.mv (T 15)),
 ig 17 16 true (.mv (T 4)),
 ig 18 16 true (.ib .leq (T 17) (KU 122)),
 i_ 19 (.pick (T 16) (T 18) (KB false)),
 i_ 20 (.mv (T 19)),
 ig 21 20 false (.mv (T 4)),
 ig 22 20 false (.ib .geq (T 21) (KU 65)),
 ig 23 20 false (.mv (T 22)),
 ig 24 23 true (.mv (T 4)),
 ig 25 23 true (.ib .leq (T 24) (KU 90)),
 ig 26 20 false (.pick (T 23) (T 25) (KB false)),
 i_ 27 (.pick (T 20) (KB true) (T 26)),
 i_ 28 (.mv (T 27)),
 ig 29 28 false (.mv (T 4)),
 ig 30 28 false (.ib .geq (T 29) (KU 48)),
 ig 31 28 false (.mv (T 30)),
 ig 32 31 true (.mv (T 4)),
 ig 33 31 true (.ib .leq (T 32) (KU 57)),
 ig 34 28 false (.pick (T 31) (T 33) (KB false)),
 i_ 35 (.pick (T 28) (KB true) (T 34)),
 i_ 36 (.mv (T 35)),
 ig 37 36 false (.mv (T 4)),
 ig 38 36 false (.ib .eql (T 37) (KU 95)),
 i_ 39 (.pick (T 36) (KB true) (T 38)),
 i_ 40 (.mv (T 39)),
 ig 41 40 false (.mv (T 4)),
 ig 42 40 false (.ib .eql (T 41) (KU 46)),
 i_ 43 (.pick (T 40) (KB true) (T 42)),
 i_ 44 (.mv (T 43)),
 ig 45 44 false (.mv (T 4)),
 ig 46 44 false (.ib .eql (T 45) (KU 45)),
 i_ 47 (.pick (T 44) (KB true) (T 46)),
 i_ 48 (.not (T 47))])
 (.cond (T 48)
 (.seq
 (.ops [i_ 2 (.mv (KB false))])
 .ret)
 .skip))))
 (.ops [i_ 9 (.mv (T 3)),
 i_ 10 (.ib .add (T 9) (KI 1)),
 i_ 3 (.mv (T 10))]))))))
 (.seq
 (.ops [i_ 49 (.mv (T 0)),
 i_ 50 (.lenS (T 49)),
 i_ 51 (.ib .geq (T 50) (KI 1)),
 i_ 52 (.mv (T 51)),
 ig 53 52 true (.mv (T 0)),
 ig 54 52 true (.lenS (T 53)),
 ig 55 52 true (.ib .leq (T 54) (KI 32)),
 i_ 56 (.pick (T 52) (T 55) (KB false)),
 i_ 2 (.mv (T 56))])
 .ret)))
def m66 : MF := ⟨57, [(.tmp 2)], c66⟩
theorem r66 : resF Tryz.prog Tryz.f66 = some m66 := by kernel_rfl
def c67 : MC :=
 (.block 0
 (.loop [(2, 17)]
 (.block 1
 (.seq
 (.ops [i_ 2 (.mv (T 0)),
 i_ 3 (.call 88 [(T 2), (FN 89)])])
 (.seq
 (.seq
 (.dops <|
 .op 0 (i_ 4 (.mv (T 0))) <|
 .op 1 (i_ 5 (.nilck (T 4))) <|
 .op 2 (i_ 6 (.faddr 0 (T 5))) <|
 .op 3 (i_ 7 (.ld1 (T 6))) <|
 .op 4 (i_ 8 (.mv (T 0))) <|
 .op 5 (i_ 9 (.nilck (T 8))) <|
 .op 6 (i_ 10 (.faddr 1 (T 9))) <|
 .op 7 (i_ 11 (.ld1 (T 10))) <|
 .op 8 (i_ 12 (.slS (T 7) (some (T 11)) none)) <|
 .op 9 (id_ 13 (.call 90 [(T 12), (KS [47, 47])]) [3, 7]) <|
 .op 10 (i_ 14 (.not (T 13))) <|
 .nil)
 (.cond (T 14)
 .ret
 .skip))
 (.ops [i_ 15 (.mv (T 0)),
 i_ 16 (.call 88 [(T 15), (FN 91)])]))))))
def m67 : MF := ⟨17, [], c67⟩
theorem r67 : resF Tryz.prog Tryz.f67 = some m67 := by kernel_rfl
theorem k67 : Callable Tryz.prog 67 := ⟨_, Tryz.func67, by kernel_rfl, by kernel_rfl⟩

def c68 : MC :=
 (.seq
 (.ops [i_ 2 (.alloc 149 [(.int .i64 0), (.string ⟨⟨[]⟩⟩), (.int .i64 0)]),
 i_ 3 (.mv (KB false))])
 (.seq
 (.ops [i_ 8 (.mv (T 0)),
 i_ 9 (.nilck (T 8)),
 i_ 10 (.faddr 1 (T 9)),
 i_ 11 (.ld1 (T 10)),
 i_ 12 (.build [(.int .i64 0), (.string ⟨⟨[]⟩⟩), (.int .i64 0)] [(2, (1, (T 11)))]),
 i_ 4 (.alloc 149 [(.int .i64 0), (.string ⟨⟨[]⟩⟩), (.int .i64 0)]),
 n_ (.st 3 (T 4) (T 12))])
 (.seq
 (.dops <|
 .op 0 (i_ 13 (.mv (T 0))) <|
 .op 1 (i_ 14 (.nilck (T 13))) <|
 .op 2 (i_ 15 (.faddr 0 (T 14))) <|
 .op 3 (i_ 16 (.ld1 (T 15))) <|
 .op 4 (i_ 17 (.mv (T 0))) <|
 .op 5 (i_ 18 (.nilck (T 17))) <|
 .op 6 (i_ 19 (.faddr 1 (T 18))) <|
 .op 7 (i_ 20 (.ld1 (T 19))) <|
 .op 8 (i_ 21 (.idx (T 16) (T 20))) <|
 .op 9 (i_ 5 (.mv (T 21))) <|
 .nil)
 (.seq
 (.block 0
 (.seq
 (.ops [i_ 24 (.mv (T 5)),
 i_ 25 (.call 92 [(T 24)]),
 i_ 23 (.mv (T 25))])
 (.cond (T 23)
 (.ops [i_ 26 (.mv (T 0)),
 i_ 27 (.call 88 [(T 26), (FN 92)]),
 i_ 28 (.faddr 0 (T 4)),
 n_ (.st 1 (T 28) (KI 1)),
 i_ 29 (.faddr 1 (T 4)),
 n_ (.st 1 (T 29) (T 27))])
 (.seq
 (.ops [i_ 31 (.mv (T 5)),
 i_ 32 (.ib .eql (T 31) (KU 34)),
 i_ 30 (.mv (T 32))])
 (.cond (T 30)
 (.seq
 (.ops [i_ 34 (.mv (T 0)),
 i_ 35 (.call 93 [(T 34)]),
 i_ 33 (.mv (T 35)),
 i_ 36 (.ext (T 33) 0),
 i_ 37 (.ext (T 33) 1),
 i_ 6 (.mv (T 36)),
 i_ 7 (.mv (T 37))])
 (.seq
 (.ops [i_ 38 (.mv (T 6)),
 i_ 39 (.faddr 0 (T 4)),
 n_ (.st 1 (T 39) (KI 2)),
 i_ 40 (.faddr 1 (T 4)),
 n_ (.st 1 (T 40) (T 38))])
 (.seq
 (.ops [i_ 41 (.ldN 3 (T 4)),
 i_ 42 (.mv (T 7)),
 n_ (.st 3 (T 2) (T 41)),
 i_ 3 (.mv (T 42))])
 .ret)))
 (.seq
 (.dops <|
 .op 0 (i_ 44 (.mv (T 0))) <|
 .op 1 (i_ 45 (.nilck (T 44))) <|
 .op 2 (i_ 46 (.faddr 0 (T 45))) <|
 .op 3 (i_ 47 (.ld1 (T 46))) <|
 .op 4 (i_ 48 (.mv (T 0))) <|
 .op 5 (i_ 49 (.nilck (T 48))) <|
 .op 6 (i_ 50 (.faddr 1 (T 49))) <|
 .op 7 (i_ 51 (.ld1 (T 50))) <|
 .op 8 (i_ 52 (.slS (T 47) (some (T 51)) none)) <|
 .op 9 (id_ 53 (.call 90 [(T 52), (KS [45, 62])]) [3, 7]) <|
 .op 10 (i_ 43 (.mv (T 53))) <|
 .nil)
 (.cond (T 43)
 (.seq
 (.ops [i_ 54 (.faddr 0 (T 4)),
 n_ (.st 1 (T 54) (KI 3)),
 i_ 55 (.faddr 1 (T 4)),
 n_ (.st 1 (T 55) (KS [45, 62]))])
 (.ops [i_ 56 (.mv (T 0)),
 i_ 57 (.nilck (T 56)),
 i_ 58 (.faddr 1 (T 57)),
 i_ 59 (.ld1 (T 58)),
 i_ 60 (.ib .add (T 59) (KI 2)),
 i_ 61 (.nilck (T 56)),
 i_ 62 (.faddr 1 (T 61)),
 n_ (.st 1 (T 62) (T 60))]))
 (.seq
 (.ops [i_ 64 (.mv (T 5)),
 i_ 65 (.call 94 [(KS [123, 125, 59, 58, 61, 124, 38, 45, 40, 41, 35, 44]), (T 64)]),
 i_ 66 (.ib .geq (T 65) (KI 0)),
 i_ 63 (.mv (T 66))])
 (.cond (T 63)
 (.seq
 (.dops <|
 .op 0 (i_ 67 (.mv (T 0))) <|
 .op 1 (i_ 68 (.nilck (T 67))) <|
 .op 2 (i_ 69 (.faddr 0 (T 68))) <|
 .op 3 (i_ 70 (.ld1 (T 69))) <|
 .op 4 (i_ 71 (.mv (T 0))) <|
 .op 5 (i_ 72 (.nilck (T 71))) <|
 .op 6 (i_ 73 (.faddr 1 (T 72))) <|
 .op 7 (i_ 74 (.ld1 (T 73))) <|
 .op 8 (i_ 75 (.mv (T 0))) <|
 .op 9 (i_ 76 (.nilck (T 75))) <|
 .op 10 (i_ 77 (.faddr 1 (T 76))) <|
 .op 11 (i_ 78 (.ld1 (T 77))) <|
 .op 12 (i_ 79 (.ib .add (T 78) (KI 1))) <|
 .op 13 (i_ 80 (.slS (T 70) (some (T 74)) (some (T 79)))) <|
 .op 14 (i_ 81 (.faddr 0 (T 4))) <|
 .op 15 (n_ (.st 1 (T 81) (KI 3))) <|
 .op 16 (i_ 82 (.faddr 1 (T 4))) <|
 .op 17 (nd_ (.st 1 (T 82) (T 80)) [3, 7, 11]) <|
 .nil)
 (.ops [i_ 83 (.mv (T 0)),
 i_ 84 (.nilck (T 83)),
 i_ 85 (.faddr 1 (T 84)),
 i_ 86 (.ld1 (T 85)),
 i_ 87 (.ib .add (T 86) (KI 1)),
 i_ 88 (.nilck (T 83)),
 i_ 89 (.faddr 1 (T 88)),
 n_ (.st 1 (T 89) (T 87))]))
 (.seq
 (.ops [i_ 22 (.ldN 3 (T 4)),
 n_ (.st 3 (T 2) (T 22)),
 i_ 3 (.mv (KB false))])
 .ret))))))))))
 (.seq
 (.ops [i_ 90 (.ldN 3 (T 4)),
 n_ (.st 3 (T 2) (T 90)),
 i_ 3 (.mv (KB true))])
 .ret)))))
def m68 : MF := ⟨91, [(.cell 2 3), (.tmp 3)], c68⟩
theorem r68 : resF Tryz.prog Tryz.f68 = some m68 := by kernel_rfl
theorem k68 : Callable Tryz.prog 68 := ⟨_, Tryz.func68, by kernel_rfl, by kernel_rfl⟩

def c69 : MC :=
 (.seq
 (.ops [i_ 4 (.mv (KB false))])
 (.seq
 (.ops [i_ 6 (.mv (T 0)),
 i_ 7 (.call 95 [(T 6)]),
 i_ 5 (.alloc 149 [(.int .i64 0), (.string ⟨⟨[]⟩⟩), (.int .i64 0)]),
 n_ (.st 3 (T 5) (T 7))])
 (.seq
 (.seq
 (.ops [i_ 8 (.faddr 0 (T 5)),
 i_ 9 (.ld1 (T 8)),
 i_ 10 (.ib .eql (T 9) (KI 0)),
 i_ 11 (.mv (T 10)),
 ig 12 11 false (.faddr 0 (T 5)),
 ig 13 11 false (.ld1 (T 12)),
 ig 14 11 false (.ib .eql (T 13) (KI 2)),
 i_ 15 (.pick (T 11) (KB true) (T 14)),
 i_ 16 (.mv (T 15)),
 ig 17 16 false (.faddr 1 (T 5)),
 ig 18 16 false (.ld1 (T 17)),
 ig 19 16 false (.mv (T 1)),
 ig 20 16 false (.sb .neq (T 18) (T 19)),
 i_ 21 (.pick (T 16) (KB true) (T 20))])
 (.cond (T 21)
 (.seq
 (.ops [i_ 4 (.mv (KB false))])
 .ret)
 .skip))
 (.seq
 (.ops [i_ 22 (.mv (T 0)),
 i_ 23 (.mv (T 0)),
 i_ 24 (.nilck (T 23)),
 i_ 25 (.faddr 0 (T 24)),
 i_ 26 (.ld1 (T 25)),
 i_ 27 (.slV 3 (T 26) (some (KI 1)) none),
 i_ 28 (.nilck (T 22)),
 i_ 29 (.faddr 0 (T 28)),
 n_ (.st 1 (T 29) (T 27))])
 (.seq
 (.ops [i_ 4 (.mv (KB true))])
 .ret)))))
def m69 : MF := ⟨30, [(.tmp 4)], c69⟩
theorem r69 : resF Tryz.prog Tryz.f69 = some m69 := by kernel_rfl
theorem k69 : Callable Tryz.prog 69 := ⟨_, Tryz.func69, by kernel_rfl, by kernel_rfl⟩

def c70 : MC :=
 (.seq
 (.ops [i_ 2 (.alloc 69 [(.string ⟨⟨[]⟩⟩), (.slice none 0 0)])])
 (.seq
 (.ops [i_ 4 (.mv (T 0)),
 i_ 5 (.call 96 [(T 4)]),
 i_ 6 (.build [(.string ⟨⟨[]⟩⟩), (.slice none 0 0)] [(0, (1, (T 5)))]),
 i_ 3 (.alloc 69 [(.string ⟨⟨[]⟩⟩), (.slice none 0 0)]),
 n_ (.st 2 (T 3) (T 6))])
 (.seq
 (.ops [i_ 7 (.mv (T 0)),
 i_ 8 (.call 97 [(T 7), (KS [123])])])
 (.seq
 (.block 0
 (.loop [(9, 18)]
 (.seq
 (.seq
 (.ops [i_ 9 (.mv (T 0)),
 i_ 10 (.call 69 [(T 9), (KS [114, 101, 108, 97, 116, 105, 111, 110])])])
 (.cond (T 10)
 .skip
 (.exit 0)))
 (.block 1
 (.dops <|
 .op 0 (i_ 11 (.faddr 1 (T 3))) <|
 .op 1 (i_ 12 (.ld1 (T 11))) <|
 .op 2 (i_ 13 (.mv (T 0))) <|
 .op 3 (i_ 14 (.call 98 [(T 13)])) <|
 .op 4 (i_ 15 (.bslice 74 [(.string ⟨⟨[]⟩⟩), (.slice none 0 0), (.slice none 0 0)] 1 3 [(0, (3, (T 14)))])) <|
 .op 5 (id_ 16 (.append 74 3 64 (T 12) (T 15)) [1]) <|
 .op 6 (i_ 17 (.faddr 1 (T 3))) <|
 .op 7 (nd_ (.st 1 (T 17) (T 16)) [1]) <|
 .nil)))))
 (.seq
 (.ops [i_ 18 (.mv (T 0)),
 i_ 19 (.call 97 [(T 18), (KS [125])])])
 (.seq
 (.ops [i_ 20 (.ldN 2 (T 3)),
 n_ (.st 2 (T 2) (T 20))])
 .ret))))))
def m70 : MF := ⟨21, [(.cell 2 2)], c70⟩
theorem r70 : resF Tryz.prog Tryz.f70 = some m70 := by kernel_rfl
theorem k70 : Callable Tryz.prog 70 := ⟨_, Tryz.func70, by kernel_rfl, by kernel_rfl⟩

def c71 : MC :=
 (.seq
 (.ops [i_ 2 (.alloc 78 [(.string ⟨⟨[]⟩⟩), (.string ⟨⟨[]⟩⟩), (.string ⟨⟨[]⟩⟩), (.string ⟨⟨[]⟩⟩)])])
 (.seq
 (.ops [i_ 10 (.mv (T 0)),
 i_ 11 (.call 96 [(T 10)]),
 i_ 12 (.build [(.string ⟨⟨[]⟩⟩), (.string ⟨⟨[]⟩⟩), (.string ⟨⟨[]⟩⟩), (.string ⟨⟨[]⟩⟩)] [(0, (1, (T 11)))]),
 i_ 3 (.alloc 78 [(.string ⟨⟨[]⟩⟩), (.string ⟨⟨[]⟩⟩), (.string ⟨⟨[]⟩⟩), (.string ⟨⟨[]⟩⟩)]),
 n_ (.st 4 (T 3) (T 12))])
 (.seq
 (.ops [i_ 13 (.mv (T 0)),
 i_ 14 (.call 97 [(T 13), (KS [61])])])
 (.seq
 (.ops [i_ 15 (.mv (T 0)),
 i_ 16 (.call 95 [(T 15)]),
 i_ 4 (.alloc 149 [(.int .i64 0), (.string ⟨⟨[]⟩⟩), (.int .i64 0)]),
 n_ (.st 3 (T 4) (T 16))])
 (.seq
 (.ops [i_ 18 (.faddr 1 (T 4)),
 i_ 19 (.ld1 (T 18)),
 i_ 20 (.call 99 [(T 19), (KS [35])]),
 i_ 17 (.mv (T 20)),
 i_ 21 (.ext (T 17) 0),
 i_ 22 (.ext (T 17) 1),
 i_ 23 (.ext (T 17) 2),
 i_ 5 (.mv (T 21)),
 i_ 6 (.mv (T 22)),
 i_ 7 (.mv (T 23))])
 (.seq
 (.ops [i_ 25 (.mv (T 5)),
 i_ 26 (.call 100 [(T 25)]),
 i_ 24 (.mv (T 26)),
 i_ 27 (.ext (T 24) 0),
 i_ 28 (.ext (T 24) 1),
 i_ 8 (.alloc 76 [(.string ⟨⟨[]⟩⟩), (.string ⟨⟨[]⟩⟩)]),
 n_ (.st 2 (T 8) (T 27)),
 i_ 9 (.mv (T 28))])
 (.seq
 (.seq
 (.ops [i_ 29 (.faddr 0 (T 4)),
 i_ 30 (.ld1 (T 29)),
 i_ 31 (.ib .neq (T 30) (KI 2)),
 i_ 32 (.mv (T 31)),
 ig 33 32 false (.mv (T 9)),
 ig 34 32 false (.ib .neq (T 33) (KI 0)),
 i_ 35 (.pick (T 32) (KB true) (T 34)),
 i_ 36 (.mv (T 35)),
 ig 37 36 false (.mv (T 6)),
 ig 38 36 false (.call 55 [(T 37)]),
 ig 39 36 false (.not (T 38)),
 i_ 40 (.pick (T 36) (KB true) (T 39))])
 (.cond (T 40)
 (.seq
 (.ops [i_ 41 (.mv (T 0)),
 i_ 42 (.call 72 [(T 41)])])
 (.seq
 (.ops [i_ 43 (.ldN 4 (T 3)),
 n_ (.st 4 (T 2) (T 43))])
 .ret))
 .skip))
 (.seq
 (.ops [i_ 44 (.mv (T 0)),
 i_ 45 (.mv (T 0)),
 i_ 46 (.nilck (T 45)),
 i_ 47 (.faddr 0 (T 46)),
 i_ 48 (.ld1 (T 47)),
 i_ 49 (.slV 3 (T 48) (some (KI 1)) none),
 i_ 50 (.nilck (T 44)),
 i_ 51 (.faddr 0 (T 50)),
 n_ (.st 1 (T 51) (T 49))])
 (.seq
 (.ops [i_ 52 (.ldN 2 (T 8)),
 i_ 53 (.mv (T 6)),
 i_ 54 (.faddr 1 (T 3)),
 n_ (.st 2 (T 54) (T 52)),
 i_ 55 (.faddr 3 (T 3)),
 n_ (.st 1 (T 55) (T 53))])
 (.seq
 (.ops [i_ 56 (.mv (T 0)),
 i_ 57 (.call 97 [(T 56), (KS [59])])])
 (.seq
 (.ops [i_ 58 (.ldN 4 (T 3)),
 n_ (.st 4 (T 2) (T 58))])
 .ret)))))))))))
def m71 : MF := ⟨59, [(.cell 2 4)], c71⟩
theorem r71 : resF Tryz.prog Tryz.f71 = some m71 := by kernel_rfl
theorem k71 : Callable Tryz.prog 71 := ⟨_, Tryz.func71, by kernel_rfl, by kernel_rfl⟩

def c72 : MC :=
 (.seq
 (.ops [i_ 2 (.mv (T 0)),
 i_ 3 (.nilck (T 2)),
 i_ 4 (.faddr 1 (T 3)),
 n_ (.st 1 (T 4) (KB true))])
 (.ops [i_ 5 (.mv (T 0)),
 i_ 6 (.nilck (T 5)),
 i_ 7 (.faddr 0 (T 6)),
 n_ (.st 1 (T 7) (.const (.slice none 0 0)))]))
def m72 : MF := ⟨8, [], c72⟩
theorem r72 : resF Tryz.prog Tryz.f72 = some m72 := by kernel_rfl
theorem k72 : Callable Tryz.prog 72 := ⟨_, Tryz.func72, by kernel_rfl, by kernel_rfl⟩

def c73 : MC :=
 (.seq
 (.ops [i_ 4 (.mv (KB false))])
 (.seq
 (.ops [i_ 5 (.mv (T 0)),
 i_ 6 (.mv (T 1)),
 i_ 7 (.call 101 [(T 5), (T 6)]),
 i_ 8 (.ib .geq (T 7) (KI 0)),
 i_ 4 (.mv (T 8))])
 .ret))
def m73 : MF := ⟨9, [(.tmp 4)], c73⟩
theorem r73 : resF Tryz.prog Tryz.f73 = some m73 := by kernel_rfl
def c74 : MC :=
 (.seq
 (.ops [i_ 1 (.box 74 (T 0)),
 i_ 2 (.mv (KB false))])
 (.seq
 (.ops [i_ 3 (.faddr 1 (T 1)),
 i_ 4 (.ld1 (T 3)),
 i_ 5 (.lenV (T 4)),
 i_ 6 (.ib .gtr (T 5) (KI 8)),
 i_ 7 (.mv (T 6)),
 ig 8 7 false (.faddr 2 (T 1)),
 ig 9 7 false (.ld1 (T 8)),
 ig 10 7 false (.lenV (T 9)),
 ig 11 7 false (.ib .gtr (T 10) (KI 64)),
 i_ 12 (.pick (T 7) (KB true) (T 11)),
 i_ 13 (.mv (T 12)),
 ig 14 13 false (.faddr 2 (T 1)),
 ig 15 13 false (.ld1 (T 14)),
 ig 16 13 false (.call 56 [(T 15)]),
 ig 17 13 false (.ib .gtr (T 16) (KI 16)),
 i_ 18 (.pick (T 13) (KB true) (T 17)),
 i_ 2 (.mv (T 18))])
 .ret))
def m74 : MF := ⟨19, [(.tmp 2)], c74⟩
theorem r74 : resF Tryz.prog Tryz.f74 = some m74 := by kernel_rfl
def c75 : MC :=
 (.seq
 (.ops [i_ 4 (.mv (KB false))])
 (.seq
 (.seq
 (.ops [i_ 6 (.mv (T 0)),
 i_ 7 (.lenS (T 6)),
 i_ 8 (.mv (KI 0))])
 (.block 0
 (.loop [(9, 18), (5, 6), (4, 5), (8, 9)]
 (.seq
 (.ops [i_ 9 (.ib .lss (T 8) (T 7))])
 (.seq
 (.cond (T 9)
 .skip
 (.exit 0))
 (.seq
 (.block 1
 (.seq
 (.ops [i_ 10 (.mv (T 8)),
 i_ 5 (.mv (T 10))])
 (.seq
 (.ops [i_ 11 (.mv (T 1)),
 i_ 12 (.mv (T 0)),
 i_ 13 (.mv (T 5)),
 i_ 14 (.idx (T 12) (T 13)),
 i_ 15 (.callv (T 11) [(T 14)]),
 i_ 16 (.not (T 15))])
 (.cond (T 16)
 (.seq
 (.ops [i_ 4 (.mv (KB false))])
 .ret)
 .skip))))
 (.ops [i_ 17 (.ib .add (T 8) (KI 1)),
 i_ 8 (.mv (T 17))])))))))
 (.seq
 (.ops [i_ 18 (.mv (T 0)),
 i_ 19 (.lenS (T 18)),
 i_ 20 (.ib .geq (T 19) (KI 1)),
 i_ 21 (.mv (T 20)),
 ig 22 21 true (.mv (T 0)),
 ig 23 21 true (.lenS (T 22)),
 ig 24 21 true (.ib .leq (T 23) (KI 32)),
 i_ 25 (.pick (T 21) (T 24) (KB false)),
 i_ 4 (.mv (T 25))])
 .ret)))
def m75 : MF := ⟨26, [(.tmp 4)], c75⟩
theorem r75 : resF Tryz.prog Tryz.f75 = some m75 := by kernel_rfl
def c76 : MC :=
 (.seq
 (.ops [i_ 2 (.mv (KB false))])
 (.seq
 (.ops [i_ 3 (.mv (T 0)),
 i_ 4 (.call 77 [(T 3)]),
 i_ 5 (.mv (T 4)),
 ig 6 5 false (.mv (T 0)),
 ig 7 5 false (.call 78 [(T 6)]),
 i_ 8 (.pick (T 5) (KB true) (T 7)),
 i_ 2 (.mv (T 8))])
 .ret))
def m76 : MF := ⟨9, [(.tmp 2)], c76⟩
theorem r76 : resF Tryz.prog Tryz.f76 = some m76 := by kernel_rfl
def c77 : MC :=
 (.seq
 (.ops [i_ 2 (.mv (KB false))])
 (.seq
 (.ops [i_ 3 (.mv (T 0)),
 i_ 4 (.ib .geq (T 3) (KU 97)),
 i_ 5 (.mv (T 4)),
 ig 6 5 true (.mv (T 0)),
 ig 7 5 true (.ib .leq (T 6) (KU 122)),
 i_ 8 (.pick (T 5) (T 7) (KB false)),
 i_ 2 (.mv (T 8))])
 .ret))
def m77 : MF := ⟨9, [(.tmp 2)], c77⟩
theorem r77 : resF Tryz.prog Tryz.f77 = some m77 := by kernel_rfl
def c78 : MC :=
 (.seq
 (.ops [i_ 2 (.mv (KB false))])
 (.seq
 (.ops [i_ 3 (.mv (T 0)),
 i_ 4 (.ib .geq (T 3) (KU 48)),
 i_ 5 (.mv (T 4)),
 ig 6 5 true (.mv (T 0)),
 ig 7 5 true (.ib .leq (T 6) (KU 57)),
 i_ 8 (.pick (T 5) (T 7) (KB false)),
 i_ 9 (.mv (T 8)),
 ig 10 9 false (.mv (T 0)),
 ig 11 9 false (.ib .eql (T 10) (KU 95)),
 i_ 12 (.pick (T 9) (KB true) (T 11)),
 i_ 2 (.mv (T 12))])
 .ret))
def m78 : MF := ⟨13, [(.tmp 2)], c78⟩
theorem r78 : resF Tryz.prog Tryz.f78 = some m78 := by kernel_rfl
def c79 : MC :=
 (.seq
 (.ops [i_ 1 (.box 100 (T 0)),
 i_ 2 (.mv (KB false))])
 (.seq
 (.seq
 (.ops [i_ 3 (.faddr 3 (T 1)),
 i_ 4 (.ld1 (T 3)),
 i_ 5 (.ib .neq (T 4) (KI 0)),
 i_ 6 (.mv (T 5)),
 ig 7 6 false (.faddr 4 (T 1)),
 ig 8 6 false (.ld1 (T 7)),
 ig 9 6 false (.ib .neq (T 8) (KI 0)),
 i_ 10 (.pick (T 6) (KB true) (T 9))])
 (.cond (T 10)
 (.seq
 (.ops [i_ 2 (.mv (KB false))])
 .ret)
 .skip))
 (.seq
 (.seq
 (.ops [i_ 11 (.faddr 0 (T 1)),
 i_ 12 (.ld1 (T 11))])
 (.block 0
 (.seq
 (.ops [i_ 14 (.ib .eql (T 12) (KI 1)),
 i_ 13 (.mv (T 14))])
 (.cond (T 13)
 (.seq
 (.ops [i_ 15 (.faddr 1 (T 1)),
 i_ 16 (.ld1 (T 15)),
 i_ 17 (.sb .eql (T 16) (KS [])),
 i_ 18 (.mv (T 17)),
 ig 19 18 true (.faddr 2 (T 1)),
 ig 20 18 true (.ld1 (T 19)),
 ig 21 18 true (.sb .eql (T 20) (KS [])),
 i_ 22 (.pick (T 18) (T 21) (KB false)),
 i_ 2 (.mv (T 22))])
 .ret)
 (.seq
 (.ops [i_ 24 (.ib .eql (T 12) (KI 2)),
 i_ 23 (.mv (T 24))])
 (.cond (T 23)
 (.seq
 (.ops [i_ 25 (.faddr 1 (T 1)),
 i_ 26 (.ld1 (T 25)),
 i_ 27 (.call 55 [(T 26)]),
 i_ 28 (.mv (T 27)),
 ig 29 28 true (.faddr 2 (T 1)),
 ig 30 28 true (.ld1 (T 29)),
 ig 31 28 true (.sb .eql (T 30) (KS [])),
 i_ 32 (.pick (T 28) (T 31) (KB false)),
 i_ 2 (.mv (T 32))])
 .ret)
 (.seq
 (.ops [i_ 34 (.ib .eql (T 12) (KI 3)),
 i_ 33 (.mv (T 34))])
 (.cond (T 33)
 (.seq
 (.ops [i_ 35 (.faddr 1 (T 1)),
 i_ 36 (.ld1 (T 35)),
 i_ 37 (.call 55 [(T 36)]),
 i_ 38 (.mv (T 37)),
 ig 39 38 true (.faddr 2 (T 1)),
 ig 40 38 true (.ld1 (T 39)),
 ig 41 38 true (.call 55 [(T 40)]),
 i_ 42 (.pick (T 38) (T 41) (KB false)),
 i_ 2 (.mv (T 42))])
 .ret)
 .skip))))))))
 (.seq
 (.ops [i_ 2 (.mv (KB false))])
 .ret))))
def m79 : MF := ⟨43, [(.tmp 2)], c79⟩
theorem r79 : resF Tryz.prog Tryz.f79 = some m79 := by kernel_rfl
def c80 : MC :=
 (.seq
 (.ops [i_ 4 (.mv (KI 0))])
 (.seq
 (.seq
 (.ops [i_ 6 (.mv (T 0)),
 i_ 7 (.lenV (T 6)),
 i_ 8 (.mv (KI 0))])
 (.block 0
 (.loop [(9, 19), (5, 6), (4, 5), (8, 9)]
 (.seq
 (.ops [i_ 9 (.ib .lss (T 8) (T 7))])
 (.seq
 (.cond (T 9)
 .skip
 (.exit 0))
 (.seq
 (.block 1
 (.seq
 (.ops [i_ 10 (.mv (T 8)),
 i_ 5 (.mv (T 10))])
 (.seq
 (.ops [i_ 11 (.mv (T 1)),
 i_ 12 (.mv (T 0)),
 i_ 13 (.mv (T 5)),
 i_ 14 (.iaddr 2 (T 12) (T 13)),
 i_ 15 (.ldN 2 (T 14)),
 i_ 16 (.callv (T 11) [(T 15)])])
 (.cond (T 16)
 (.seq
 (.ops [i_ 17 (.mv (T 5)),
 i_ 4 (.mv (T 17))])
 .ret)
 .skip))))
 (.ops [i_ 18 (.ib .add (T 8) (KI 1)),
 i_ 8 (.mv (T 18))])))))))
 (.seq
 (.ops [i_ 4 (.mv (KI (-1)))])
 .ret)))
def m80 : MF := ⟨19, [(.tmp 4)], c80⟩
theorem r80 : resF Tryz.prog Tryz.f80 = some m80 := by kernel_rfl
def c81 : MC :=
 (.seq
 (.ops [i_ 4 (.mv (KI 0))])
 (.seq
 (.seq
 (.ops [i_ 6 (.mv (T 0)),
 i_ 7 (.lenV (T 6)),
 i_ 8 (.mv (KI 0))])
 (.block 0
 (.loop [(9, 19), (5, 6), (4, 5), (8, 9)]
 (.seq
 (.ops [i_ 9 (.ib .lss (T 8) (T 7))])
 (.seq
 (.cond (T 9)
 .skip
 (.exit 0))
 (.seq
 (.block 1
 (.seq
 (.ops [i_ 10 (.mv (T 8)),
 i_ 5 (.mv (T 10))])
 (.seq
 (.ops [i_ 11 (.mv (T 1)),
 i_ 12 (.mv (T 0)),
 i_ 13 (.mv (T 5)),
 i_ 14 (.iaddr 4 (T 12) (T 13)),
 i_ 15 (.ldN 4 (T 14)),
 i_ 16 (.callv (T 11) [(T 15)])])
 (.cond (T 16)
 (.seq
 (.ops [i_ 17 (.mv (T 5)),
 i_ 4 (.mv (T 17))])
 .ret)
 .skip))))
 (.ops [i_ 18 (.ib .add (T 8) (KI 1)),
 i_ 8 (.mv (T 18))])))))))
 (.seq
 (.ops [i_ 4 (.mv (KI (-1)))])
 .ret)))
def m81 : MF := ⟨19, [(.tmp 4)], c81⟩
theorem r81 : resF Tryz.prog Tryz.f81 = some m81 := by kernel_rfl
def c82 : MC :=
 (.seq
 (.ops [i_ 2 (.mv (KI 0))])
 (.seq
 (.seq
 (.ops [i_ 3 (.mv (T 0))])
 (.cond (T 3)
 (.seq
 (.ops [i_ 2 (.mv (KI 0))])
 .ret)
 .skip))
 (.seq
 (.ops [i_ 2 (.mv (KI 9))])
 .ret)))
def m82 : MF := ⟨4, [(.tmp 2)], c82⟩
theorem r82 : resF Tryz.prog Tryz.f82 = some m82 := by kernel_rfl
def c83 : MC :=
 (.seq
 (.ops [i_ 2 (.mv (KB false))])
 (.seq
 (.ops [i_ 3 (.mv (T 0)),
 i_ 4 (.call 75 [(T 3), (FN 102)]),
 i_ 2 (.mv (T 4))])
 .ret))
def m83 : MF := ⟨5, [(.tmp 2)], c83⟩
theorem r83 : resF Tryz.prog Tryz.f83 = some m83 := by kernel_rfl
def c84 : MC :=
 (.seq
 (.ops [i_ 3 (.box 137 (T 1)),
 i_ 4 (.alloc 74 [(.string ⟨⟨[]⟩⟩), (.slice none 0 0), (.slice none 0 0)])])
 (.seq
 (.dops <|
 .op 0 (i_ 5 (.mv (T 0))) <|
 .op 1 (i_ 6 (.nilck (T 5))) <|
 .op 2 (i_ 7 (.faddr 0 (T 6))) <|
 .op 3 (i_ 8 (.faddr 0 (T 7))) <|
 .op 4 (i_ 9 (.ld1 (T 8))) <|
 .op 5 (i_ 10 (.faddr 0 (T 3))) <|
 .op 6 (i_ 11 (.ld1 (T 10))) <|
 .op 7 (i_ 12 (.iaddr 2 (T 9) (T 11))) <|
 .op 8 (i_ 13 (.faddr 1 (T 12))) <|
 .op 9 (i_ 14 (.ld1 (T 13))) <|
 .op 10 (i_ 15 (.faddr 1 (T 3))) <|
 .op 11 (i_ 16 (.ld1 (T 15))) <|
 .op 12 (i_ 17 (.iaddr 3 (T 14) (T 16))) <|
 .op 13 (i_ 18 (.ldN 3 (T 17))) <|
 .op 14 (nd_ (.st 3 (T 4) (T 18)) [11, 4, 6, 9, 13]) <|
 .nil)
 .ret))
def m84 : MF := ⟨19, [(.cell 4 3)], c84⟩
theorem r84 : resF Tryz.prog Tryz.f84 = some m84 := by kernel_rfl
def c85 : MC :=
 (.seq
 (.ops [i_ 2 (.mv (.const (.slice none 0 0)))])
 (.seq
 (.ops [i_ 3 (.mv (.const (.slice none 0 0)))])
 (.seq
 (.seq
 (.ops [i_ 6 (.mv (T 0)),
 i_ 7 (.lenV (T 6)),
 i_ 8 (.mv (KI 0))])
 (.block 0
 (.loop [(9, 20), (5, 6), (3, 4), (8, 9)]
 (.seq
 (.ops [i_ 9 (.ib .lss (T 8) (T 7))])
 (.seq
 (.cond (T 9)
 .skip
 (.exit 0))
 (.seq
 (.block 1
 (.seq
 (.ops [i_ 10 (.iaddr 2 (T 6) (T 8)),
 i_ 11 (.ldN 2 (T 10)),
 i_ 5 (.alloc 97 [(.string ⟨⟨[]⟩⟩), (.string ⟨⟨[]⟩⟩)]),
 n_ (.st 2 (T 5) (T 11))])
 (.seq
 (.ops [i_ 12 (.faddr 0 (T 5)),
 i_ 13 (.ld1 (T 12)),
 i_ 14 (.sb .neq (T 13) (KS []))])
 (.cond (T 14)
 (.ops [i_ 15 (.mv (T 3)),
 i_ 16 (.ldN 2 (T 5)),
 i_ 17 (.bslice 97 [(.string ⟨⟨[]⟩⟩), (.string ⟨⟨[]⟩⟩)] 1 2 [(0, (2, (T 16)))]),
 i_ 18 (.append 97 2 32 (T 15) (T 17)),
 i_ 3 (.mv (T 18))])
 .skip))))
 (.ops [i_ 19 (.ib .add (T 8) (KI 1)),
 i_ 8 (.mv (T 19))])))))))
 (.seq
 (.ops [i_ 20 (.mv (T 3)),
 i_ 2 (.mv (T 20))])
 .ret))))
def m85 : MF := ⟨21, [(.tmp 2)], c85⟩
theorem r85 : resF Tryz.prog Tryz.f85 = some m85 := by kernel_rfl
def c86 : MC :=
 (.seq
 (.ops [i_ 2 (.mv (.const (.slice none 0 0)))])
 (.seq
 (.ops [i_ 6 (.mv (T 0)),
 i_ 7 (.lenV (T 6)),
 i_ 8 (.mkslice 4 1 1 [(.bool false)] (T 7) (T 7)),
 i_ 3 (.mv (T 8))])
 (.seq
 (.seq
 (.ops [i_ 9 (.mv (T 0)),
 i_ 10 (.lenV (T 9)),
 i_ 11 (.ib .sub (T 10) (KI 1)),
 i_ 4 (.mv (T 11))])
 (.block 0
 (.loop [(12, 16), (16, 44), (5, 6), (4, 5)]
 (.seq
 (.seq
 (.ops [i_ 12 (.mv (T 4)),
 i_ 13 (.ib .geq (T 12) (KI 0))])
 (.cond (T 13)
 .skip
 (.exit 0)))
 (.seq
 (.block 1
 (.seq
 (.ops [i_ 16 (.mv (T 0)),
 i_ 17 (.mv (T 4)),
 i_ 18 (.iaddr 5 (T 16) (T 17)),
 i_ 19 (.ldN 5 (T 18)),
 i_ 5 (.alloc 100 [(.int .i64 0), (.string ⟨⟨[]⟩⟩), (.string ⟨⟨[]⟩⟩), (.int .i64 0), (.int .i64 0)]),
 n_ (.st 5 (T 5) (T 19))])
 (.seq
 (.ops [i_ 20 (.faddr 0 (T 5)),
 i_ 21 (.ld1 (T 20)),
 i_ 22 (.ib .geq (T 21) (KI 4))])
 (.cond (T 22)
 (.seq
 (.dops <|
 .op 0 (i_ 23 (.mv (T 3))) <|
 .op 1 (i_ 24 (.faddr 3 (T 5))) <|
 .op 2 (i_ 25 (.ld1 (T 24))) <|
 .op 3 (i_ 26 (.mv (T 3))) <|
 .op 4 (i_ 27 (.mv (T 4))) <|
 .op 5 (i_ 28 (.iaddr 1 (T 26) (T 27))) <|
 .op 6 (i_ 29 (.ld1 (T 28))) <|
 .op 7 (i_ 30 (.iaddr 1 (T 23) (T 25))) <|
 .op 8 (nd_ (.st 1 (T 30) (T 29)) [2, 6]) <|
 .nil)
 (.dops <|
 .op 0 (i_ 31 (.mv (T 3))) <|
 .op 1 (i_ 32 (.faddr 4 (T 5))) <|
 .op 2 (i_ 33 (.ld1 (T 32))) <|
 .op 3 (i_ 34 (.mv (T 3))) <|
 .op 4 (i_ 35 (.mv (T 4))) <|
 .op 5 (i_ 36 (.iaddr 1 (T 34) (T 35))) <|
 .op 6 (i_ 37 (.ld1 (T 36))) <|
 .op 7 (i_ 38 (.mv (T 37))) <|
 .op 8 (ig 39 38 false (.faddr 0 (T 5))) <|
 .op 9 (ig 40 38 false (.ld1 (T 39))) <|
 .op 10 (ig 41 38 false (.ib .eql (T 40) (KI 6))) <|
 .op 11 (i_ 42 (.pick (T 38) (KB true) (T 41))) <|
 .op 12 (i_ 43 (.iaddr 1 (T 31) (T 33))) <|
 .op 13 (nd_ (.st 1 (T 43) (T 42)) [2, 6, 9]) <|
 .nil))
 .skip))))
 (.ops [i_ 14 (.mv (T 4)),
 i_ 15 (.ib .sub (T 14) (KI 1)),
 i_ 4 (.mv (T 15))]))))))
 (.seq
 (.ops [i_ 44 (.mv (T 3)),
 i_ 2 (.mv (T 44))])
 .ret))))
def m86 : MF := ⟨45, [(.tmp 2)], c86⟩
theorem r86 : resF Tryz.prog Tryz.f86 = some m86 := by kernel_rfl
def c87 : MC :=
 (.seq
 (.ops [i_ 4 (.box 137 (T 1)),
 i_ 5 (.box 100 (T 2)),
 i_ 6 (.mv (.const (.slice none 0 0))),
 i_ 7 (.mv (KB false))])
 (.seq
 (.dops <|
 .op 0 (i_ 20 (.mv (T 0))) <|
 .op 1 (i_ 21 (.nilck (T 20))) <|
 .op 2 (i_ 22 (.faddr 0 (T 21))) <|
 .op 3 (i_ 23 (.faddr 0 (T 22))) <|
 .op 4 (i_ 24 (.ld1 (T 23))) <|
 .op 5 (i_ 25 (.faddr 0 (T 4))) <|
 .op 6 (i_ 26 (.ld1 (T 25))) <|
 .op 7 (i_ 27 (.iaddr 2 (T 24) (T 26))) <|
 .op 8 (i_ 28 (.faddr 0 (T 27))) <|
 .op 9 (i_ 29 (.ld1 (T 28))) <|
 .op 10 (i_ 30 (.mv (T 0))) <|
 .op 11 (i_ 31 (.ldN 2 (T 4))) <|
 .both
 (.op 12 (id_ 32 (.call 84 [(T 30), (T 31)]) [11]) <|
 .op 13 (i_ 9 (.alloc 74 [(.string ⟨⟨[]⟩⟩), (.slice none 0 0), (.slice none 0 0)])) <|
 .op 14 (i_ 8 (.mv (T 29))) <|
 .op 15 (nd_ (.st 3 (T 9) (T 32)) [9, 6, 4, 11]) <|
 .nil)
 (.op 13 (i_ 9 (.alloc 74 [(.string ⟨⟨[]⟩⟩), (.slice none 0 0), (.slice none 0 0)])) <|
 .op 12 (id_ 32 (.call 84 [(T 30), (T 31)]) [11]) <|
 .op 14 (i_ 8 (.mv (T 29))) <|
 .op 15 (nd_ (.st 3 (T 9) (T 32)) [9, 6, 4, 11]) <|
 .nil))
 (.seq
 (.ops [i_ 10 (.mv (.const (.slice none 0 0)))])
 (.seq
 (.seq
 (.ops [i_ 33 (.faddr 0 (T 5)),
 i_ 34 (.ld1 (T 33))])
 (.block 0
 (.seq
 (.ops [i_ 36 (.ib .eql (T 34) (KI 1)),
 i_ 35 (.mv (T 36))])
 (.cond (T 35)
 (.ops [i_ 37 (.faddr 1 (T 9)),
 i_ 38 (.ld1 (T 37)),
 i_ 39 (.call 85 [(T 38)]),
 i_ 10 (.mv (T 39))])
 (.seq
 (.ops [i_ 41 (.ib .eql (T 34) (KI 2)),
 i_ 40 (.mv (T 41))])
 (.cond (T 40)
 (.ops [i_ 42 (.mv (T 8)),
 i_ 43 (.faddr 1 (T 5)),
 i_ 44 (.ld1 (T 43)),
 i_ 45 (.build [(.string ⟨⟨[]⟩⟩), (.string ⟨⟨[]⟩⟩)] [(0, (1, (T 42))), (1, (1, (T 44)))]),
 i_ 46 (.bslice 97 [(.string ⟨⟨[]⟩⟩), (.string ⟨⟨[]⟩⟩)] 1 2 [(0, (2, (T 45)))]),
 i_ 10 (.mv (T 46))])
 (.seq
 (.ops [i_ 48 (.ib .eql (T 34) (KI 3)),
 i_ 47 (.mv (T 48))])
 (.cond (T 47)
 (.seq
 (.dops <|
 .op 0 (i_ 50 (.mv (T 0))) <|
 .op 1 (i_ 51 (.nilck (T 50))) <|
 .op 2 (i_ 52 (.faddr 2 (T 51))) <|
 .op 3 (i_ 53 (.ld1 (T 52))) <|
 .op 4 (i_ 54 (.mv (T 8))) <|
 .op 5 (i_ 55 (.faddr 1 (T 5))) <|
 .op 6 (i_ 56 (.ld1 (T 55))) <|
 .op 7 (i_ 57 (.build [(.string ⟨⟨[]⟩⟩), (.string ⟨⟨[]⟩⟩)] [(0, (1, (T 54))), (1, (1, (T 56)))])) <|
 .both
 (.op 8 (id_ 58 (.raw ⟨(some 58), (.lookup 132 (T 53) (T 57) true), 138, "strata.go:76", ⟨[⟨3, .data⟩, ⟨7, .data⟩]⟩, none⟩) [6, 3]) <|
 .op 9 (i_ 49 (.mv (T 58))) <|
 .op 10 (i_ 59 (.ext (T 49) 0)) <|
 .op 11 (i_ 60 (.ext (T 49) 1)) <|
 .op 12 (i_ 11 (.alloc 137 [(.int .i64 0), (.int .i64 0)])) <|
 .op 13 (nd_ (.st 2 (T 11) (T 59)) [3, 6]) <|
 .op 14 (i_ 12 (.mv (T 60))) <|
 .nil)
 (.op 12 (i_ 11 (.alloc 137 [(.int .i64 0), (.int .i64 0)])) <|
 .op 8 (id_ 58 (.raw ⟨(some 58), (.lookup 132 (T 53) (T 57) true), 138, "strata.go:76", ⟨[⟨3, .data⟩, ⟨7, .data⟩]⟩, none⟩) [6, 3]) <|
 .op 9 (i_ 49 (.mv (T 58))) <|
 .op 10 (i_ 59 (.ext (T 49) 0)) <|
 .op 11 (i_ 60 (.ext (T 49) 1)) <|
 .op 13 (nd_ (.st 2 (T 11) (T 59)) [3, 6]) <|
 .op 14 (i_ 12 (.mv (T 60))) <|
 .nil))
 (.seq
 (.seq
 (.ops [i_ 61 (.mv (T 12)),
 i_ 62 (.not (T 61))])
 (.cond (T 62)
 (.seq
 (.ops [i_ 6 (.mv (.const (.slice none 0 0))),
 i_ 7 (.mv (KB false))])
 .ret)
 .skip))
 (.seq
 (.seq
 (.ops [i_ 63 (.mv (T 0)),
 i_ 64 (.ldN 2 (T 11)),
 i_ 65 (.call 84 [(T 63), (T 64)]),
 i_ 66 (.fld1 1 (T 65)),
 i_ 67 (.call 85 [(T 66)]),
 i_ 68 (.lenV (T 67)),
 i_ 69 (.mv (KI 0))])
 (.block 1
 (.loop [(70, 82), (14, 15), (10, 11), (69, 70)]
 (.seq
 (.ops [i_ 70 (.ib .lss (T 69) (T 68))])
 (.seq
 (.cond (T 70)
 .skip
 (.exit 1))
 (.seq
 (.block 2
 (.seq
 (.ops [i_ 71 (.iaddr 2 (T 67) (T 69)),
 i_ 72 (.ldN 2 (T 71)),
 i_ 14 (.alloc 97 [(.string ⟨⟨[]⟩⟩), (.string ⟨⟨[]⟩⟩)]),
 n_ (.st 2 (T 14) (T 72))])
 (.ops [i_ 73 (.mv (T 10)),
 i_ 74 (.faddr 0 (T 14)),
 i_ 75 (.ld1 (T 74)),
 i_ 76 (.faddr 2 (T 5)),
 i_ 77 (.ld1 (T 76)),
 i_ 78 (.build [(.string ⟨⟨[]⟩⟩), (.string ⟨⟨[]⟩⟩)] [(0, (1, (T 75))), (1, (1, (T 77)))]),
 i_ 79 (.bslice 97 [(.string ⟨⟨[]⟩⟩), (.string ⟨⟨[]⟩⟩)] 1 2 [(0, (2, (T 78)))]),
 i_ 80 (.append 97 2 32 (T 73) (T 79)),
 i_ 10 (.mv (T 80))])))
 (.ops [i_ 81 (.ib .add (T 69) (KI 1)),
 i_ 69 (.mv (T 81))])))))))
 (.seq
 (.ops [i_ 82 (.mv (T 10)),
 i_ 83 (.lenV (T 82)),
 i_ 84 (.ib .eql (T 83) (KI 0))])
 (.cond (T 84)
 (.seq
 (.ops [i_ 6 (.mv (.const (.slice none 0 0))),
 i_ 7 (.mv (KB false))])
 .ret)
 .skip)))))
 .skip))))))))
 (.seq
 (.ops [i_ 15 (.mv (.const (.slice none 0 0)))])
 (.seq
 (.seq
 (.ops [i_ 85 (.mv (T 10)),
 i_ 86 (.lenV (T 85)),
 i_ 87 (.mv (KI 0))])
 (.block 3
 (.loop [(88, 92), (17, 20), (92, 107), (6, 8), (15, 16), (87, 88)]
 (.seq
 (.ops [i_ 88 (.ib .lss (T 87) (T 86))])
 (.seq
 (.cond (T 88)
 .skip
 (.exit 3))
 (.seq
 (.block 4
 (.seq
 (.ops [i_ 89 (.iaddr 2 (T 85) (T 87)),
 i_ 90 (.ldN 2 (T 89)),
 i_ 17 (.alloc 97 [(.string ⟨⟨[]⟩⟩), (.string ⟨⟨[]⟩⟩)]),
 n_ (.st 2 (T 17) (T 90))])
 (.seq
 (.dops <|
 .op 0 (i_ 92 (.mv (T 0))) <|
 .op 1 (i_ 93 (.nilck (T 92))) <|
 .op 2 (i_ 94 (.faddr 2 (T 93))) <|
 .op 3 (i_ 95 (.ld1 (T 94))) <|
 .op 4 (i_ 96 (.ldN 2 (T 17))) <|
 .both
 (.op 5 (id_ 97 (.raw ⟨(some 97), (.lookup 132 (T 95) (T 96) true), 138, "strata.go:89", ⟨[⟨3, .data⟩, ⟨4, .data⟩]⟩, none⟩) [4, 3]) <|
 .op 6 (i_ 91 (.mv (T 97))) <|
 .op 7 (i_ 98 (.ext (T 91) 0)) <|
 .op 8 (i_ 99 (.ext (T 91) 1)) <|
 .op 9 (i_ 18 (.alloc 137 [(.int .i64 0), (.int .i64 0)])) <|
 .op 10 (nd_ (.st 2 (T 18) (T 98)) [3, 4]) <|
 .op 11 (i_ 19 (.mv (T 99))) <|
 .nil)
 (.op 9 (i_ 18 (.alloc 137 [(.int .i64 0), (.int .i64 0)])) <|
 .op 5 (id_ 97 (.raw ⟨(some 97), (.lookup 132 (T 95) (T 96) true), 138, "strata.go:89", ⟨[⟨3, .data⟩, ⟨4, .data⟩]⟩, none⟩) [4, 3]) <|
 .op 6 (i_ 91 (.mv (T 97))) <|
 .op 7 (i_ 98 (.ext (T 91) 0)) <|
 .op 8 (i_ 99 (.ext (T 91) 1)) <|
 .op 10 (nd_ (.st 2 (T 18) (T 98)) [3, 4]) <|
 .op 11 (i_ 19 (.mv (T 99))) <|
 .nil))
 (.seq
 (.seq
 (.ops [i_ 100 (.mv (T 19)),
 i_ 101 (.not (T 100))])
 (.cond (T 101)
 (.seq
 (.ops [i_ 6 (.mv (.const (.slice none 0 0))),
 i_ 7 (.mv (KB false))])
 .ret)
 .skip))
 (.ops [i_ 102 (.mv (T 15)),
 i_ 103 (.ldN 2 (T 18)),
 i_ 104 (.bslice 137 [(.int .i64 0), (.int .i64 0)] 1 2 [(0, (2, (T 103)))]),
 i_ 105 (.append 137 2 16 (T 102) (T 104)),
 i_ 15 (.mv (T 105))])))))
 (.ops [i_ 106 (.ib .add (T 87) (KI 1)),
 i_ 87 (.mv (T 106))])))))))
 (.seq
 (.ops [i_ 107 (.mv (T 15)),
 i_ 6 (.mv (T 107)),
 i_ 7 (.mv (KB true))])
 .ret)))))))
def m87 : MF := ⟨108, [(.tmp 6), (.tmp 7)], c87⟩
theorem r87 : resF Tryz.prog Tryz.f87 = some m87 := by kernel_rfl
def c88 : MC :=
 (.seq
 (.ops [i_ 4 (.mv (KS []))])
 (.seq
 (.ops [i_ 6 (.mv (T 0)),
 i_ 7 (.nilck (T 6)),
 i_ 8 (.faddr 1 (T 7)),
 i_ 9 (.ld1 (T 8)),
 i_ 5 (.mv (T 9))])
 (.seq
 (.block 0
 (.loop [(10, 40)]
 (.seq
 (.seq
 (.dops <|
 .op 0 (i_ 10 (.mv (T 0))) <|
 .op 1 (i_ 11 (.nilck (T 10))) <|
 .op 2 (i_ 12 (.faddr 1 (T 11))) <|
 .op 3 (i_ 13 (.ld1 (T 12))) <|
 .op 4 (i_ 14 (.mv (T 0))) <|
 .op 5 (i_ 15 (.nilck (T 14))) <|
 .op 6 (i_ 16 (.faddr 0 (T 15))) <|
 .op 7 (i_ 17 (.ld1 (T 16))) <|
 .op 8 (i_ 18 (.lenS (T 17))) <|
 .op 9 (i_ 19 (.ib .lss (T 13) (T 18))) <|
 .op 10 (i_ 20 (.mv (T 19))) <|
 .op 11 (ig 21 20 true (.mv (T 1))) <|
 .op 12 (ig 22 20 true (.mv (T 0))) <|
 .op 13 (ig 23 20 true (.nilck (T 22))) <|
 .op 14 (ig 24 20 true (.faddr 0 (T 23))) <|
 .op 15 (ig 25 20 true (.ld1 (T 24))) <|
 .op 16 (ig 26 20 true (.mv (T 0))) <|
 .op 17 (ig 27 20 true (.nilck (T 26))) <|
 .op 18 (ig 28 20 true (.faddr 1 (T 27))) <|
 .op 19 (ig 29 20 true (.ld1 (T 28))) <|
 .op 20 (ig 30 20 true (.idx (T 25) (T 29))) <|
 .op 21 (igd 31 20 true (.callv (T 21) [(T 30)]) [15, 19, 3, 7]) <|
 .op 22 (i_ 32 (.pick (T 20) (T 31) (KB false))) <|
 .nil)
 (.cond (T 32)
 .skip
 (.exit 0)))
 (.block 1
 (.ops [i_ 33 (.mv (T 0)),
 i_ 34 (.nilck (T 33)),
 i_ 35 (.faddr 1 (T 34)),
 i_ 36 (.ld1 (T 35)),
 i_ 37 (.ib .add (T 36) (KI 1)),
 i_ 38 (.nilck (T 33)),
 i_ 39 (.faddr 1 (T 38)),
 n_ (.st 1 (T 39) (T 37))])))))
 (.seq
 (.dops <|
 .op 0 (i_ 40 (.mv (T 0))) <|
 .op 1 (i_ 41 (.nilck (T 40))) <|
 .op 2 (i_ 42 (.faddr 0 (T 41))) <|
 .op 3 (i_ 43 (.ld1 (T 42))) <|
 .op 4 (i_ 44 (.mv (T 5))) <|
 .op 5 (i_ 45 (.mv (T 0))) <|
 .op 6 (i_ 46 (.nilck (T 45))) <|
 .op 7 (i_ 47 (.faddr 1 (T 46))) <|
 .op 8 (i_ 48 (.ld1 (T 47))) <|
 .op 9 (i_ 49 (.slS (T 43) (some (T 44)) (some (T 48)))) <|
 .op 10 (i_ 4 (.mv (T 49))) <|
 .nil)
 .ret))))
def m88 : MF := ⟨50, [(.tmp 4)], c88⟩
theorem r88 : resF Tryz.prog Tryz.f88 = some m88 := by kernel_rfl
theorem k88 : Callable Tryz.prog 88 := ⟨_, Tryz.func88, by kernel_rfl, by kernel_rfl⟩

def c89 : MC :=
 (.seq
 (.ops [i_ 2 (.mv (KB false))])
 (.seq
 (.ops [i_ 3 (.mv (T 0)),
 i_ 4 (.ib .eql (T 3) (KU 32)),
 i_ 5 (.mv (T 4)),
 ig 6 5 false (.mv (T 0)),
 ig 7 5 false (.ib .eql (T 6) (KU 9)),
 i_ 8 (.pick (T 5) (KB true) (T 7)),
 i_ 9 (.mv (T 8)),
 ig 10 9 false (.mv (T 0)),
 ig 11 9 false (.ib .eql (T 10) (KU 10)),
 i_ 12 (.pick (T 9) (KB true) (T 11)),
 i_ 13 (.mv (T 12)),
 ig 14 13 false (.mv (T 0)),
 ig 15 13 false (.ib .eql (T 14) (KU 13)),
 i_ 16 (.pick (T 13) (KB true) (T 15)),
 i_ 2 (.mv (T 16))])
 .ret))
def m89 : MF := ⟨17, [(.tmp 2)], c89⟩
theorem r89 : resF Tryz.prog Tryz.f89 = some m89 := by kernel_rfl
def c90 : MC :=
 (.seq
 (.ops [i_ 4 (.mv (KB false))])
 (.seq
 (.ops [i_ 5 (.mv (T 0)),
 i_ 6 (.mv (T 1)),
 i_ 7 (.call 103 [(T 5), (T 6)]),
 i_ 4 (.mv (T 7))])
 .ret))
def m90 : MF := ⟨8, [(.tmp 4)], c90⟩
theorem r90 : resF Tryz.prog Tryz.f90 = some m90 := by kernel_rfl
def c91 : MC :=
 (.seq
 (.ops [i_ 2 (.mv (KB false))])
 (.seq
 (.ops [i_ 3 (.mv (T 0)),
 i_ 4 (.ib .neq (T 3) (KU 10)),
 i_ 2 (.mv (T 4))])
 .ret))
def m91 : MF := ⟨5, [(.tmp 2)], c91⟩
theorem r91 : resF Tryz.prog Tryz.f91 = some m91 := by kernel_rfl
def c92 : MC :=
 (.seq
 (.ops [i_ 2 (.mv (KB false))])
 (.seq
 (.ops [i_ 3 (.mv (T 0)),
 i_ 4 (.ib .geq (T 3) (KU 97)),
 i_ 5 (.mv (T 4)),
 ig 6 5 true (.mv (T 0)),
 ig 7 5 true (.ib .leq (T 6) (KU 122)),
 i_ 8 (.pick (T 5) (T 7) (KB false)),
 i_ 9 (.mv (T 8)),
 ig 10 9 false (.mv (T 0)),
 ig 11 9 false (.ib .geq (T 10) (KU 65)),
 ig 12 9 false (.mv (T 11)),
 ig 13 12 true (.mv (T 0)),
 ig 14 12 true (.ib .leq (T 13) (KU 90)),
 ig 15 9 false (.pick (T 12) (T 14) (KB false)),
 i_ 16 (.pick (T 9) (KB true) (T 15)),
 i_ 17 (.mv (T 16)),
 ig 18 17 false (.mv (T 0)),
 ig 19 17 false (.ib .geq (T 18) (KU 48)),
 ig 20 17 false (.mv (T 19)),
 ig 21 20 true (.mv (T 0)),
 ig 22 20 true (.ib .leq (T 21) (KU 57)),
 ig 23 17 false (.pick (T 20) (T 22) (KB false)),
 i_ 24 (.pick (T 17) (KB true) (T 23)),
 i_ 25 (.mv (T 24)),
 ig 26 25 false (.mv (T 0)),
 ig 27 25 false (.ib .eql (T 26) (KU 95)),
 i_ 28 (.pick (T 25) (KB true) (T 27)),
 i_ 2 (.mv (T 28))])
 .ret))
def m92 : MF := ⟨29, [(.tmp 2)], c92⟩
theorem r92 : resF Tryz.prog Tryz.f92 = some m92 := by kernel_rfl
def c93 : MC :=
 (.seq
 (.ops [i_ 2 (.mv (KS [])),
 i_ 3 (.mv (KB false))])
 (.seq
 (.ops [i_ 5 (.mv (T 0)),
 i_ 6 (.nilck (T 5)),
 i_ 7 (.faddr 1 (T 6)),
 i_ 8 (.ld1 (T 7)),
 i_ 9 (.ib .add (T 8) (KI 1)),
 i_ 10 (.nilck (T 5)),
 i_ 11 (.faddr 1 (T 10)),
 n_ (.st 1 (T 11) (T 9))])
 (.seq
 (.ops [i_ 12 (.mv (T 0)),
 i_ 13 (.call 88 [(T 12), (FN 104)]),
 i_ 4 (.mv (T 13))])
 (.seq
 (.seq
 (.dops <|
 .op 0 (i_ 14 (.mv (T 0))) <|
 .op 1 (i_ 15 (.nilck (T 14))) <|
 .op 2 (i_ 16 (.faddr 1 (T 15))) <|
 .op 3 (i_ 17 (.ld1 (T 16))) <|
 .op 4 (i_ 18 (.mv (T 0))) <|
 .op 5 (i_ 19 (.nilck (T 18))) <|
 .op 6 (i_ 20 (.faddr 0 (T 19))) <|
 .op 7 (i_ 21 (.ld1 (T 20))) <|
 .op 8 (i_ 22 (.lenS (T 21))) <|
 .op 9 (i_ 23 (.ib .eql (T 17) (T 22))) <|
 .op 10 (i_ 24 (.mv (T 23))) <|
 .op 11 (ig 25 24 false (.mv (T 0))) <|
 .op 12 (ig 26 24 false (.nilck (T 25))) <|
 .op 13 (ig 27 24 false (.faddr 0 (T 26))) <|
 .op 14 (ig 28 24 false (.ld1 (T 27))) <|
 .op 15 (ig 29 24 false (.mv (T 0))) <|
 .op 16 (ig 30 24 false (.nilck (T 29))) <|
 .op 17 (ig 31 24 false (.faddr 1 (T 30))) <|
 .op 18 (ig 32 24 false (.ld1 (T 31))) <|
 .op 19 (ig 33 24 false (.idx (T 28) (T 32))) <|
 .op 20 (ig 34 24 false (.ib .neq (T 33) (KU 34))) <|
 .op 21 (i_ 35 (.pick (T 24) (KB true) (T 34))) <|
 .nil)
 (.cond (T 35)
 (.seq
 (.ops [i_ 2 (.mv (KS [])),
 i_ 3 (.mv (KB false))])
 .ret)
 .skip))
 (.seq
 (.ops [i_ 36 (.mv (T 0)),
 i_ 37 (.nilck (T 36)),
 i_ 38 (.faddr 1 (T 37)),
 i_ 39 (.ld1 (T 38)),
 i_ 40 (.ib .add (T 39) (KI 1)),
 i_ 41 (.nilck (T 36)),
 i_ 42 (.faddr 1 (T 41)),
 n_ (.st 1 (T 42) (T 40))])
 (.seq
 (.ops [i_ 43 (.mv (T 4)),
 i_ 2 (.mv (T 43)),
 i_ 3 (.mv (KB true))])
 .ret))))))
def m93 : MF := ⟨44, [(.tmp 2), (.tmp 3)], c93⟩
theorem r93 : resF Tryz.prog Tryz.f93 = some m93 := by kernel_rfl
theorem k93 : Callable Tryz.prog 93 := ⟨_, Tryz.func93, by kernel_rfl, by kernel_rfl⟩

def c95 : MC :=
 (.seq
 (.ops [i_ 2 (.alloc 149 [(.int .i64 0), (.string ⟨⟨[]⟩⟩), (.int .i64 0)])])
 (.seq
 (.seq
 (.ops [i_ 3 (.mv (T 0)),
 i_ 4 (.nilck (T 3)),
 i_ 5 (.faddr 0 (T 4)),
 i_ 6 (.ld1 (T 5)),
 i_ 7 (.lenV (T 6)),
 i_ 8 (.ib .eql (T 7) (KI 0))])
 (.cond (T 8)
 (.seq
 (.ops [i_ 9 (.build [(.int .i64 0), (.string ⟨⟨[]⟩⟩), (.int .i64 0)] []),
 n_ (.st 3 (T 2) (T 9))])
 .ret)
 .skip))
 (.seq
 (.ops [i_ 10 (.mv (T 0)),
 i_ 11 (.nilck (T 10)),
 i_ 12 (.faddr 0 (T 11)),
 i_ 13 (.ld1 (T 12)),
 i_ 14 (.iaddr 3 (T 13) (KI 0)),
 i_ 15 (.ldN 3 (T 14)),
 n_ (.st 3 (T 2) (T 15))])
 .ret)))
def m95 : MF := ⟨16, [(.cell 2 3)], c95⟩
theorem r95 : resF Tryz.prog Tryz.f95 = some m95 := by kernel_rfl
theorem k95 : Callable Tryz.prog 95 := ⟨_, Tryz.func95, by kernel_rfl, by kernel_rfl⟩

def c96 : MC :=
 (.seq
 (.ops [i_ 2 (.mv (KS []))])
 (.seq
 (.ops [i_ 4 (.mv (T 0)),
 i_ 5 (.call 95 [(T 4)]),
 i_ 3 (.alloc 149 [(.int .i64 0), (.string ⟨⟨[]⟩⟩), (.int .i64 0)]),
 n_ (.st 3 (T 3) (T 5))])
 (.seq
 (.seq
 (.ops [i_ 6 (.faddr 0 (T 3)),
 i_ 7 (.ld1 (T 6)),
 i_ 8 (.ib .neq (T 7) (KI 1)),
 i_ 9 (.mv (T 8)),
 ig 10 9 false (.faddr 1 (T 3)),
 ig 11 9 false (.ld1 (T 10)),
 ig 12 9 false (.call 55 [(T 11)]),
 ig 13 9 false (.not (T 12)),
 i_ 14 (.pick (T 9) (KB true) (T 13))])
 (.cond (T 14)
 (.seq
 (.ops [i_ 15 (.mv (T 0)),
 i_ 16 (.call 72 [(T 15)])])
 (.seq
 (.ops [i_ 2 (.mv (KS []))])
 .ret))
 .skip))
 (.seq
 (.ops [i_ 17 (.mv (T 0)),
 i_ 18 (.mv (T 0)),
 i_ 19 (.nilck (T 18)),
 i_ 20 (.faddr 0 (T 19)),
 i_ 21 (.ld1 (T 20)),
 i_ 22 (.slV 3 (T 21) (some (KI 1)) none),
 i_ 23 (.nilck (T 17)),
 i_ 24 (.faddr 0 (T 23)),
 n_ (.st 1 (T 24) (T 22))])
 (.seq
 (.ops [i_ 25 (.faddr 1 (T 3)),
 i_ 26 (.ld1 (T 25)),
 i_ 2 (.mv (T 26))])
 .ret)))))
def m96 : MF := ⟨27, [(.tmp 2)], c96⟩
theorem r96 : resF Tryz.prog Tryz.f96 = some m96 := by kernel_rfl
theorem k96 : Callable Tryz.prog 96 := ⟨_, Tryz.func96, by kernel_rfl, by kernel_rfl⟩

def c97 : MC :=
 (.seq
 (.ops [i_ 4 (.mv (T 0)),
 i_ 5 (.mv (T 1)),
 i_ 6 (.call 69 [(T 4), (T 5)]),
 i_ 7 (.not (T 6))])
 (.cond (T 7)
 (.ops [i_ 8 (.mv (T 0)),
 i_ 9 (.call 72 [(T 8)])])
 .skip))
def m97 : MF := ⟨10, [], c97⟩
theorem r97 : resF Tryz.prog Tryz.f97 = some m97 := by kernel_rfl
theorem k97 : Callable Tryz.prog 97 := ⟨_, Tryz.func97, by kernel_rfl, by kernel_rfl⟩

def c98 : MC :=
 (.seq
 (.ops [i_ 2 (.alloc 74 [(.string ⟨⟨[]⟩⟩), (.slice none 0 0), (.slice none 0 0)])])
 (.seq
 (.ops [i_ 4 (.mv (T 0)),
 i_ 5 (.call 96 [(T 4)]),
 i_ 6 (.build [(.int .i64 0), (.string ⟨⟨[]⟩⟩), (.string ⟨⟨[]⟩⟩), (.int .i64 0), (.int .i64 0)] [(0, (1, (KI 1)))]),
 i_ 7 (.bslice 100 [(.int .i64 0), (.string ⟨⟨[]⟩⟩), (.string ⟨⟨[]⟩⟩), (.int .i64 0), (.int .i64 0)] 1 5 [(0, (5, (T 6)))]),
 i_ 8 (.build [(.string ⟨⟨[]⟩⟩), (.slice none 0 0), (.slice none 0 0)] [(0, (1, (T 5))), (2, (1, (T 7)))]),
 i_ 3 (.alloc 74 [(.string ⟨⟨[]⟩⟩), (.slice none 0 0), (.slice none 0 0)]),
 n_ (.st 3 (T 3) (T 8))])
 (.seq
 (.seq
 (.ops [i_ 9 (.mv (T 0)),
 i_ 10 (.call 69 [(T 9), (KS [58])])])
 (.cond (T 10)
 (.seq
 (.dops <|
 .op 0 (i_ 11 (.faddr 1 (T 3))) <|
 .op 1 (i_ 12 (.ld1 (T 11))) <|
 .op 2 (i_ 13 (.mv (T 0))) <|
 .op 3 (i_ 14 (.call 106 [(T 13)])) <|
 .op 4 (i_ 15 (.bslice 97 [(.string ⟨⟨[]⟩⟩), (.string ⟨⟨[]⟩⟩)] 1 2 [(0, (2, (T 14)))])) <|
 .op 5 (id_ 16 (.append 97 2 32 (T 12) (T 15)) [1]) <|
 .op 6 (i_ 17 (.faddr 1 (T 3))) <|
 .op 7 (nd_ (.st 1 (T 17) (T 16)) [1]) <|
 .nil)
 (.block 0
 (.loop [(18, 27)]
 (.seq
 (.seq
 (.ops [i_ 18 (.mv (T 0)),
 i_ 19 (.call 69 [(T 18), (KS [124])])])
 (.cond (T 19)
 .skip
 (.exit 0)))
 (.block 1
 (.dops <|
 .op 0 (i_ 20 (.faddr 1 (T 3))) <|
 .op 1 (i_ 21 (.ld1 (T 20))) <|
 .op 2 (i_ 22 (.mv (T 0))) <|
 .op 3 (i_ 23 (.call 106 [(T 22)])) <|
 .op 4 (i_ 24 (.bslice 97 [(.string ⟨⟨[]⟩⟩), (.string ⟨⟨[]⟩⟩)] 1 2 [(0, (2, (T 23)))])) <|
 .op 5 (id_ 25 (.append 97 2 32 (T 21) (T 24)) [1]) <|
 .op 6 (i_ 26 (.faddr 1 (T 3))) <|
 .op 7 (nd_ (.st 1 (T 26) (T 25)) [1]) <|
 .nil))))))
 .skip))
 (.seq
 (.seq
 (.ops [i_ 27 (.mv (T 0)),
 i_ 28 (.call 69 [(T 27), (KS [61])])])
 (.cond (T 28)
 (.ops [i_ 29 (.mv (T 0)),
 i_ 30 (.call 107 [(T 29), (.const (.slice none 0 0))]),
 i_ 31 (.faddr 2 (T 3)),
 n_ (.st 1 (T 31) (T 30))])
 .skip))
 (.seq
 (.ops [i_ 32 (.mv (T 0)),
 i_ 33 (.call 97 [(T 32), (KS [59])])])
 (.seq
 (.ops [i_ 34 (.ldN 3 (T 3)),
 n_ (.st 3 (T 2) (T 34))])
 .ret))))))
def m98 : MF := ⟨35, [(.cell 2 3)], c98⟩
theorem r98 : resF Tryz.prog Tryz.f98 = some m98 := by kernel_rfl
theorem k98 : Callable Tryz.prog 98 := ⟨_, Tryz.func98, by kernel_rfl, by kernel_rfl⟩

def c99 : MC :=
 (.seq
 (.ops [i_ 4 (.mv (KS [])),
 i_ 5 (.mv (KS [])),
 i_ 6 (.mv (KB false))])
 (.seq
 (.ops [i_ 7 (.mv (T 0)),
 i_ 8 (.mv (T 1)),
 i_ 9 (.call 108 [(T 7), (T 8)]),
 i_ 10 (.ext (T 9) 0),
 i_ 11 (.ext (T 9) 1),
 i_ 12 (.ext (T 9) 2),
 i_ 4 (.mv (T 10)),
 i_ 5 (.mv (T 11)),
 i_ 6 (.mv (T 12))])
 .ret))
def m99 : MF := ⟨13, [(.tmp 4), (.tmp 5), (.tmp 6)], c99⟩
theorem r99 : resF Tryz.prog Tryz.f99 = some m99 := by kernel_rfl
def c100 : MC :=
 (.seq
 (.ops [i_ 2 (.alloc 76 [(.string ⟨⟨[]⟩⟩), (.string ⟨⟨[]⟩⟩)]),
 i_ 3 (.mv (KI 0))])
 (.seq
 (.ops [i_ 9 (.mv (T 0)),
 i_ 10 (.call 99 [(T 9), (KS [58])]),
 i_ 8 (.mv (T 10)),
 i_ 11 (.ext (T 8) 0),
 i_ 12 (.ext (T 8) 1),
 i_ 13 (.ext (T 8) 2),
 i_ 4 (.mv (T 11)),
 i_ 5 (.mv (T 12)),
 i_ 6 (.mv (T 13))])
 (.seq
 (.ops [i_ 14 (.mv (T 4)),
 i_ 15 (.mv (T 5)),
 i_ 16 (.build [(.string ⟨⟨[]⟩⟩), (.string ⟨⟨[]⟩⟩)] [(0, (1, (T 14))), (1, (1, (T 15)))]),
 i_ 7 (.alloc 76 [(.string ⟨⟨[]⟩⟩), (.string ⟨⟨[]⟩⟩)]),
 n_ (.st 2 (T 7) (T 16))])
 (.seq
 (.seq
 (.ops [i_ 17 (.mv (T 6)),
 i_ 18 (.not (T 17)),
 i_ 19 (.mv (T 18)),
 ig 20 19 false (.ldN 2 (T 7)),
 ig 21 19 false (.call 62 [(T 20)]),
 ig 22 19 false (.ib .neq (T 21) (KI 0)),
 i_ 23 (.pick (T 19) (KB true) (T 22))])
 (.cond (T 23)
 (.seq
 (.ops [i_ 24 (.build [(.string ⟨⟨[]⟩⟩), (.string ⟨⟨[]⟩⟩)] []),
 n_ (.st 2 (T 2) (T 24)),
 i_ 3 (.mv (KI 4))])
 .ret)
 .skip))
 (.seq
 (.ops [i_ 25 (.ldN 2 (T 7)),
 n_ (.st 2 (T 2) (T 25)),
 i_ 3 (.mv (KI 0))])
 .ret)))))
def m100 : MF := ⟨26, [(.cell 2 2), (.tmp 3)], c100⟩
theorem r100 : resF Tryz.prog Tryz.f100 = some m100 := by kernel_rfl
def c101 : MC :=
 (.seq
 (.ops [i_ 4 (.mv (KI 0))])
 (.seq
 (.seq
 (.ops [i_ 6 (.mv (T 0)),
 i_ 7 (.lenV (T 6)),
 i_ 8 (.mv (KI 0))])
 (.block 0
 (.loop [(9, 19), (5, 6), (4, 5), (8, 9)]
 (.seq
 (.ops [i_ 9 (.ib .lss (T 8) (T 7))])
 (.seq
 (.cond (T 9)
 .skip
 (.exit 0))
 (.seq
 (.block 1
 (.seq
 (.ops [i_ 10 (.mv (T 8)),
 i_ 5 (.mv (T 10))])
 (.seq
 (.ops [i_ 11 (.mv (T 1)),
 i_ 12 (.mv (T 0)),
 i_ 13 (.mv (T 5)),
 i_ 14 (.iaddr 3 (T 12) (T 13)),
 i_ 15 (.ldN 3 (T 14)),
 i_ 16 (.callv (T 11) [(T 15)])])
 (.cond (T 16)
 (.seq
 (.ops [i_ 17 (.mv (T 5)),
 i_ 4 (.mv (T 17))])
 .ret)
 .skip))))
 (.ops [i_ 18 (.ib .add (T 8) (KI 1)),
 i_ 8 (.mv (T 18))])))))))
 (.seq
 (.ops [i_ 4 (.mv (KI (-1)))])
 .ret)))
def m101 : MF := ⟨19, [(.tmp 4)], c101⟩
theorem r101 : resF Tryz.prog Tryz.f101 = some m101 := by kernel_rfl
def c102 : MC :=
 (.seq
 (.ops [i_ 2 (.mv (KB false))])
 (.seq
 (.ops [i_ 3 (.mv (T 0)),
 i_ 4 (.call 77 [(T 3)]),
 i_ 5 (.mv (T 4)),
 ig 6 5 false (.mv (T 0)),
 ig 7 5 false (.call 78 [(T 6)]),
 i_ 8 (.pick (T 5) (KB true) (T 7)),
 i_ 9 (.mv (T 8)),
 ig 10 9 false (.mv (T 0)),
 ig 11 9 false (.ib .geq (T 10) (KU 65)),
 ig 12 9 false (.mv (T 11)),
 ig 13 12 true (.mv (T 0)),
 ig 14 12 true (.ib .leq (T 13) (KU 90)),
 ig 15 9 false (.pick (T 12) (T 14) (KB false)),
 i_ 16 (.pick (T 9) (KB true) (T 15)),
 i_ 17 (.mv (T 16)),
 ig 18 17 false (.mv (T 0)),
 ig 19 17 false (.ib .eql (T 18) (KU 46)),
 i_ 20 (.pick (T 17) (KB true) (T 19)),
 i_ 21 (.mv (T 20)),
 ig 22 21 false (.mv (T 0)),
 ig 23 21 false (.ib .eql (T 22) (KU 45)),
 i_ 24 (.pick (T 21) (KB true) (T 23)),
 i_ 2 (.mv (T 24))])
 .ret))
def m102 : MF := ⟨25, [(.tmp 2)], c102⟩
theorem r102 : resF Tryz.prog Tryz.f102 = some m102 := by kernel_rfl
def c103 : MC :=
 (.seq
 (.ops [i_ 4 (.mv (KB false))])
 (.seq
 (.ops [i_ 5 (.mv (T 0)),
 i_ 6 (.lenS (T 5)),
 i_ 7 (.mv (T 1)),
 i_ 8 (.lenS (T 7)),
 i_ 9 (.ib .geq (T 6) (T 8)),
 i_ 10 (.mv (T 9)),
 ig 11 10 true (.mv (T 0)),
 ig 12 10 true (.mv (T 1)),
 ig 13 10 true (.lenS (T 12)),
 ig 14 10 true (.slS (T 11) none (some (T 13))),
 ig 15 10 true (.mv (T 1)),
 ig 16 10 true (.sb .eql (T 14) (T 15)),
 i_ 17 (.pick (T 10) (T 16) (KB false)),
 i_ 4 (.mv (T 17))])
 .ret))
def m103 : MF := ⟨18, [(.tmp 4)], c103⟩
theorem r103 : resF Tryz.prog Tryz.f103 = some m103 := by kernel_rfl
def c104 : MC :=
 (.seq
 (.ops [i_ 2 (.mv (KB false))])
 (.seq
 (.ops [i_ 3 (.mv (T 0)),
 i_ 4 (.ib .geq (T 3) (KU 32)),
 i_ 5 (.mv (T 4)),
 ig 6 5 true (.mv (T 0)),
 ig 7 5 true (.ib .leq (T 6) (KU 126)),
 i_ 8 (.pick (T 5) (T 7) (KB false)),
 i_ 9 (.mv (T 8)),
 ig 10 9 true (.mv (T 0)),
 ig 11 9 true (.ib .neq (T 10) (KU 34)),
 i_ 12 (.pick (T 9) (T 11) (KB false)),
 i_ 2 (.mv (T 12))])
 .ret))
def m104 : MF := ⟨13, [(.tmp 2)], c104⟩
theorem r104 : resF Tryz.prog Tryz.f104 = some m104 := by kernel_rfl
def c106 : MC :=
 (.seq
 (.ops [i_ 2 (.alloc 97 [(.string ⟨⟨[]⟩⟩), (.string ⟨⟨[]⟩⟩)])])
 (.seq
 (.seq
 (.ops [i_ 4 (.mv (T 0)),
 i_ 5 (.call 69 [(T 4), (KS [117, 115, 101, 114])])])
 (.cond (T 5)
 (.seq
 (.ops [i_ 6 (.build [(.string ⟨⟨[]⟩⟩), (.string ⟨⟨[]⟩⟩)] []),
 n_ (.st 2 (T 2) (T 6))])
 .ret)
 .skip))
 (.seq
 (.ops [i_ 7 (.mv (T 0)),
 i_ 8 (.call 96 [(T 7)]),
 i_ 9 (.build [(.string ⟨⟨[]⟩⟩), (.string ⟨⟨[]⟩⟩)] [(0, (1, (T 8)))]),
 i_ 3 (.alloc 97 [(.string ⟨⟨[]⟩⟩), (.string ⟨⟨[]⟩⟩)]),
 n_ (.st 2 (T 3) (T 9))])
 (.seq
 (.ops [i_ 10 (.mv (T 0)),
 i_ 11 (.call 97 [(T 10), (KS [35])])])
 (.seq
 (.ops [i_ 12 (.mv (T 0)),
 i_ 13 (.call 96 [(T 12)]),
 i_ 14 (.faddr 1 (T 3)),
 n_ (.st 1 (T 14) (T 13))])
 (.seq
 (.ops [i_ 15 (.ldN 2 (T 3)),
 n_ (.st 2 (T 2) (T 15))])
 .ret))))))
def m106 : MF := ⟨16, [(.cell 2 2)], c106⟩
theorem r106 : resF Tryz.prog Tryz.f106 = some m106 := by kernel_rfl
theorem k106 : Callable Tryz.prog 106 := ⟨_, Tryz.func106, by kernel_rfl, by kernel_rfl⟩

def c107 : MC :=
 (.seq
 (.ops [i_ 4 (.mv (.const (.slice none 0 0)))])
 (.seq
 (.ops [i_ 7 (.mv (T 0)),
 i_ 8 (.mv (T 1)),
 i_ 9 (.call 110 [(T 7), (T 8)]),
 i_ 1 (.mv (T 9))])
 (.seq
 (.seq
 (.ops [i_ 10 (.mv (T 0)),
 i_ 11 (.call 111 [(T 10)]),
 i_ 5 (.mv (T 11))])
 (.block 0
 (.loop [(12, 23), (23, 32), (6, 7), (1, 2), (5, 6)]
 (.seq
 (.seq
 (.ops [i_ 12 (.mv (T 5)),
 i_ 13 (.ib .neq (T 12) (KI 0)),
 i_ 14 (.mv (T 13)),
 ig 15 14 true (.mv (T 0)),
 ig 16 14 true (.nilck (T 15)),
 ig 17 14 true (.faddr 1 (T 16)),
 ig 18 14 true (.ld1 (T 17)),
 ig 19 14 true (.not (T 18)),
 i_ 20 (.pick (T 14) (T 19) (KB false))])
 (.cond (T 20)
 .skip
 (.exit 0)))
 (.seq
 (.block 1
 (.seq
 (.ops [i_ 23 (.mv (T 1)),
 i_ 24 (.lenV (T 23)),
 i_ 25 (.ib .sub (T 24) (KI 1)),
 i_ 6 (.mv (T 25))])
 (.ops [i_ 26 (.mv (T 0)),
 i_ 27 (.mv (T 1)),
 i_ 28 (.call 110 [(T 26), (T 27)]),
 i_ 29 (.mv (T 5)),
 i_ 30 (.mv (T 6)),
 i_ 31 (.call 112 [(T 28), (T 29), (T 30)]),
 i_ 1 (.mv (T 31))])))
 (.ops [i_ 21 (.mv (T 0)),
 i_ 22 (.call 111 [(T 21)]),
 i_ 5 (.mv (T 22))]))))))
 (.seq
 (.ops [i_ 32 (.mv (T 1)),
 i_ 4 (.mv (T 32))])
 .ret))))
def m107 : MF := ⟨33, [(.tmp 4)], c107⟩
theorem r107 : resF Tryz.prog Tryz.f107 = some m107 := by kernel_rfl
theorem k107 : Callable Tryz.prog 107 := ⟨_, Tryz.func107, by kernel_rfl, by kernel_rfl⟩

def c108 : MC :=
 (.seq
 (.ops [i_ 4 (.mv (KS [])),
 i_ 5 (.mv (KS [])),
 i_ 6 (.mv (KB false))])
 (.seq
 (.seq
 (.ops [i_ 8 (.mv (T 0)),
 i_ 9 (.mv (T 1)),
 i_ 10 (.call 113 [(T 8), (T 9)]),
 i_ 7 (.mv (T 10))])
 (.seq
 (.ops [i_ 11 (.mv (T 7)),
 i_ 12 (.ib .geq (T 11) (KI 0))])
 (.cond (T 12)
 (.seq
 (.dops <|
 .op 0 (i_ 13 (.mv (T 0))) <|
 .op 1 (i_ 14 (.mv (T 7))) <|
 .op 2 (i_ 15 (.slS (T 13) none (some (T 14)))) <|
 .op 3 (i_ 16 (.mv (T 0))) <|
 .op 4 (i_ 17 (.mv (T 7))) <|
 .op 5 (i_ 18 (.mv (T 1))) <|
 .op 6 (i_ 19 (.lenS (T 18))) <|
 .op 7 (i_ 20 (.ib .add (T 17) (T 19))) <|
 .op 8 (i_ 21 (.slS (T 16) (some (T 20)) none)) <|
 .op 9 (i_ 4 (.mv (T 15))) <|
 .op 10 (i_ 5 (.mv (T 21))) <|
 .op 11 (i_ 6 (.mv (KB true))) <|
 .nil)
 .ret)
 .skip)))
 (.seq
 (.ops [i_ 22 (.mv (T 0)),
 i_ 4 (.mv (T 22)),
 i_ 5 (.mv (KS [])),
 i_ 6 (.mv (KB false))])
 .ret)))
def m108 : MF := ⟨23, [(.tmp 4), (.tmp 5), (.tmp 6)], c108⟩
theorem r108 : resF Tryz.prog Tryz.f108 = some m108 := by kernel_rfl
def c110 : MC :=
 (.seq
 (.ops [i_ 4 (.mv (.const (.slice none 0 0)))])
 (.seq
 (.ops [i_ 6 (.mv (T 0)),
 i_ 7 (.mv (T 1)),
 i_ 8 (.call 114 [(T 6), (T 7)]),
 i_ 1 (.mv (T 8))])
 (.seq
 (.block 0
 (.loop [(9, 26), (5, 6), (1, 2)]
 (.seq
 (.seq
 (.ops [i_ 9 (.mv (T 0)),
 i_ 10 (.nilck (T 9)),
 i_ 11 (.faddr 1 (T 10)),
 i_ 12 (.ld1 (T 11)),
 i_ 13 (.not (T 12)),
 i_ 14 (.mv (T 13)),
 ig 15 14 true (.mv (T 0)),
 ig 16 14 true (.call 69 [(T 15), (KS [38])]),
 i_ 17 (.pick (T 14) (T 16) (KB false))])
 (.cond (T 17)
 .skip
 (.exit 0)))
 (.block 1
 (.seq
 (.ops [i_ 18 (.mv (T 1)),
 i_ 19 (.lenV (T 18)),
 i_ 20 (.ib .sub (T 19) (KI 1)),
 i_ 5 (.mv (T 20))])
 (.ops [i_ 21 (.mv (T 0)),
 i_ 22 (.mv (T 1)),
 i_ 23 (.call 114 [(T 21), (T 22)]),
 i_ 24 (.mv (T 5)),
 i_ 25 (.call 112 [(T 23), (KI 5), (T 24)]),
 i_ 1 (.mv (T 25))]))))))
 (.seq
 (.ops [i_ 26 (.mv (T 1)),
 i_ 4 (.mv (T 26))])
 .ret))))
def m110 : MF := ⟨27, [(.tmp 4)], c110⟩
theorem r110 : resF Tryz.prog Tryz.f110 = some m110 := by kernel_rfl
theorem k110 : Callable Tryz.prog 110 := ⟨_, Tryz.func110, by kernel_rfl, by kernel_rfl⟩

def c111 : MC :=
 (.seq
 (.ops [i_ 2 (.mv (KI 0))])
 (.seq
 (.block 0
 (.seq
 (.ops [i_ 4 (.mv (T 0)),
 i_ 5 (.call 69 [(T 4), (KS [124])]),
 i_ 3 (.mv (T 5))])
 (.cond (T 3)
 (.seq
 (.ops [i_ 2 (.mv (KI 4))])
 .ret)
 (.seq
 (.ops [i_ 7 (.mv (T 0)),
 i_ 8 (.call 69 [(T 7), (KS [45])]),
 i_ 6 (.mv (T 8))])
 (.cond (T 6)
 (.seq
 (.ops [i_ 2 (.mv (KI 6))])
 .ret)
 .skip)))))
 (.seq
 (.ops [i_ 2 (.mv (KI 0))])
 .ret)))
def m111 : MF := ⟨9, [(.tmp 2)], c111⟩
theorem r111 : resF Tryz.prog Tryz.f111 = some m111 := by kernel_rfl
theorem k111 : Callable Tryz.prog 111 := ⟨_, Tryz.func111, by kernel_rfl, by kernel_rfl⟩

def c112 : MC :=
 (.seq
 (.ops [i_ 6 (.mv (.const (.slice none 0 0)))])
 (.seq
 (.ops [i_ 7 (.mv (T 0)),
 i_ 8 (.mv (T 1)),
 i_ 9 (.mv (T 2)),
 i_ 10 (.mv (T 0)),
 i_ 11 (.lenV (T 10)),
 i_ 12 (.ib .sub (T 11) (KI 1)),
 i_ 13 (.build [(.int .i64 0), (.string ⟨⟨[]⟩⟩), (.string ⟨⟨[]⟩⟩), (.int .i64 0), (.int .i64 0)] [(0, (1, (T 8))), (3, (1, (T 9))), (4, (1, (T 12)))]),
 i_ 14 (.bslice 100 [(.int .i64 0), (.string ⟨⟨[]⟩⟩), (.string ⟨⟨[]⟩⟩), (.int .i64 0), (.int .i64 0)] 1 5 [(0, (5, (T 13)))]),
 i_ 15 (.append 100 5 56 (T 7) (T 14)),
 i_ 6 (.mv (T 15))])
 .ret))
def m112 : MF := ⟨16, [(.tmp 6)], c112⟩
theorem r112 : resF Tryz.prog Tryz.f112 = some m112 := by kernel_rfl
theorem k112 : Callable Tryz.prog 112 := ⟨_, Tryz.func112, by kernel_rfl, by kernel_rfl⟩

def c114 : MC :=
 (.seq
 (.ops [i_ 4 (.mv (.const (.slice none 0 0)))])
 (.seq
 (.block 0
 (.seq
 (.ops [i_ 7 (.mv (T 0)),
 i_ 8 (.call 69 [(T 7), (KS [116, 104, 105, 115])]),
 i_ 6 (.mv (T 8))])
 (.cond (T 6)
 (.seq
 (.ops [i_ 9 (.mv (T 1)),
 i_ 10 (.build [(.int .i64 0), (.string ⟨⟨[]⟩⟩), (.string ⟨⟨[]⟩⟩), (.int .i64 0), (.int .i64 0)] [(0, (1, (KI 1)))]),
 i_ 11 (.bslice 100 [(.int .i64 0), (.string ⟨⟨[]⟩⟩), (.string ⟨⟨[]⟩⟩), (.int .i64 0), (.int .i64 0)] 1 5 [(0, (5, (T 10)))]),
 i_ 12 (.append 100 5 56 (T 9) (T 11)),
 i_ 4 (.mv (T 12))])
 .ret)
 (.seq
 (.ops [i_ 14 (.mv (T 0)),
 i_ 15 (.call 69 [(T 14), (KS [40])]),
 i_ 13 (.mv (T 15))])
 (.cond (T 13)
 (.seq
 (.ops [i_ 16 (.mv (T 0)),
 i_ 17 (.mv (T 1)),
 i_ 18 (.call 107 [(T 16), (T 17)]),
 i_ 1 (.mv (T 18))])
 (.seq
 (.ops [i_ 19 (.mv (T 0)),
 i_ 20 (.call 97 [(T 19), (KS [41])])])
 (.seq
 (.ops [i_ 21 (.mv (T 1)),
 i_ 4 (.mv (T 21))])
 .ret)))
 .skip)))))
 (.seq
 (.ops [i_ 22 (.mv (T 0)),
 i_ 23 (.call 96 [(T 22)]),
 i_ 24 (.build [(.int .i64 0), (.string ⟨⟨[]⟩⟩), (.string ⟨⟨[]⟩⟩), (.int .i64 0), (.int .i64 0)] [(0, (1, (KI 2))), (1, (1, (T 23)))]),
 i_ 5 (.alloc 100 [(.int .i64 0), (.string ⟨⟨[]⟩⟩), (.string ⟨⟨[]⟩⟩), (.int .i64 0), (.int .i64 0)]),
 n_ (.st 5 (T 5) (T 24))])
 (.seq
 (.seq
 (.ops [i_ 25 (.mv (T 0)),
 i_ 26 (.call 69 [(T 25), (KS [45, 62])])])
 (.cond (T 26)
 (.ops [i_ 27 (.mv (T 0)),
 i_ 28 (.call 96 [(T 27)]),
 i_ 29 (.faddr 0 (T 5)),
 n_ (.st 1 (T 29) (KI 3)),
 i_ 30 (.faddr 2 (T 5)),
 n_ (.st 1 (T 30) (T 28))])
 .skip))
 (.seq
 (.ops [i_ 31 (.mv (T 1)),
 i_ 32 (.ldN 5 (T 5)),
 i_ 33 (.bslice 100 [(.int .i64 0), (.string ⟨⟨[]⟩⟩), (.string ⟨⟨[]⟩⟩), (.int .i64 0), (.int .i64 0)] 1 5 [(0, (5, (T 32)))]),
 i_ 34 (.append 100 5 56 (T 31) (T 33)),
 i_ 4 (.mv (T 34))])
 .ret)))))
def m114 : MF := ⟨35, [(.tmp 4)], c114⟩
theorem r114 : resF Tryz.prog Tryz.f114 = some m114 := by kernel_rfl
theorem k114 : Callable Tryz.prog 114 := ⟨_, Tryz.func114, by kernel_rfl, by kernel_rfl⟩

end Go.Proofs.YtcgbcbdgjhnlaaaGreat
