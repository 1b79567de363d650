/- Functions of the program, resolved: made by a program of ours; each is checked by the kernel. -/
import Derived.Test.YtcgbcbdgjhnlaaaVPB
namespace Go.Proofs.Ytcgbcbdgjhnlaaa
def c64 : MC :=
 (.seq
 (.ops [i_ 1 (.box 74 (T 0)),
 i_ 2 (.mv (.const (.slice none 0 0))),
 i_ 3 (.mv (KB false))])
 (.seq
 (.ops [i_ 13 (.ldN 2 (T 1)),
 i_ 14 (.call 65 [(T 13)]),
 i_ 4 (.mv (T 14))])
 (.seq
 (.ops [i_ 5 (.mv (.const (.slice none 0 0)))])
 (.seq
 (.ops [i_ 6 (.mv (KB true))])
 (.seq
 (.seq
 (.ops [i_ 7 (.mv (KI 0))])
 (.block 0
 (.loop [(15, 21), (21, 33), (8, 12), (33, 61), (6, 8), (61, 77), (5, 6)]
 (.seq
 (.seq
 (.ops [i_ 15 (.mv (T 7)),
 i_ 16 (.mv (T 4)),
 i_ 17 (.lenV (T 16)),
 i_ 18 (.ib .lss (T 15) (T 17))])
 (.cond (T 18)
 .skip
 (.exit 0)))
 (.seq
 (.block 1
 (.seq
 (.ops [i_ 21 (.mv (T 4)),
 i_ 22 (.mv (T 7)),
 i_ 23 (.iaddr 4 (T 21) (T 22)),
 i_ 24 (.faddr 1 (T 23)),
 i_ 25 (.ldN 3 (T 24)),
 i_ 8 (.alloc 88 [(.string ⟨⟨[]⟩⟩), (.slice none 0 0), (.slice none 0 0)]),
 n_ (.st 3 (T 8) (T 25))])
 (.seq
 (.seq
 (.ops [i_ 9 (.mv (KI 0))])
 (.block 2
 (.loop [(26, 33), (33, 60), (6, 7), (9, 10)]
 (.seq
 (.seq
 (.ops [i_ 26 (.mv (T 9)),
 i_ 27 (.faddr 1 (T 8)),
 i_ 28 (.ld1 (T 27)),
 i_ 29 (.lenV (T 28)),
 i_ 30 (.ib .lss (T 26) (T 29))])
 (.cond (T 30)
 .skip
 (.exit 2)))
 (.seq
 (.block 3
 (.dops <|
 .op 0 (i_ 33 (.mv (T 6))) <|
 .op 1 (i_ 34 (.mv (T 33))) <|
 .op 2 (ig 35 34 true (.faddr 1 (T 8))) <|
 .op 3 (ig 36 34 true (.ld1 (T 35))) <|
 .op 4 (ig 37 34 true (.mv (T 9))) <|
 .op 5 (ig 38 34 true (.iaddr 2 (T 36) (T 37))) <|
 .op 6 (ig 39 34 true (.faddr 0 (T 38))) <|
 .op 7 (ig 40 34 true (.ld1 (T 39))) <|
 .op 8 (ig 41 34 true (.sb .eql (T 40) (KS []))) <|
 .op 9 (ig 42 34 true (.mv (T 41))) <|
 .op 10 (ig 43 42 false (.mv (T 4))) <|
 .op 11 (ig 44 42 false (.faddr 1 (T 8))) <|
 .op 12 (ig 45 42 false (.ld1 (T 44))) <|
 .op 13 (ig 46 42 false (.mv (T 9))) <|
 .op 14 (ig 47 42 false (.iaddr 2 (T 45) (T 46))) <|
 .op 15 (ig 48 42 false (.faddr 0 (T 47))) <|
 .op 16 (ig 49 42 false (.ld1 (T 48))) <|
 .op 17 (ig 50 42 false (.faddr 1 (T 8))) <|
 .op 18 (ig 51 42 false (.ld1 (T 50))) <|
 .op 19 (ig 52 42 false (.mv (T 9))) <|
 .op 20 (ig 53 42 false (.iaddr 2 (T 51) (T 52))) <|
 .op 21 (ig 54 42 false (.faddr 1 (T 53))) <|
 .op 22 (ig 55 42 false (.ld1 (T 54))) <|
 .op 23 (igd 56 42 false (.call 118 [(T 43), (T 49), (T 55)]) [18, 22, 12, 16, 7, 3]) <|
 .op 24 (ig 57 42 false (.ib .geq (T 56) (KI 0))) <|
 .op 25 (ig 58 34 true (.pick (T 42) (KB true) (T 57))) <|
 .op 26 (i_ 59 (.pick (T 34) (T 58) (KB false))) <|
 .op 27 (i_ 6 (.mv (T 59))) <|
 .nil))
 (.ops [i_ 31 (.mv (T 9)),
 i_ 32 (.ib .add (T 31) (KI 1)),
 i_ 9 (.mv (T 32))]))))))
 (.seq
 (.ops [i_ 61 (.mv (T 4)),
 i_ 62 (.mv (T 7)),
 i_ 63 (.faddr 2 (T 8)),
 i_ 64 (.ld1 (T 63)),
 i_ 65 (.lenV (T 64)),
 i_ 66 (.ib .sub (T 65) (KI 1)),
 i_ 67 (.call 119 [(T 61), (T 62), (T 66), (KB false)]),
 i_ 60 (.mv (T 67)),
 i_ 68 (.ext (T 60) 0),
 i_ 69 (.ext (T 60) 1),
 i_ 10 (.mv (T 68)),
 i_ 11 (.mv (T 69))])
 (.seq
 (.ops [i_ 70 (.mv (T 6)),
 i_ 71 (.mv (T 70)),
 ig 72 71 true (.mv (T 11)),
 i_ 73 (.pick (T 71) (T 72) (KB false)),
 i_ 6 (.mv (T 73))])
 (.ops [i_ 74 (.mv (T 5)),
 i_ 75 (.mv (T 10)),
 i_ 76 (.append 109 3 24 (T 74) (T 75)),
 i_ 5 (.mv (T 76))]))))))
 (.ops [i_ 19 (.mv (T 7)),
 i_ 20 (.ib .add (T 19) (KI 1)),
 i_ 7 (.mv (T 20))]))))))
 (.seq
 (.seq
 (.ops [i_ 12 (.mv (KI 0))])
 (.block 4
 (.loop [(77, 84), (84, 103), (6, 7), (12, 13)]
 (.seq
 (.seq
 (.ops [i_ 77 (.mv (T 12)),
 i_ 78 (.faddr 1 (T 1)),
 i_ 79 (.ld1 (T 78)),
 i_ 80 (.lenV (T 79)),
 i_ 81 (.ib .lss (T 77) (T 80))])
 (.cond (T 81)
 .skip
 (.exit 4)))
 (.seq
 (.block 5
 (.dops <|
 .op 0 (i_ 84 (.mv (T 6))) <|
 .op 1 (i_ 85 (.mv (T 84))) <|
 .op 2 (ig 86 85 true (.mv (T 4))) <|
 .op 3 (ig 87 85 true (.faddr 1 (T 1))) <|
 .op 4 (ig 88 85 true (.ld1 (T 87))) <|
 .op 5 (ig 89 85 true (.mv (T 12))) <|
 .op 6 (ig 90 85 true (.iaddr 4 (T 88) (T 89))) <|
 .op 7 (ig 91 85 true (.faddr 1 (T 90))) <|
 .op 8 (ig 92 85 true (.faddr 0 (T 91))) <|
 .op 9 (ig 93 85 true (.ld1 (T 92))) <|
 .op 10 (ig 94 85 true (.faddr 1 (T 1))) <|
 .op 11 (ig 95 85 true (.ld1 (T 94))) <|
 .op 12 (ig 96 85 true (.mv (T 12))) <|
 .op 13 (ig 97 85 true (.iaddr 4 (T 95) (T 96))) <|
 .op 14 (ig 98 85 true (.faddr 3 (T 97))) <|
 .op 15 (ig 99 85 true (.ld1 (T 98))) <|
 .op 16 (igd 100 85 true (.call 118 [(T 86), (T 93), (T 99)]) [11, 15, 4, 9]) <|
 .op 17 (ig 101 85 true (.ib .geq (T 100) (KI 0))) <|
 .op 18 (i_ 102 (.pick (T 85) (T 101) (KB false))) <|
 .op 19 (i_ 6 (.mv (T 102))) <|
 .nil))
 (.ops [i_ 82 (.mv (T 12)),
 i_ 83 (.ib .add (T 82) (KI 1)),
 i_ 12 (.mv (T 83))]))))))
 (.seq
 (.ops [i_ 103 (.mv (T 5)),
 i_ 104 (.mv (T 6)),
 i_ 2 (.mv (T 103)),
 i_ 3 (.mv (T 104))])
 .ret)))))))
def m64 : MF := ⟨105, [(.tmp 2), (.tmp 3)], c64⟩
theorem r64 : resF Try.prog Try.f64 = some m64 := by kernel_rfl
def c65 : MC :=
 (.seq
 (.ops [i_ 1 (.box 74 (T 0)),
 i_ 2 (.mv (.const (.slice none 0 0)))])
 (.seq
 (.ops [i_ 3 (.mv (.const (.slice none 0 0)))])
 (.seq
 (.seq
 (.ops [i_ 4 (.mv (KI 0))])
 (.block 0
 (.loop [(6, 13), (5, 6), (13, 24), (24, 43), (3, 5)]
 (.seq
 (.seq
 (.ops [i_ 6 (.mv (T 4)),
 i_ 7 (.faddr 0 (T 1)),
 i_ 8 (.ld1 (T 7)),
 i_ 9 (.lenV (T 8)),
 i_ 10 (.ib .lss (T 6) (T 9))])
 (.cond (T 10)
 .skip
 (.exit 0)))
 (.seq
 (.block 1
 (.seq
 (.ops [i_ 5 (.mv (KI 0))])
 (.block 2
 (.loop [(13, 24), (24, 43), (3, 4), (5, 6)]
 (.seq
 (.seq
 (.ops [i_ 13 (.mv (T 5)),
 i_ 14 (.faddr 0 (T 1)),
 i_ 15 (.ld1 (T 14)),
 i_ 16 (.mv (T 4)),
 i_ 17 (.iaddr 2 (T 15) (T 16)),
 i_ 18 (.faddr 1 (T 17)),
 i_ 19 (.ld1 (T 18)),
 i_ 20 (.lenV (T 19)),
 i_ 21 (.ib .lss (T 13) (T 20))])
 (.cond (T 21)
 .skip
 (.exit 2)))
 (.seq
 (.block 3
 (.dops <|
 .op 0 (i_ 24 (.mv (T 3))) <|
 .op 1 (i_ 25 (.faddr 0 (T 1))) <|
 .op 2 (i_ 26 (.ld1 (T 25))) <|
 .op 3 (i_ 27 (.mv (T 4))) <|
 .op 4 (i_ 28 (.iaddr 2 (T 26) (T 27))) <|
 .op 5 (i_ 29 (.faddr 0 (T 28))) <|
 .op 6 (i_ 30 (.ld1 (T 29))) <|
 .op 7 (i_ 31 (.faddr 0 (T 1))) <|
 .op 8 (i_ 32 (.ld1 (T 31))) <|
 .op 9 (i_ 33 (.mv (T 4))) <|
 .op 10 (i_ 34 (.iaddr 2 (T 32) (T 33))) <|
 .op 11 (i_ 35 (.faddr 1 (T 34))) <|
 .op 12 (i_ 36 (.ld1 (T 35))) <|
 .op 13 (i_ 37 (.mv (T 5))) <|
 .op 14 (i_ 38 (.iaddr 3 (T 36) (T 37))) <|
 .op 15 (i_ 39 (.ldN 3 (T 38))) <|
 .op 16 (i_ 40 (.build [(.string ⟨⟨[]⟩⟩), (.string ⟨⟨[]⟩⟩), (.slice none 0 0), (.slice none 0 0)] [(0, (1, (T 30))), (1, (3, (T 39)))])) <|
 .op 17 (id_ 41 (.bslice 191 [(.string ⟨⟨[]⟩⟩), (.string ⟨⟨[]⟩⟩), (.slice none 0 0), (.slice none 0 0)] 1 4 [(0, (4, (T 40)))]) [6, 2, 15, 12, 8]) <|
 .op 18 (id_ 42 (.append 191 4 80 (T 24) (T 41)) [8, 12, 15, 2, 6]) <|
 .op 19 (i_ 3 (.mv (T 42))) <|
 .nil))
 (.ops [i_ 22 (.mv (T 5)),
 i_ 23 (.ib .add (T 22) (KI 1)),
 i_ 5 (.mv (T 23))])))))))
 (.ops [i_ 11 (.mv (T 4)),
 i_ 12 (.ib .add (T 11) (KI 1)),
 i_ 4 (.mv (T 12))]))))))
 (.seq
 (.ops [i_ 43 (.mv (T 3)),
 i_ 2 (.mv (T 43))])
 .ret))))
def m65 : MF := ⟨44, [(.tmp 2)], c65⟩
theorem r65 : resF Try.prog Try.f65 = some m65 := by kernel_rfl
theorem k65 : Callable Try.prog 65 := ⟨_, Try.func65, by kernel_rfl, by kernel_rfl⟩

def c66 : MC :=
 (.seq
 (.ops [i_ 1 (.box 74 (T 0)),
 i_ 2 (.mv (.const (.slice none 0 0))),
 i_ 3 (.mv (KI 0))])
 (.seq
 (.seq
 (.ops [i_ 15 (.ldN 2 (T 1)),
 i_ 16 (.call 120 [(T 15)]),
 i_ 17 (.not (T 16))])
 (.cond (T 17)
 (.seq
 (.ops [i_ 2 (.mv (.const (.slice none 0 0))),
 i_ 3 (.mv (KI 4))])
 .ret)
 .skip))
 (.seq
 (.seq
 (.ops [i_ 18 (.ldN 2 (T 1)),
 i_ 19 (.call 121 [(T 18)])])
 (.cond (T 19)
 (.seq
 (.ops [i_ 2 (.mv (.const (.slice none 0 0))),
 i_ 3 (.mv (KI 10))])
 .ret)
 .skip))
 (.seq
 (.ops [i_ 21 (.ldN 2 (T 1)),
 i_ 22 (.call 64 [(T 21)]),
 i_ 20 (.mv (T 22)),
 i_ 23 (.ext (T 20) 0),
 i_ 24 (.ext (T 20) 1),
 i_ 4 (.mv (T 23)),
 i_ 5 (.mv (T 24))])
 (.seq
 (.seq
 (.ops [i_ 25 (.mv (T 5)),
 i_ 26 (.not (T 25))])
 (.cond (T 26)
 (.seq
 (.ops [i_ 2 (.mv (.const (.slice none 0 0))),
 i_ 3 (.mv (KI 14))])
 .ret)
 .skip))
 (.seq
 (.ops [i_ 27 (.ldN 2 (T 1)),
 i_ 28 (.call 65 [(T 27)]),
 i_ 29 (.lenV (T 28)),
 i_ 6 (.mv (T 29))])
 (.seq
 (.ops [i_ 30 (.mv (T 4)),
 i_ 31 (.mv (T 6)),
 i_ 32 (.mv (T 6)),
 i_ 33 (.ib .add (T 32) (KI 1)),
 i_ 34 (.call 122 [(T 30), (T 31), (T 33)]),
 i_ 7 (.mv (T 34))])
 (.seq
 (.ops [i_ 35 (.mv (T 4)),
 i_ 36 (.mv (T 6)),
 i_ 37 (.mv (T 6)),
 i_ 38 (.ib .add (T 37) (KI 1)),
 i_ 39 (.mv (T 6)),
 i_ 40 (.ib .add (T 39) (KI 1)),
 i_ 41 (.ib .mul (T 38) (T 40)),
 i_ 42 (.call 122 [(T 35), (T 36), (T 41)]),
 i_ 8 (.mv (T 42))])
 (.seq
 (.seq
 (.ops [i_ 9 (.mv (KI 0))])
 (.block 0
 (.loop [(43, 48), (48, 65), (2, 4), (9, 10)]
 (.seq
 (.seq
 (.ops [i_ 43 (.mv (T 9)),
 i_ 44 (.mv (T 6)),
 i_ 45 (.ib .lss (T 43) (T 44))])
 (.cond (T 45)
 .skip
 (.exit 0)))
 (.seq
 (.block 1
 (.seq
 (.dops <|
 .op 0 (i_ 48 (.mv (T 7))) <|
 .op 1 (i_ 49 (.mv (T 9))) <|
 .op 2 (i_ 50 (.iaddr 1 (T 48) (T 49))) <|
 .op 3 (i_ 51 (.ld1 (T 50))) <|
 .op 4 (i_ 52 (.mv (T 8))) <|
 .op 5 (i_ 53 (.mv (T 9))) <|
 .op 6 (i_ 54 (.iaddr 1 (T 52) (T 53))) <|
 .op 7 (i_ 55 (.ld1 (T 54))) <|
 .op 8 (i_ 56 (.ib .neq (T 51) (T 55))) <|
 .op 9 (i_ 57 (.mv (T 56))) <|
 .op 10 (ig 58 57 false (.mv (T 7))) <|
 .op 11 (ig 59 57 false (.mv (T 9))) <|
 .op 12 (ig 60 57 false (.iaddr 1 (T 58) (T 59))) <|
 .op 13 (ig 61 57 false (.ld1 (T 60))) <|
 .op 14 (ig 62 57 false (.mv (T 6))) <|
 .op 15 (ig 63 57 false (.ib .geq (T 61) (T 62))) <|
 .op 16 (i_ 64 (.pick (T 57) (KB true) (T 63))) <|
 .nil)
 (.cond (T 64)
 (.seq
 (.ops [i_ 2 (.mv (.const (.slice none 0 0))),
 i_ 3 (.mv (KI 15))])
 .ret)
 .skip)))
 (.ops [i_ 46 (.mv (T 9)),
 i_ 47 (.ib .add (T 46) (KI 1)),
 i_ 9 (.mv (T 47))]))))))
 (.seq
 (.ops [i_ 10 (.mv (.const (.slice none 0 0)))])
 (.seq
 (.ops [i_ 11 (.mv (KI 0))])
 (.seq
 (.seq
 (.ops [i_ 12 (.mv (KI 0))])
 (.block 2
 (.loop [(65, 72), (13, 15), (72, 83), (83, 96), (11, 13), (10, 11)]
 (.seq
 (.seq
 (.ops [i_ 65 (.mv (T 12)),
 i_ 66 (.faddr 0 (T 1)),
 i_ 67 (.ld1 (T 66)),
 i_ 68 (.lenV (T 67)),
 i_ 69 (.ib .lss (T 65) (T 68))])
 (.cond (T 69)
 .skip
 (.exit 2)))
 (.seq
 (.block 3
 (.seq
 (.ops [i_ 13 (.mv (.const (.slice none 0 0)))])
 (.seq
 (.seq
 (.ops [i_ 14 (.mv (KI 0))])
 (.block 4
 (.loop [(72, 83), (83, 92), (13, 15), (11, 12)]
 (.seq
 (.seq
 (.ops [i_ 72 (.mv (T 14)),
 i_ 73 (.faddr 0 (T 1)),
 i_ 74 (.ld1 (T 73)),
 i_ 75 (.mv (T 12)),
 i_ 76 (.iaddr 2 (T 74) (T 75)),
 i_ 77 (.faddr 1 (T 76)),
 i_ 78 (.ld1 (T 77)),
 i_ 79 (.lenV (T 78)),
 i_ 80 (.ib .lss (T 72) (T 79))])
 (.cond (T 80)
 .skip
 (.exit 4)))
 (.seq
 (.block 5
 (.seq
 (.ops [i_ 83 (.mv (T 13)),
 i_ 84 (.mv (T 7)),
 i_ 85 (.mv (T 11)),
 i_ 86 (.iaddr 1 (T 84) (T 85)),
 i_ 87 (.ld1 (T 86)),
 i_ 88 (.bslice 3 [(.int .i64 0)] 1 1 [(0, (1, (T 87)))]),
 i_ 89 (.append 3 1 8 (T 83) (T 88)),
 i_ 13 (.mv (T 89))])
 (.ops [i_ 90 (.mv (T 11)),
 i_ 91 (.ib .add (T 90) (KI 1)),
 i_ 11 (.mv (T 91))])))
 (.ops [i_ 81 (.mv (T 14)),
 i_ 82 (.ib .add (T 81) (KI 1)),
 i_ 14 (.mv (T 82))]))))))
 (.ops [i_ 92 (.mv (T 10)),
 i_ 93 (.mv (T 13)),
 i_ 94 (.bslice 105 [(.slice none 0 0)] 1 1 [(0, (1, (T 93)))]),
 i_ 95 (.append 105 1 24 (T 92) (T 94)),
 i_ 10 (.mv (T 95))]))))
 (.ops [i_ 70 (.mv (T 12)),
 i_ 71 (.ib .add (T 70) (KI 1)),
 i_ 12 (.mv (T 71))]))))))
 (.seq
 (.ops [i_ 96 (.mv (T 10)),
 i_ 2 (.mv (T 96)),
 i_ 3 (.mv (KI 0))])
 .ret)))))))))))))
def m66 : MF := ⟨97, [(.tmp 2), (.tmp 3)], c66⟩
theorem r66 : resF Try.prog Try.f66 = some m66 := by kernel_rfl
def c67 : MC :=
 (.seq
 (.ops [i_ 4 (.mv (KB false))])
 (.seq
 (.seq
 (.ops [i_ 7 (.mv (T 0)),
 i_ 8 (.lenV (T 7)),
 i_ 9 (.mv (T 1)),
 i_ 10 (.lenV (T 9)),
 i_ 11 (.ib .neq (T 8) (T 10))])
 (.cond (T 11)
 (.seq
 (.ops [i_ 4 (.mv (KB false))])
 .ret)
 .skip))
 (.seq
 (.seq
 (.ops [i_ 5 (.mv (KI 0))])
 (.block 0
 (.loop [(12, 18), (18, 38), (4, 6), (6, 7), (38, 53)]
 (.seq
 (.seq
 (.ops [i_ 12 (.mv (T 5)),
 i_ 13 (.mv (T 0)),
 i_ 14 (.lenV (T 13)),
 i_ 15 (.ib .lss (T 12) (T 14))])
 (.cond (T 15)
 .skip
 (.exit 0)))
 (.seq
 (.block 1
 (.seq
 (.seq
 (.dops <|
 .op 0 (i_ 18 (.mv (T 0))) <|
 .op 1 (i_ 19 (.mv (T 5))) <|
 .op 2 (i_ 20 (.iaddr 1 (T 18) (T 19))) <|
 .op 3 (i_ 21 (.ld1 (T 20))) <|
 .op 4 (i_ 22 (.lenV (T 21))) <|
 .op 5 (i_ 23 (.mv (T 1))) <|
 .op 6 (i_ 24 (.mv (T 5))) <|
 .op 7 (i_ 25 (.iaddr 1 (T 23) (T 24))) <|
 .op 8 (i_ 26 (.ld1 (T 25))) <|
 .op 9 (i_ 27 (.lenV (T 26))) <|
 .op 10 (i_ 28 (.ib .neq (T 22) (T 27))) <|
 .nil)
 (.cond (T 28)
 (.seq
 (.ops [i_ 4 (.mv (KB false))])
 .ret)
 .skip))
 (.seq
 (.ops [i_ 6 (.mv (KI 0))])
 (.block 2
 (.loop [(29, 38), (38, 53), (4, 5), (6, 7)]
 (.seq
 (.seq
 (.ops [i_ 29 (.mv (T 6)),
 i_ 30 (.mv (T 0)),
 i_ 31 (.mv (T 5)),
 i_ 32 (.iaddr 1 (T 30) (T 31)),
 i_ 33 (.ld1 (T 32)),
 i_ 34 (.lenV (T 33)),
 i_ 35 (.ib .lss (T 29) (T 34))])
 (.cond (T 35)
 .skip
 (.exit 2)))
 (.seq
 (.block 3
 (.seq
 (.dops <|
 .op 0 (i_ 38 (.mv (T 0))) <|
 .op 1 (i_ 39 (.mv (T 5))) <|
 .op 2 (i_ 40 (.iaddr 1 (T 38) (T 39))) <|
 .op 3 (i_ 41 (.ld1 (T 40))) <|
 .op 4 (i_ 42 (.mv (T 6))) <|
 .op 5 (i_ 43 (.iaddr 1 (T 41) (T 42))) <|
 .op 6 (i_ 44 (.ld1 (T 43))) <|
 .op 7 (i_ 45 (.mv (T 1))) <|
 .op 8 (i_ 46 (.mv (T 5))) <|
 .op 9 (i_ 47 (.iaddr 1 (T 45) (T 46))) <|
 .op 10 (i_ 48 (.ld1 (T 47))) <|
 .op 11 (i_ 49 (.mv (T 6))) <|
 .op 12 (i_ 50 (.iaddr 1 (T 48) (T 49))) <|
 .op 13 (i_ 51 (.ld1 (T 50))) <|
 .op 14 (i_ 52 (.ib .neq (T 44) (T 51))) <|
 .nil)
 (.cond (T 52)
 (.seq
 (.ops [i_ 4 (.mv (KB false))])
 .ret)
 .skip)))
 (.ops [i_ 36 (.mv (T 6)),
 i_ 37 (.ib .add (T 36) (KI 1)),
 i_ 6 (.mv (T 37))]))))))))
 (.ops [i_ 16 (.mv (T 5)),
 i_ 17 (.ib .add (T 16) (KI 1)),
 i_ 5 (.mv (T 17))]))))))
 (.seq
 (.ops [i_ 4 (.mv (KB true))])
 .ret))))
def m67 : MF := ⟨53, [(.tmp 4)], c67⟩
theorem r67 : resF Try.prog Try.f67 = some m67 := by kernel_rfl
def c118 : MC :=
 (.seq
 (.ops [i_ 6 (.mv (KI 0))])
 (.seq
 (.seq
 (.ops [i_ 7 (.mv (KI 0))])
 (.block 0
 (.loop [(8, 14), (14, 32), (6, 8)]
 (.seq
 (.seq
 (.ops [i_ 8 (.mv (T 7)),
 i_ 9 (.mv (T 0)),
 i_ 10 (.lenV (T 9)),
 i_ 11 (.ib .lss (T 8) (T 10))])
 (.cond (T 11)
 .skip
 (.exit 0)))
 (.seq
 (.block 1
 (.seq
 (.ops [i_ 14 (.mv (T 0)),
 i_ 15 (.mv (T 7)),
 i_ 16 (.iaddr 4 (T 14) (T 15)),
 i_ 17 (.faddr 0 (T 16)),
 i_ 18 (.ld1 (T 17)),
 i_ 19 (.mv (T 1)),
 i_ 20 (.sb .eql (T 18) (T 19)),
 i_ 21 (.mv (T 20)),
 ig 22 21 true (.mv (T 0)),
 ig 23 21 true (.mv (T 7)),
 ig 24 21 true (.iaddr 4 (T 22) (T 23)),
 ig 25 21 true (.faddr 1 (T 24)),
 ig 26 21 true (.faddr 0 (T 25)),
 ig 27 21 true (.ld1 (T 26)),
 ig 28 21 true (.mv (T 2)),
 ig 29 21 true (.sb .eql (T 27) (T 28)),
 i_ 30 (.pick (T 21) (T 29) (KB false))])
 (.cond (T 30)
 (.seq
 (.ops [i_ 31 (.mv (T 7)),
 i_ 6 (.mv (T 31))])
 .ret)
 .skip)))
 (.ops [i_ 12 (.mv (T 7)),
 i_ 13 (.ib .add (T 12) (KI 1)),
 i_ 7 (.mv (T 13))]))))))
 (.seq
 (.ops [i_ 6 (.mv (KI (-1)))])
 .ret)))
def m118 : MF := ⟨32, [(.tmp 6)], c118⟩
theorem r118 : resF Try.prog Try.f118 = some m118 := by kernel_rfl
def c119 : MC :=
 (.seq
 (.ops [i_ 8 (.mv (.const (.slice none 0 0))),
 i_ 9 (.mv (KB false))])
 (.seq
 (.ops [i_ 10 (.mv (.const (.slice none 0 0)))])
 (.seq
 (.ops [i_ 24 (.mv (T 0)),
 i_ 25 (.mv (T 1)),
 i_ 26 (.iaddr 4 (T 24) (T 25)),
 i_ 27 (.faddr 1 (T 26)),
 i_ 28 (.faddr 2 (T 27)),
 i_ 29 (.ld1 (T 28)),
 i_ 30 (.mv (T 2)),
 i_ 31 (.iaddr 5 (T 29) (T 30)),
 i_ 32 (.ldN 5 (T 31)),
 i_ 11 (.alloc 93 [(.int .i64 0), (.string ⟨⟨[]⟩⟩), (.string ⟨⟨[]⟩⟩), (.int .i64 0), (.int .i64 0)]),
 n_ (.st 5 (T 11) (T 32))])
 (.seq
 (.seq
 (.ops [i_ 33 (.faddr 0 (T 11)),
 i_ 34 (.ld1 (T 33)),
 i_ 35 (.ib .eql (T 34) (KI 4)),
 i_ 36 (.mv (T 35)),
 ig 37 36 false (.faddr 0 (T 11)),
 ig 38 36 false (.ld1 (T 37)),
 ig 39 36 false (.ib .eql (T 38) (KI 5)),
 i_ 40 (.pick (T 36) (KB true) (T 39)),
 i_ 41 (.mv (T 40)),
 ig 42 41 false (.faddr 0 (T 11)),
 ig 43 41 false (.ld1 (T 42)),
 ig 44 41 false (.ib .eql (T 43) (KI 6)),
 i_ 45 (.pick (T 41) (KB true) (T 44))])
 (.cond (T 45)
 (.seq
 (.ops [i_ 47 (.mv (T 0)),
 i_ 48 (.mv (T 1)),
 i_ 49 (.faddr 3 (T 11)),
 i_ 50 (.ld1 (T 49)),
 i_ 51 (.mv (T 3)),
 i_ 52 (.call 119 [(T 47), (T 48), (T 50), (T 51)]),
 i_ 46 (.mv (T 52)),
 i_ 53 (.ext (T 46) 0),
 i_ 54 (.ext (T 46) 1),
 i_ 12 (.mv (T 53)),
 i_ 13 (.mv (T 54))])
 (.seq
 (.ops [i_ 56 (.mv (T 0)),
 i_ 57 (.mv (T 1)),
 i_ 58 (.faddr 4 (T 11)),
 i_ 59 (.ld1 (T 58)),
 i_ 60 (.mv (T 3)),
 i_ 61 (.mv (T 60)),
 ig 62 61 false (.faddr 0 (T 11)),
 ig 63 61 false (.ld1 (T 62)),
 ig 64 61 false (.ib .eql (T 63) (KI 6)),
 i_ 65 (.pick (T 61) (KB true) (T 64)),
 i_ 66 (.call 119 [(T 56), (T 57), (T 59), (T 65)]),
 i_ 55 (.mv (T 66)),
 i_ 67 (.ext (T 55) 0),
 i_ 68 (.ext (T 55) 1),
 i_ 14 (.mv (T 67)),
 i_ 15 (.mv (T 68))])
 (.seq
 (.ops [i_ 69 (.mv (T 10)),
 i_ 70 (.mv (T 12)),
 i_ 71 (.append 109 3 24 (T 69) (T 70)),
 i_ 10 (.mv (T 71))])
 (.seq
 (.ops [i_ 72 (.mv (T 10)),
 i_ 73 (.mv (T 14)),
 i_ 74 (.append 109 3 24 (T 72) (T 73)),
 i_ 75 (.mv (T 13)),
 i_ 76 (.mv (T 75)),
 ig 77 76 true (.mv (T 15)),
 i_ 78 (.pick (T 76) (T 77) (KB false)),
 i_ 8 (.mv (T 74)),
 i_ 9 (.mv (T 78))])
 .ret))))
 .skip))
 (.seq
 (.seq
 (.ops [i_ 79 (.faddr 0 (T 11)),
 i_ 80 (.ld1 (T 79)),
 i_ 81 (.ib .eql (T 80) (KI 2))])
 (.cond (T 81)
 (.seq
 (.dops <|
 .op 0 (i_ 82 (.mv (T 0))) <|
 .op 1 (i_ 83 (.mv (T 0))) <|
 .op 2 (i_ 84 (.mv (T 1))) <|
 .op 3 (i_ 85 (.iaddr 4 (T 83) (T 84))) <|
 .op 4 (i_ 86 (.faddr 0 (T 85))) <|
 .op 5 (i_ 87 (.ld1 (T 86))) <|
 .op 6 (i_ 88 (.faddr 1 (T 11))) <|
 .op 7 (i_ 89 (.ld1 (T 88))) <|
 .op 8 (id_ 90 (.call 118 [(T 82), (T 87), (T 89)]) [7, 5]) <|
 .op 9 (i_ 16 (.mv (T 90))) <|
 .nil)
 (.seq
 (.ops [i_ 91 (.mv (T 10)),
 i_ 92 (.mv (T 1)),
 i_ 93 (.mv (T 16)),
 i_ 94 (.mv (T 3)),
 i_ 95 (.build [(.int .i64 0), (.int .i64 0), (.bool false)] [(0, (1, (T 92))), (1, (1, (T 93))), (2, (1, (T 94)))]),
 i_ 96 (.bslice 109 [(.int .i64 0), (.int .i64 0), (.bool false)] 1 3 [(0, (3, (T 95)))]),
 i_ 97 (.append 109 3 24 (T 91) (T 96)),
 i_ 98 (.mv (T 16)),
 i_ 99 (.ib .geq (T 98) (KI 0)),
 i_ 8 (.mv (T 97)),
 i_ 9 (.mv (T 99))])
 .ret))
 .skip))
 (.seq
 (.ops [i_ 100 (.mv (T 0)),
 i_ 101 (.mv (T 1)),
 i_ 102 (.iaddr 4 (T 100) (T 101)),
 i_ 103 (.faddr 1 (T 102)),
 i_ 104 (.faddr 1 (T 103)),
 i_ 105 (.ld1 (T 104)),
 i_ 17 (.mv (T 105)),
 i_ 18 (.mv (KS []))])
 (.seq
 (.seq
 (.ops [i_ 106 (.faddr 0 (T 11)),
 i_ 107 (.ld1 (T 106)),
 i_ 108 (.ib .eql (T 107) (KI 3))])
 (.cond (T 108)
 (.seq
 (.dops <|
 .op 0 (i_ 109 (.mv (T 0))) <|
 .op 1 (i_ 110 (.mv (T 0))) <|
 .op 2 (i_ 111 (.mv (T 1))) <|
 .op 3 (i_ 112 (.iaddr 4 (T 110) (T 111))) <|
 .op 4 (i_ 113 (.faddr 0 (T 112))) <|
 .op 5 (i_ 114 (.ld1 (T 113))) <|
 .op 6 (i_ 115 (.faddr 1 (T 11))) <|
 .op 7 (i_ 116 (.ld1 (T 115))) <|
 .op 8 (id_ 117 (.call 118 [(T 109), (T 114), (T 116)]) [7, 5]) <|
 .op 9 (i_ 19 (.mv (T 117))) <|
 .nil)
 (.seq
 (.seq
 (.ops [i_ 118 (.mv (T 19)),
 i_ 119 (.ib .lss (T 118) (KI 0))])
 (.cond (T 119)
 (.seq
 (.ops [i_ 8 (.mv (.const (.slice none 0 0))),
 i_ 9 (.mv (KB false))])
 .ret)
 .skip))
 (.dops <|
 .op 0 (i_ 120 (.mv (T 0))) <|
 .op 1 (i_ 121 (.mv (T 19))) <|
 .op 2 (i_ 122 (.iaddr 4 (T 120) (T 121))) <|
 .op 3 (i_ 123 (.faddr 1 (T 122))) <|
 .op 4 (i_ 124 (.faddr 1 (T 123))) <|
 .op 5 (i_ 125 (.ld1 (T 124))) <|
 .op 6 (i_ 126 (.faddr 2 (T 11))) <|
 .op 7 (i_ 127 (.ld1 (T 126))) <|
 .op 8 (i_ 17 (.mv (T 125))) <|
 .op 9 (i_ 18 (.mv (T 127))) <|
 .nil)))
 .skip))
 (.seq
 (.ops [i_ 20 (.mv (KB true))])
 (.seq
 (.seq
 (.ops [i_ 21 (.mv (KI 0))])
 (.block 0
 (.loop [(128, 134), (134, 168), (22, 24), (20, 22), (10, 11)]
 (.seq
 (.seq
 (.ops [i_ 128 (.mv (T 21)),
 i_ 129 (.mv (T 17)),
 i_ 130 (.lenV (T 129)),
 i_ 131 (.ib .lss (T 128) (T 130))])
 (.cond (T 131)
 .skip
 (.exit 0)))
 (.seq
 (.block 1
 (.seq
 (.seq
 (.ops [i_ 134 (.mv (T 17)),
 i_ 135 (.mv (T 21)),
 i_ 136 (.iaddr 2 (T 134) (T 135)),
 i_ 137 (.faddr 0 (T 136)),
 i_ 138 (.ld1 (T 137)),
 i_ 139 (.sb .eql (T 138) (KS []))])
 (.cond (T 139)
 (.exit 1)
 .skip))
 (.seq
 (.ops [i_ 140 (.mv (T 17)),
 i_ 141 (.mv (T 21)),
 i_ 142 (.iaddr 2 (T 140) (T 141)),
 i_ 143 (.faddr 1 (T 142)),
 i_ 144 (.ld1 (T 143)),
 i_ 22 (.mv (T 144))])
 (.seq
 (.seq
 (.ops [i_ 145 (.mv (T 18)),
 i_ 146 (.sb .neq (T 145) (KS []))])
 (.cond (T 146)
 (.ops [i_ 147 (.mv (T 18)),
 i_ 22 (.mv (T 147))])
 .skip))
 (.seq
 (.ops [i_ 148 (.mv (T 0)),
 i_ 149 (.mv (T 17)),
 i_ 150 (.mv (T 21)),
 i_ 151 (.iaddr 2 (T 149) (T 150)),
 i_ 152 (.faddr 0 (T 151)),
 i_ 153 (.ld1 (T 152)),
 i_ 154 (.mv (T 22)),
 i_ 155 (.call 118 [(T 148), (T 153), (T 154)]),
 i_ 23 (.mv (T 155))])
 (.seq
 (.ops [i_ 156 (.mv (T 20)),
 i_ 157 (.mv (T 156)),
 ig 158 157 true (.mv (T 23)),
 ig 159 157 true (.ib .geq (T 158) (KI 0)),
 i_ 160 (.pick (T 157) (T 159) (KB false)),
 i_ 20 (.mv (T 160))])
 (.ops [i_ 161 (.mv (T 10)),
 i_ 162 (.mv (T 1)),
 i_ 163 (.mv (T 23)),
 i_ 164 (.mv (T 3)),
 i_ 165 (.build [(.int .i64 0), (.int .i64 0), (.bool false)] [(0, (1, (T 162))), (1, (1, (T 163))), (2, (1, (T 164)))]),
 i_ 166 (.bslice 109 [(.int .i64 0), (.int .i64 0), (.bool false)] 1 3 [(0, (3, (T 165)))]),
 i_ 167 (.append 109 3 24 (T 161) (T 166)),
 i_ 10 (.mv (T 167))])))))))
 (.ops [i_ 132 (.mv (T 21)),
 i_ 133 (.ib .add (T 132) (KI 1)),
 i_ 21 (.mv (T 133))]))))))
 (.seq
 (.ops [i_ 168 (.mv (T 10)),
 i_ 169 (.mv (T 20)),
 i_ 170 (.mv (T 169)),
 ig 171 170 true (.mv (T 18)),
 ig 172 170 true (.sb .eql (T 171) (KS [])),
 ig 173 170 true (.mv (T 172)),
 ig 174 173 false (.mv (T 10)),
 ig 175 173 false (.lenV (T 174)),
 ig 176 173 false (.ib .gtr (T 175) (KI 0)),
 ig 177 170 true (.pick (T 173) (KB true) (T 176)),
 i_ 178 (.pick (T 170) (T 177) (KB false)),
 i_ 8 (.mv (T 168)),
 i_ 9 (.mv (T 178))])
 .ret))))))))))
def m119 : MF := ⟨179, [(.tmp 8), (.tmp 9)], c119⟩
theorem r119 : resF Try.prog Try.f119 = some m119 := by kernel_rfl
def c120 : MC :=
 (.seq
 (.ops [i_ 1 (.box 74 (T 0)),
 i_ 2 (.mv (KB false))])
 (.seq
 (.seq
 (.ops [i_ 3 (.mv (KI 0))])
 (.block 0
 (.loop [(11, 18), (18, 34), (4, 9), (2, 4), (34, 56), (56, 80)]
 (.seq
 (.seq
 (.ops [i_ 11 (.mv (T 3)),
 i_ 12 (.faddr 0 (T 1)),
 i_ 13 (.ld1 (T 12)),
 i_ 14 (.lenV (T 13)),
 i_ 15 (.ib .lss (T 11) (T 14))])
 (.cond (T 15)
 .skip
 (.exit 0)))
 (.seq
 (.block 1
 (.seq
 (.ops [i_ 18 (.faddr 0 (T 1)),
 i_ 19 (.ld1 (T 18)),
 i_ 20 (.mv (T 3)),
 i_ 21 (.iaddr 2 (T 19) (T 20)),
 i_ 22 (.ldN 2 (T 21)),
 i_ 4 (.alloc 83 [(.string ⟨⟨[]⟩⟩), (.slice none 0 0)]),
 n_ (.st 2 (T 4) (T 22))])
 (.seq
 (.seq
 (.ops [i_ 23 (.faddr 0 (T 4)),
 i_ 24 (.ld1 (T 23)),
 i_ 25 (.call 38 [(T 24)]),
 i_ 26 (.not (T 25))])
 (.cond (T 26)
 (.seq
 (.ops [i_ 2 (.mv (KB false))])
 .ret)
 .skip))
 (.seq
 (.ops [i_ 5 (.mv (KI 0))])
 (.block 2
 (.loop [(27, 34), (34, 56), (6, 9), (2, 3), (56, 80), (5, 6)]
 (.seq
 (.seq
 (.ops [i_ 27 (.mv (T 5)),
 i_ 28 (.faddr 1 (T 4)),
 i_ 29 (.ld1 (T 28)),
 i_ 30 (.lenV (T 29)),
 i_ 31 (.ib .lss (T 27) (T 30))])
 (.cond (T 31)
 .skip
 (.exit 2)))
 (.seq
 (.block 3
 (.seq
 (.ops [i_ 34 (.faddr 1 (T 4)),
 i_ 35 (.ld1 (T 34)),
 i_ 36 (.mv (T 5)),
 i_ 37 (.iaddr 3 (T 35) (T 36)),
 i_ 38 (.ldN 3 (T 37)),
 i_ 6 (.alloc 88 [(.string ⟨⟨[]⟩⟩), (.slice none 0 0), (.slice none 0 0)]),
 n_ (.st 3 (T 6) (T 38))])
 (.seq
 (.seq
 (.ops [i_ 39 (.faddr 0 (T 6)),
 i_ 40 (.ld1 (T 39)),
 i_ 41 (.call 38 [(T 40)]),
 i_ 42 (.not (T 41)),
 i_ 43 (.mv (T 42)),
 ig 44 43 false (.faddr 2 (T 6)),
 ig 45 43 false (.ld1 (T 44)),
 ig 46 43 false (.call 145 [(T 45)]),
 ig 47 43 false (.ib .eql (T 46) (KI 0)),
 i_ 48 (.pick (T 43) (KB true) (T 47))])
 (.cond (T 48)
 (.seq
 (.ops [i_ 2 (.mv (KB false))])
 .ret)
 .skip))
 (.seq
 (.ops [i_ 7 (.mv (KI 0))])
 (.block 4
 (.loop [(49, 56), (56, 80), (8, 9), (2, 3), (7, 8)]
 (.seq
 (.seq
 (.ops [i_ 49 (.mv (T 7)),
 i_ 50 (.faddr 1 (T 6)),
 i_ 51 (.ld1 (T 50)),
 i_ 52 (.lenV (T 51)),
 i_ 53 (.ib .lss (T 49) (T 52))])
 (.cond (T 53)
 .skip
 (.exit 4)))
 (.seq
 (.block 5
 (.seq
 (.ops [i_ 56 (.faddr 1 (T 6)),
 i_ 57 (.ld1 (T 56)),
 i_ 58 (.mv (T 7)),
 i_ 59 (.iaddr 2 (T 57) (T 58)),
 i_ 60 (.ldN 2 (T 59)),
 i_ 8 (.alloc 166 [(.string ⟨⟨[]⟩⟩), (.string ⟨⟨[]⟩⟩)]),
 n_ (.st 2 (T 8) (T 60))])
 (.seq
 (.ops [i_ 61 (.faddr 0 (T 8)),
 i_ 62 (.ld1 (T 61)),
 i_ 63 (.sb .eql (T 62) (KS [])),
 i_ 64 (.mv (T 63)),
 ig 65 64 true (.faddr 1 (T 8)),
 ig 66 64 true (.ld1 (T 65)),
 ig 67 64 true (.sb .eql (T 66) (KS [])),
 i_ 68 (.pick (T 64) (T 67) (KB false)),
 i_ 69 (.mv (T 68)),
 ig 70 69 false (.faddr 0 (T 8)),
 ig 71 69 false (.ld1 (T 70)),
 ig 72 69 false (.call 38 [(T 71)]),
 ig 73 69 false (.mv (T 72)),
 ig 74 73 true (.faddr 1 (T 8)),
 ig 75 73 true (.ld1 (T 74)),
 ig 76 73 true (.call 38 [(T 75)]),
 ig 77 69 false (.pick (T 73) (T 76) (KB false)),
 i_ 78 (.pick (T 69) (KB true) (T 77)),
 i_ 79 (.not (T 78))])
 (.cond (T 79)
 (.seq
 (.ops [i_ 2 (.mv (KB false))])
 .ret)
 .skip))))
 (.ops [i_ 54 (.mv (T 7)),
 i_ 55 (.ib .add (T 54) (KI 1)),
 i_ 7 (.mv (T 55))])))))))))
 (.ops [i_ 32 (.mv (T 5)),
 i_ 33 (.ib .add (T 32) (KI 1)),
 i_ 5 (.mv (T 33))])))))))))
 (.ops [i_ 16 (.mv (T 3)),
 i_ 17 (.ib .add (T 16) (KI 1)),
 i_ 3 (.mv (T 17))]))))))
 (.seq
 (.seq
 (.ops [i_ 9 (.mv (KI 0))])
 (.block 6
 (.loop [(80, 87), (87, 108), (10, 11), (2, 3), (9, 10)]
 (.seq
 (.seq
 (.ops [i_ 80 (.mv (T 9)),
 i_ 81 (.faddr 1 (T 1)),
 i_ 82 (.ld1 (T 81)),
 i_ 83 (.lenV (T 82)),
 i_ 84 (.ib .lss (T 80) (T 83))])
 (.cond (T 84)
 .skip
 (.exit 6)))
 (.seq
 (.block 7
 (.seq
 (.ops [i_ 87 (.faddr 1 (T 1)),
 i_ 88 (.ld1 (T 87)),
 i_ 89 (.mv (T 9)),
 i_ 90 (.iaddr 4 (T 88) (T 89)),
 i_ 91 (.ldN 4 (T 90)),
 i_ 10 (.alloc 163 [(.string ⟨⟨[]⟩⟩), (.string ⟨⟨[]⟩⟩), (.string ⟨⟨[]⟩⟩), (.string ⟨⟨[]⟩⟩)]),
 n_ (.st 4 (T 10) (T 91))])
 (.seq
 (.ops [i_ 92 (.faddr 0 (T 10)),
 i_ 93 (.ld1 (T 92)),
 i_ 94 (.call 38 [(T 93)]),
 i_ 95 (.not (T 94)),
 i_ 96 (.mv (T 95)),
 ig 97 96 false (.faddr 1 (T 10)),
 ig 98 96 false (.ldN 2 (T 97)),
 ig 99 96 false (.call 44 [(T 98)]),
 ig 100 96 false (.not (T 99)),
 i_ 101 (.pick (T 96) (KB true) (T 100)),
 i_ 102 (.mv (T 101)),
 ig 103 102 false (.faddr 3 (T 10)),
 ig 104 102 false (.ld1 (T 103)),
 ig 105 102 false (.call 38 [(T 104)]),
 ig 106 102 false (.not (T 105)),
 i_ 107 (.pick (T 102) (KB true) (T 106))])
 (.cond (T 107)
 (.seq
 (.ops [i_ 2 (.mv (KB false))])
 .ret)
 .skip))))
 (.ops [i_ 85 (.mv (T 9)),
 i_ 86 (.ib .add (T 85) (KI 1)),
 i_ 9 (.mv (T 86))]))))))
 (.seq
 (.ops [i_ 108 (.ldN 2 (T 1)),
 i_ 109 (.call 101 [(T 108)]),
 i_ 110 (.not (T 109)),
 i_ 2 (.mv (T 110))])
 .ret))))
def m120 : MF := ⟨111, [(.tmp 2)], c120⟩
theorem r120 : resF Try.prog Try.f120 = some m120 := by kernel_rfl
def c121 : MC :=
 (.seq
 (.ops [i_ 1 (.box 74 (T 0)),
 i_ 2 (.mv (KB false))])
 (.seq
 (.seq
 (.ops [i_ 3 (.mv (KI 0))])
 (.block 0
 (.loop [(9, 16), (4, 5), (16, 21), (21, 34), (2, 4)]
 (.seq
 (.seq
 (.ops [i_ 9 (.mv (T 3)),
 i_ 10 (.faddr 0 (T 1)),
 i_ 11 (.ld1 (T 10)),
 i_ 12 (.lenV (T 11)),
 i_ 13 (.ib .lss (T 9) (T 12))])
 (.cond (T 13)
 .skip
 (.exit 0)))
 (.seq
 (.block 1
 (.seq
 (.ops [i_ 4 (.mv (KI 0))])
 (.block 2
 (.loop [(16, 21), (21, 34), (2, 3), (4, 5)]
 (.seq
 (.seq
 (.ops [i_ 16 (.mv (T 4)),
 i_ 17 (.mv (T 3)),
 i_ 18 (.ib .lss (T 16) (T 17))])
 (.cond (T 18)
 .skip
 (.exit 2)))
 (.seq
 (.block 3
 (.seq
 (.dops <|
 .op 0 (i_ 21 (.faddr 0 (T 1))) <|
 .op 1 (i_ 22 (.ld1 (T 21))) <|
 .op 2 (i_ 23 (.mv (T 3))) <|
 .op 3 (i_ 24 (.iaddr 2 (T 22) (T 23))) <|
 .op 4 (i_ 25 (.faddr 0 (T 24))) <|
 .op 5 (i_ 26 (.ld1 (T 25))) <|
 .op 6 (i_ 27 (.faddr 0 (T 1))) <|
 .op 7 (i_ 28 (.ld1 (T 27))) <|
 .op 8 (i_ 29 (.mv (T 4))) <|
 .op 9 (i_ 30 (.iaddr 2 (T 28) (T 29))) <|
 .op 10 (i_ 31 (.faddr 0 (T 30))) <|
 .op 11 (i_ 32 (.ld1 (T 31))) <|
 .op 12 (i_ 33 (.sb .eql (T 26) (T 32))) <|
 .nil)
 (.cond (T 33)
 (.seq
 (.ops [i_ 2 (.mv (KB true))])
 .ret)
 .skip)))
 (.ops [i_ 19 (.mv (T 4)),
 i_ 20 (.ib .add (T 19) (KI 1)),
 i_ 4 (.mv (T 20))])))))))
 (.ops [i_ 14 (.mv (T 3)),
 i_ 15 (.ib .add (T 14) (KI 1)),
 i_ 3 (.mv (T 15))]))))))
 (.seq
 (.ops [i_ 34 (.ldN 2 (T 1)),
 i_ 35 (.call 65 [(T 34)]),
 i_ 5 (.mv (T 35))])
 (.seq
 (.seq
 (.ops [i_ 6 (.mv (KI 0))])
 (.block 4
 (.loop [(36, 42), (42, 55), (55, 57), (2, 3), (6, 7)]
 (.seq
 (.seq
 (.ops [i_ 36 (.mv (T 6)),
 i_ 37 (.mv (T 5)),
 i_ 38 (.lenV (T 37)),
 i_ 39 (.ib .lss (T 36) (T 38))])
 (.cond (T 39)
 .skip
 (.exit 4)))
 (.seq
 (.block 5
 (.seq
 (.dops <|
 .op 0 (i_ 42 (.mv (T 5))) <|
 .op 1 (i_ 43 (.mv (T 5))) <|
 .op 2 (i_ 44 (.mv (T 6))) <|
 .op 3 (i_ 45 (.iaddr 4 (T 43) (T 44))) <|
 .op 4 (i_ 46 (.faddr 0 (T 45))) <|
 .op 5 (i_ 47 (.ld1 (T 46))) <|
 .op 6 (i_ 48 (.mv (T 5))) <|
 .op 7 (i_ 49 (.mv (T 6))) <|
 .op 8 (i_ 50 (.iaddr 4 (T 48) (T 49))) <|
 .op 9 (i_ 51 (.faddr 1 (T 50))) <|
 .op 10 (i_ 52 (.faddr 0 (T 51))) <|
 .op 11 (i_ 53 (.ld1 (T 52))) <|
 .op 13 (i_ 55 (.mv (T 6))) <|
 .op 12 (id_ 54 (.call 118 [(T 42), (T 47), (T 53)]) [11, 5]) <|
 .op 14 (i_ 56 (.ib .neq (T 54) (T 55))) <|
 .nil)
 (.cond (T 56)
 (.seq
 (.ops [i_ 2 (.mv (KB true))])
 .ret)
 .skip)))
 (.ops [i_ 40 (.mv (T 6)),
 i_ 41 (.ib .add (T 40) (KI 1)),
 i_ 6 (.mv (T 41))]))))))
 (.seq
 (.seq
 (.ops [i_ 7 (.mv (KI 0))])
 (.block 6
 (.loop [(57, 64), (8, 9), (64, 69), (69, 82), (2, 3), (7, 8)]
 (.seq
 (.seq
 (.ops [i_ 57 (.mv (T 7)),
 i_ 58 (.faddr 1 (T 1)),
 i_ 59 (.ld1 (T 58)),
 i_ 60 (.lenV (T 59)),
 i_ 61 (.ib .lss (T 57) (T 60))])
 (.cond (T 61)
 .skip
 (.exit 6)))
 (.seq
 (.block 7
 (.seq
 (.ops [i_ 8 (.mv (KI 0))])
 (.block 8
 (.loop [(64, 69), (69, 82), (2, 3), (8, 9)]
 (.seq
 (.seq
 (.ops [i_ 64 (.mv (T 8)),
 i_ 65 (.mv (T 7)),
 i_ 66 (.ib .lss (T 64) (T 65))])
 (.cond (T 66)
 .skip
 (.exit 8)))
 (.seq
 (.block 9
 (.seq
 (.dops <|
 .op 0 (i_ 69 (.faddr 1 (T 1))) <|
 .op 1 (i_ 70 (.ld1 (T 69))) <|
 .op 2 (i_ 71 (.mv (T 7))) <|
 .op 3 (i_ 72 (.iaddr 4 (T 70) (T 71))) <|
 .op 4 (i_ 73 (.faddr 0 (T 72))) <|
 .op 5 (i_ 74 (.ld1 (T 73))) <|
 .op 6 (i_ 75 (.faddr 1 (T 1))) <|
 .op 7 (i_ 76 (.ld1 (T 75))) <|
 .op 8 (i_ 77 (.mv (T 8))) <|
 .op 9 (i_ 78 (.iaddr 4 (T 76) (T 77))) <|
 .op 10 (i_ 79 (.faddr 0 (T 78))) <|
 .op 11 (i_ 80 (.ld1 (T 79))) <|
 .op 12 (i_ 81 (.sb .eql (T 74) (T 80))) <|
 .nil)
 (.cond (T 81)
 (.seq
 (.ops [i_ 2 (.mv (KB true))])
 .ret)
 .skip)))
 (.ops [i_ 67 (.mv (T 8)),
 i_ 68 (.ib .add (T 67) (KI 1)),
 i_ 8 (.mv (T 68))])))))))
 (.ops [i_ 62 (.mv (T 7)),
 i_ 63 (.ib .add (T 62) (KI 1)),
 i_ 7 (.mv (T 63))]))))))
 (.seq
 (.ops [i_ 2 (.mv (KB false))])
 .ret))))))
def m121 : MF := ⟨82, [(.tmp 2)], c121⟩
theorem r121 : resF Try.prog Try.f121 = some m121 := by kernel_rfl
def c122 : MC :=
 (.seq
 (.ops [i_ 6 (.mv (.const (.slice none 0 0)))])
 (.seq
 (.ops [i_ 13 (.mv (T 1)),
 i_ 14 (.mkslice 3 1 8 [(.int .i64 0)] (T 13) (T 13)),
 i_ 7 (.mv (T 14))])
 (.seq
 (.seq
 (.ops [i_ 8 (.mv (KI 0))])
 (.block 0
 (.loop [(15, 20), (20, 28), (9, 13), (28, 54), (7, 9)]
 (.seq
 (.seq
 (.ops [i_ 15 (.mv (T 8)),
 i_ 16 (.mv (T 2)),
 i_ 17 (.ib .lss (T 15) (T 16))])
 (.cond (T 17)
 .skip
 (.exit 0)))
 (.seq
 (.block 1
 (.seq
 (.ops [i_ 20 (.mv (T 1)),
 i_ 21 (.mkslice 3 1 8 [(.int .i64 0)] (T 20) (T 20)),
 i_ 9 (.mv (T 21))])
 (.seq
 (.seq
 (.ops [i_ 10 (.mv (KI 0))])
 (.block 2
 (.loop [(22, 28), (28, 53), (11, 13), (10, 11)]
 (.seq
 (.seq
 (.ops [i_ 22 (.mv (T 10)),
 i_ 23 (.mv (T 0)),
 i_ 24 (.lenV (T 23)),
 i_ 25 (.ib .lss (T 22) (T 24))])
 (.cond (T 25)
 .skip
 (.exit 2)))
 (.seq
 (.block 3
 (.seq
 (.ops [i_ 28 (.mv (T 0)),
 i_ 29 (.mv (T 10)),
 i_ 30 (.iaddr 3 (T 28) (T 29)),
 i_ 31 (.ldN 3 (T 30)),
 i_ 11 (.alloc 109 [(.int .i64 0), (.int .i64 0), (.bool false)]),
 n_ (.st 3 (T 11) (T 31))])
 (.seq
 (.ops [i_ 32 (.mv (T 7)),
 i_ 33 (.faddr 1 (T 11)),
 i_ 34 (.ld1 (T 33)),
 i_ 35 (.iaddr 1 (T 32) (T 34)),
 i_ 36 (.ld1 (T 35)),
 i_ 12 (.mv (T 36))])
 (.seq
 (.seq
 (.ops [i_ 37 (.faddr 2 (T 11)),
 i_ 38 (.ld1 (T 37))])
 (.cond (T 38)
 (.ops [i_ 39 (.mv (T 12)),
 i_ 40 (.ib .add (T 39) (KI 1)),
 i_ 12 (.mv (T 40))])
 .skip))
 (.seq
 (.ops [i_ 41 (.mv (T 12)),
 i_ 42 (.mv (T 9)),
 i_ 43 (.faddr 0 (T 11)),
 i_ 44 (.ld1 (T 43)),
 i_ 45 (.iaddr 1 (T 42) (T 44)),
 i_ 46 (.ld1 (T 45)),
 i_ 47 (.ib .gtr (T 41) (T 46))])
 (.cond (T 47)
 (.ops [i_ 48 (.mv (T 9)),
 i_ 49 (.faddr 0 (T 11)),
 i_ 50 (.ld1 (T 49)),
 i_ 51 (.mv (T 12)),
 i_ 52 (.iaddr 1 (T 48) (T 50)),
 n_ (.st 1 (T 52) (T 51))])
 .skip))))))
 (.ops [i_ 26 (.mv (T 10)),
 i_ 27 (.ib .add (T 26) (KI 1)),
 i_ 10 (.mv (T 27))]))))))
 (.ops [i_ 53 (.mv (T 9)),
 i_ 7 (.mv (T 53))]))))
 (.ops [i_ 18 (.mv (T 8)),
 i_ 19 (.ib .add (T 18) (KI 1)),
 i_ 8 (.mv (T 19))]))))))
 (.seq
 (.ops [i_ 54 (.mv (T 7)),
 i_ 6 (.mv (T 54))])
 .ret))))
def m122 : MF := ⟨55, [(.tmp 6)], c122⟩
theorem r122 : resF Try.prog Try.f122 = some m122 := by kernel_rfl
end Go.Proofs.Ytcgbcbdgjhnlaaa

