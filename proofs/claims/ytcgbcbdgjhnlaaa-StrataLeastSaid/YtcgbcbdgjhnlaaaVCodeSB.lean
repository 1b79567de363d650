/- Functions of the program, resolved: made by a program of ours; each is checked by the kernel. -/
import Derived.Test.YtcgbcbdgjhnlaaaVPB
namespace Go.Proofs.Ytcgbcbdgjhnlaaa
def c115 : MC :=
 (.seq
 (.ops [i_ 1 (.box 74 (T 0)),
 i_ 2 (.mv (.const (.pointer none))),
 i_ 3 (.mv (KB false))])
 (.seq
 (.ops [i_ 16 (.ldN 2 (T 1)),
 i_ 17 (.raw ⟨(some 17), (.makeMap 222 none), 222, "strata.go:20", ⟨[]⟩, none⟩),
 i_ 18 (.build [(.slice none 0 0), (.slice none 0 0), (.map none)] [(0, (2, (T 16))), (2, (1, (T 17)))]),
 i_ 19 (.box 224 (T 18)),
 i_ 4 (.mv (T 19))])
 (.seq
 (.ops [i_ 20 (.raw ⟨(some 20), (.makeMap 225 none), 225, "strata.go:21", ⟨[]⟩, none⟩),
 i_ 5 (.mv (T 20))])
 (.seq
 (.seq
 (.ops [i_ 21 (.faddr 0 (T 1)),
 i_ 22 (.ld1 (T 21)),
 i_ 23 (.lenV (T 22)),
 i_ 24 (.mv (KI 0))])
 (.block 0
 (.loop [(25, 50), (7, 9), (6, 7), (2, 4), (9, 13), (50, 69), (24, 25)]
 (.seq
 (.ops [i_ 25 (.ib .lss (T 24) (T 23))])
 (.seq
 (.cond (T 25)
 .skip
 (.exit 0))
 (.seq
 (.block 1
 (.seq
 (.ops [i_ 26 (.mv (T 24)),
 i_ 27 (.iaddr 2 (T 22) (T 24)),
 i_ 28 (.ldN 2 (T 27)),
 i_ 7 (.alloc 83 [(.string ⟨⟨[]⟩⟩), (.slice none 0 0)]),
 i_ 6 (.mv (T 26)),
 n_ (.st 2 (T 7) (T 28))])
 (.seq
 (.seq
 (.ops [i_ 29 (.mv (T 5)),
 i_ 30 (.faddr 0 (T 7)),
 i_ 31 (.ld1 (T 30)),
 i_ 32 (.raw ⟨(some 32), (.lookup 225 (T 29) (T 31) false), 4, "strata.go:23", ⟨[⟨0, .data⟩, ⟨2, .data⟩]⟩, none⟩)])
 (.cond (T 32)
 (.seq
 (.ops [i_ 2 (.mv (.const (.pointer none))),
 i_ 3 (.mv (KB false))])
 .ret)
 .skip))
 (.seq
 (.ops [i_ 33 (.mv (T 5)),
 i_ 34 (.faddr 0 (T 7)),
 i_ 35 (.ld1 (T 34)),
 n_ (.raw ⟨none, (.mapUpdate 225 (T 33) (T 35) (KB true)), 0, "strata.go:26", ⟨[⟨0, .data⟩, ⟨2, .data⟩, ⟨0, .phase⟩, ⟨1, .phase⟩, ⟨2, .phase⟩]⟩, none⟩)])
 (.seq
 (.ops [i_ 36 (.faddr 1 (T 7)),
 i_ 37 (.ld1 (T 36)),
 i_ 38 (.lenV (T 37)),
 i_ 39 (.mv (KI 0))])
 (.block 2
 (.loop [(40, 50), (9, 13), (8, 9), (50, 68), (2, 4), (39, 40)]
 (.seq
 (.ops [i_ 40 (.ib .lss (T 39) (T 38))])
 (.seq
 (.cond (T 40)
 .skip
 (.exit 2))
 (.seq
 (.block 3
 (.seq
 (.ops [i_ 41 (.mv (T 39)),
 i_ 42 (.iaddr 3 (T 37) (T 39)),
 i_ 43 (.ldN 3 (T 42)),
 i_ 9 (.alloc 88 [(.string ⟨⟨[]⟩⟩), (.slice none 0 0), (.slice none 0 0)]),
 i_ 8 (.mv (T 41)),
 n_ (.st 3 (T 9) (T 43))])
 (.seq
 (.ops [i_ 44 (.faddr 0 (T 7)),
 i_ 45 (.ld1 (T 44)),
 i_ 46 (.faddr 0 (T 9)),
 i_ 47 (.ld1 (T 46)),
 i_ 48 (.build [(.string ⟨⟨[]⟩⟩), (.string ⟨⟨[]⟩⟩)] [(0, (1, (T 45))), (1, (1, (T 47)))]),
 i_ 10 (.alloc 166 [(.string ⟨⟨[]⟩⟩), (.string ⟨⟨[]⟩⟩)]),
 n_ (.st 2 (T 10) (T 48))])
 (.seq
 (.seq
 (.dops <|
 .op 0 (i_ 50 (.mv (T 4))) <|
 .op 1 (i_ 51 (.nilck (T 50))) <|
 .op 2 (i_ 52 (.faddr 2 (T 51))) <|
 .op 3 (i_ 53 (.ld1 (T 52))) <|
 .op 4 (i_ 54 (.ldN 2 (T 10))) <|
 .both
 (.op 5 (id_ 55 (.raw ⟨(some 55), (.lookup 222 (T 53) (T 54) true), 228, "strata.go:29", ⟨[⟨3, .data⟩, ⟨4, .data⟩]⟩, none⟩) [4, 3]) <|
 .op 6 (i_ 49 (.mv (T 55))) <|
 .op 7 (i_ 56 (.ext (T 49) 0)) <|
 .op 8 (i_ 57 (.ext (T 49) 1)) <|
 .op 9 (i_ 11 (.alloc 227 [(.int .i64 0), (.int .i64 0)])) <|
 .op 10 (nd_ (.st 2 (T 11) (T 56)) [3, 4]) <|
 .op 11 (i_ 12 (.mv (T 57))) <|
 .nil)
 (.op 9 (i_ 11 (.alloc 227 [(.int .i64 0), (.int .i64 0)])) <|
 .op 5 (id_ 55 (.raw ⟨(some 55), (.lookup 222 (T 53) (T 54) true), 228, "strata.go:29", ⟨[⟨3, .data⟩, ⟨4, .data⟩]⟩, none⟩) [4, 3]) <|
 .op 6 (i_ 49 (.mv (T 55))) <|
 .op 7 (i_ 56 (.ext (T 49) 0)) <|
 .op 8 (i_ 57 (.ext (T 49) 1)) <|
 .op 10 (nd_ (.st 2 (T 11) (T 56)) [3, 4]) <|
 .op 11 (i_ 12 (.mv (T 57))) <|
 .nil))
 (.seq
 (.ops [i_ 58 (.mv (T 12))])
 (.cond (T 58)
 (.seq
 (.ops [i_ 2 (.mv (.const (.pointer none))),
 i_ 3 (.mv (KB false))])
 .ret)
 .skip)))
 (.dops <|
 .op 0 (i_ 59 (.mv (T 4))) <|
 .op 1 (i_ 60 (.nilck (T 59))) <|
 .op 2 (i_ 61 (.faddr 2 (T 60))) <|
 .op 3 (i_ 62 (.ld1 (T 61))) <|
 .op 4 (i_ 63 (.ldN 2 (T 10))) <|
 .op 5 (i_ 64 (.mv (T 6))) <|
 .op 6 (i_ 65 (.mv (T 8))) <|
 .op 7 (i_ 66 (.build [(.int .i64 0), (.int .i64 0)] [(0, (1, (T 64))), (1, (1, (T 65)))])) <|
 .op 8 (nd_ (.raw ⟨none, (.mapUpdate 222 (T 62) (T 63) (T 66)), 0, "strata.go:32", ⟨[⟨3, .data⟩, ⟨4, .data⟩, ⟨7, .data⟩, ⟨0, .phase⟩, ⟨1, .phase⟩, ⟨2, .phase⟩, ⟨3, .phase⟩, ⟨4, .phase⟩, ⟨5, .phase⟩, ⟨6, .phase⟩, ⟨7, .phase⟩]⟩, none⟩) [4, 3]) <|
 .nil)))))
 (.ops [i_ 67 (.ib .add (T 39) (KI 1)),
 i_ 39 (.mv (T 67))])))))))))))
 (.ops [i_ 68 (.ib .add (T 24) (KI 1)),
 i_ 24 (.mv (T 68))])))))))
 (.seq
 (.ops [i_ 69 (.raw ⟨(some 69), (.makeMap 225 none), 225, "strata.go:35", ⟨[]⟩, none⟩),
 i_ 13 (.mv (T 69))])
 (.seq
 (.seq
 (.ops [i_ 70 (.faddr 1 (T 1)),
 i_ 71 (.ld1 (T 70)),
 i_ 72 (.lenV (T 71)),
 i_ 73 (.mv (KI 0))])
 (.block 4
 (.loop [(74, 85), (15, 16), (2, 4), (73, 74)]
 (.seq
 (.ops [i_ 74 (.ib .lss (T 73) (T 72))])
 (.seq
 (.cond (T 74)
 .skip
 (.exit 4))
 (.seq
 (.block 5
 (.seq
 (.ops [i_ 75 (.iaddr 4 (T 71) (T 73)),
 i_ 76 (.ldN 4 (T 75)),
 i_ 15 (.alloc 163 [(.string ⟨⟨[]⟩⟩), (.string ⟨⟨[]⟩⟩), (.string ⟨⟨[]⟩⟩), (.string ⟨⟨[]⟩⟩)]),
 n_ (.st 4 (T 15) (T 76))])
 (.seq
 (.seq
 (.ops [i_ 77 (.mv (T 13)),
 i_ 78 (.faddr 0 (T 15)),
 i_ 79 (.ld1 (T 78)),
 i_ 80 (.raw ⟨(some 80), (.lookup 225 (T 77) (T 79) false), 4, "strata.go:37", ⟨[⟨0, .data⟩, ⟨2, .data⟩]⟩, none⟩)])
 (.cond (T 80)
 (.seq
 (.ops [i_ 2 (.mv (.const (.pointer none))),
 i_ 3 (.mv (KB false))])
 .ret)
 .skip))
 (.ops [i_ 81 (.mv (T 13)),
 i_ 82 (.faddr 0 (T 15)),
 i_ 83 (.ld1 (T 82)),
 n_ (.raw ⟨none, (.mapUpdate 225 (T 81) (T 83) (KB true)), 0, "strata.go:40", ⟨[⟨0, .data⟩, ⟨2, .data⟩, ⟨0, .phase⟩, ⟨1, .phase⟩, ⟨2, .phase⟩]⟩, none⟩)]))))
 (.ops [i_ 84 (.ib .add (T 73) (KI 1)),
 i_ 73 (.mv (T 84))])))))))
 (.seq
 (.ops [i_ 85 (.mv (T 4)),
 i_ 2 (.mv (T 85)),
 i_ 3 (.mv (KB true))])
 .ret)))))))
def m115 : MF := ⟨86, [(.tmp 2), (.tmp 3)], c115⟩
theorem r115 : resF Try.prog Try.f115 = some m115 := by kernel_rfl
def c63 : MC :=
 (.seq
 (.ops [i_ 0 (.mv (KB false))])
 (.seq
 (.ops [i_ 6 (.call 52 [(KS [110, 97, 109, 101, 115, 112, 97, 99, 101, 32, 100, 32, 123, 32, 114, 101, 108, 97, 116, 105, 111, 110, 32, 97, 58, 32, 117, 115, 101, 114, 59, 32, 114, 101, 108, 97, 116, 105, 111, 110, 32, 98, 58, 32, 117, 115, 101, 114, 32, 61, 32, 116, 104, 105, 115, 32, 45, 32, 97, 59, 32, 125])]),
 i_ 5 (.mv (T 6)),
 i_ 7 (.ext (T 5) 0),
 i_ 8 (.ext (T 5) 1),
 i_ 1 (.alloc 74 [(.slice none 0 0), (.slice none 0 0)]),
 n_ (.st 2 (T 1) (T 7)),
 i_ 2 (.mv (T 8))])
 (.seq
 (.ops [i_ 10 (.ldN 2 (T 1)),
 i_ 11 (.call 62 [(T 10)]),
 i_ 9 (.mv (T 11)),
 i_ 12 (.ext (T 9) 0),
 i_ 13 (.ext (T 9) 1),
 i_ 3 (.mv (T 12)),
 i_ 4 (.mv (T 13))])
 (.seq
 (.ops [i_ 14 (.mv (T 4)),
 i_ 15 (.ib .eql (T 14) (KI 0)),
 i_ 16 (.mv (T 15)),
 ig 17 16 true (.mv (T 3)),
 ig 18 16 true (.lenV (T 17)),
 ig 19 16 true (.ib .eql (T 18) (KI 1)),
 i_ 20 (.pick (T 16) (T 19) (KB false)),
 i_ 21 (.mv (T 20)),
 ig 22 21 true (.mv (T 3)),
 ig 23 21 true (.iaddr 1 (T 22) (KI 0)),
 ig 24 21 true (.ld1 (T 23)),
 ig 25 21 true (.lenV (T 24)),
 ig 26 21 true (.ib .eql (T 25) (KI 2)),
 i_ 27 (.pick (T 21) (T 26) (KB false)),
 i_ 28 (.mv (T 27)),
 ig 29 28 true (.mv (T 3)),
 ig 30 28 true (.iaddr 1 (T 29) (KI 0)),
 ig 31 28 true (.ld1 (T 30)),
 ig 32 28 true (.iaddr 1 (T 31) (KI 1)),
 ig 33 28 true (.ld1 (T 32)),
 ig 34 28 true (.ib .eql (T 33) (KI 1)),
 i_ 35 (.pick (T 28) (T 34) (KB false)),
 i_ 0 (.mv (T 35))])
 .ret))))
def m63 : MF := ⟨36, [(.tmp 0)], c63⟩
theorem r63 : resF Try.prog Try.f63 = some m63 := by kernel_rfl
end Go.Proofs.Ytcgbcbdgjhnlaaa

