/- Functions of the program, resolved: made by a program of ours; each is checked by the kernel. -/
import Derived.Test.YtcgbcbdgjhnlaaaYPB
namespace Go.Proofs.Ytcgbcbdgjhnlaaa
def c115 : MC :=
 (.seq
 (.ops [i_ 1 (.box 74 (T 0)),
 i_ 2 (.mv (.const (.pointer none))),
 i_ 3 (.mv (KB false))])
 (.seq
 (.ops [i_ 16 (.ldN 2 (T 1)),
 i_ 17 (.raw ⟨(some 17), (.makeMap 222 none), 222, "strata.go:20", ⟨[]⟩, none⟩),
 i_ 18 (.build [(.slice none 0 0), (.slice none 0 0), (.map none)] [(0, (2, (T 16))), (2, (1, (T 17)))]),
 i_ 19 (.box 224 (T 18)),
 i_ 4 (.mv (T 19))])
 (.seq
 (.ops [i_ 20 (.raw ⟨(some 20), (.makeMap 225 none), 225, "strata.go:21", ⟨[]⟩, none⟩),
 i_ 5 (.mv (T 20))])
 (.seq
 (.seq
 (.ops [i_ 21 (.faddr 0 (T 1)),
 i_ 22 (.ld1 (T 21)),
 i_ 23 (.lenV (T 22)),
 i_ 24 (.mv (KI 0))])
 (.block 0
 (.loop [(25, 50), (7, 9), (6, 7), (2, 4), (9, 13), (50, 69), (24, 25)]
 (.seq
 (.ops [i_ 25 (.ib .lss (T 24) (T 23))])
 (.seq
 (.cond (T 25)
 .skip
 (.exit 0))
 (.seq
 (.block 1
 (.seq
 (.ops [i_ 26 (.mv (T 24)),
 i_ 27 (.iaddr 2 (T 22) (T 24)),
 i_ 28 (.ldN 2 (T 27)),
 i_ 7 (.alloc 83 [(.string ⟨⟨[]⟩⟩), (.slice none 0 0)]),
 i_ 6 (.mv (T 26)),
 n_ (.st 2 (T 7) (T 28))])
 (.seq
 (.seq
 (.ops [i_ 29 (.mv (T 5)),
 i_ 30 (.faddr 0 (T 7)),
 i_ 31 (.ld1 (T 30)),
 i_ 32 (.raw ⟨(some 32), (.lookup 225 (T 29) (T 31) false), 4, "strata.go:23", ⟨[⟨0, .data⟩, ⟨2, .data⟩]⟩, none⟩)])
 (.cond (T 32)
 (.seq
 (.ops [i_ 2 (.mv (.const (.pointer none))),
 i_ 3 (.mv (KB false))])
 .ret)
 .skip))
 (.seq
 (.ops [i_ 33 (.mv (T 5)),
 i_ 34 (.faddr 0 (T 7)),
 i_ 35 (.ld1 (T 34)),
 n_ (.raw ⟨none, (.mapUpdate 225 (T 33) (T 35) (KB true)), 0, "strata.go:26", ⟨[⟨0, .data⟩, ⟨2, .data⟩, ⟨0, .phase⟩, ⟨1, .phase⟩, ⟨2, .phase⟩]⟩, none⟩)])
 (.seq
 (.ops [i_ 36 (.faddr 1 (T 7)),
 i_ 37 (.ld1 (T 36)),
 i_ 38 (.lenV (T 37)),
 i_ 39 (.mv (KI 0))])
 (.block 2
 (.loop [(40, 50), (9, 13), (8, 9), (50, 68), (2, 4), (39, 40)]
 (.seq
 (.ops [i_ 40 (.ib .lss (T 39) (T 38))])
 (.seq
 (.cond (T 40)
 .skip
 (.exit 2))
 (.seq
 (.block 3
 (.seq
 (.ops [i_ 41 (.mv (T 39)),
 i_ 42 (.iaddr 3 (T 37) (T 39)),
 i_ 43 (.ldN 3 (T 42)),
 i_ 9 (.alloc 88 [(.string ⟨⟨[]⟩⟩), (.slice none 0 0), (.slice none 0 0)]),
 i_ 8 (.mv (T 41)),
 n_ (.st 3 (T 9) (T 43))])
 (.seq
 (.ops [i_ 44 (.faddr 0 (T 7)),
 i_ 45 (.ld1 (T 44)),
 i_ 46 (.faddr 0 (T 9)),
 i_ 47 (.ld1 (T 46)),
 i_ 48 (.build [(.string ⟨⟨[]⟩⟩), (.string ⟨⟨[]⟩⟩)] [(0, (1, (T 45))), (1, (1, (T 47)))]),
 i_ 10 (.alloc 166 [(.string ⟨⟨[]⟩⟩), (.string ⟨⟨[]⟩⟩)]),
 n_ (.st 2 (T 10) (T 48))])
 (.seq
 (.seq
 (.dops <|
 .op 0 (i_ 50 (.mv (T 4))) <|
 .op 1 (i_ 51 (.nilck (T 50))) <|
 .op 2 (i_ 52 (.faddr 2 (T 51))) <|
 .op 3 (i_ 53 (.ld1 (T 52))) <|
 .op 4 (i_ 54 (.ldN 2 (T 10))) <|
 .both
 (.op 5 (id_ 55 (.raw ⟨(some 55), (.lookup 222 (T 53) (T 54) true), 228, "strata.go:29", ⟨[⟨3, .data⟩, ⟨4, .data⟩]⟩, none⟩) [4, 3]) <|
 .op 6 (i_ 49 (.mv (T 55))) <|
 .op 7 (i_ 56 (.ext (T 49) 0)) <|
 .op 8 (i_ 57 (.ext (T 49) 1)) <|
 .op 9 (i_ 11 (.alloc 227 [(.int .i64 0), (.int .i64 0)])) <|
 .op 10 (nd_ (.st 2 (T 11) (T 56)) [3, 4]) <|
 .op 11 (i_ 12 (.mv (T 57))) <|
 .nil)
 (.op 9 (i_ 11 (.alloc 227 [(.int .i64 0), (.int .i64 0)])) <|
 .op 5 (id_ 55 (.raw ⟨(some 55), (.lookup 222 (T 53) (T 54) true), 228, "strata.go:29", ⟨[⟨3, .data⟩, ⟨4, .data⟩]⟩, none⟩) [4, 3]) <|
 .op 6 (i_ 49 (.mv (T 55))) <|
 .op 7 (i_ 56 (.ext (T 49) 0)) <|
 .op 8 (i_ 57 (.ext (T 49) 1)) <|
 .op 10 (nd_ (.st 2 (T 11) (T 56)) [3, 4]) <|
 .op 11 (i_ 12 (.mv (T 57))) <|
 .nil))
 (.seq
 (.ops [i_ 58 (.mv (T 12))])
 (.cond (T 58)
 (.seq
 (.ops [i_ 2 (.mv (.const (.pointer none))),
 i_ 3 (.mv (KB false))])
 .ret)
 .skip)))
 (.dops <|
 .op 0 (i_ 59 (.mv (T 4))) <|
 .op 1 (i_ 60 (.nilck (T 59))) <|
 .op 2 (i_ 61 (.faddr 2 (T 60))) <|
 .op 3 (i_ 62 (.ld1 (T 61))) <|
 .op 4 (i_ 63 (.ldN 2 (T 10))) <|
 .op 5 (i_ 64 (.mv (T 6))) <|
 .op 6 (i_ 65 (.mv (T 8))) <|
 .op 7 (i_ 66 (.build [(.int .i64 0), (.int .i64 0)] [(0, (1, (T 64))), (1, (1, (T 65)))])) <|
 .op 8 (nd_ (.raw ⟨none, (.mapUpdate 222 (T 62) (T 63) (T 66)), 0, "strata.go:32", ⟨[⟨3, .data⟩, ⟨4, .data⟩, ⟨7, .data⟩, ⟨0, .phase⟩, ⟨1, .phase⟩, ⟨2, .phase⟩, ⟨3, .phase⟩, ⟨4, .phase⟩, ⟨5, .phase⟩, ⟨6, .phase⟩, ⟨7, .phase⟩]⟩, none⟩) [4, 3]) <|
 .nil)))))
 (.ops [i_ 67 (.ib .add (T 39) (KI 1)),
 i_ 39 (.mv (T 67))])))))))))))
 (.ops [i_ 68 (.ib .add (T 24) (KI 1)),
 i_ 24 (.mv (T 68))])))))))
 (.seq
 (.ops [i_ 69 (.raw ⟨(some 69), (.makeMap 225 none), 225, "strata.go:35", ⟨[]⟩, none⟩),
 i_ 13 (.mv (T 69))])
 (.seq
 (.seq
 (.ops [i_ 70 (.faddr 1 (T 1)),
 i_ 71 (.ld1 (T 70)),
 i_ 72 (.lenV (T 71)),
 i_ 73 (.mv (KI 0))])
 (.block 4
 (.loop [(74, 85), (15, 16), (2, 4), (73, 74)]
 (.seq
 (.ops [i_ 74 (.ib .lss (T 73) (T 72))])
 (.seq
 (.cond (T 74)
 .skip
 (.exit 4))
 (.seq
 (.block 5
 (.seq
 (.ops [i_ 75 (.iaddr 4 (T 71) (T 73)),
 i_ 76 (.ldN 4 (T 75)),
 i_ 15 (.alloc 163 [(.string ⟨⟨[]⟩⟩), (.string ⟨⟨[]⟩⟩), (.string ⟨⟨[]⟩⟩), (.string ⟨⟨[]⟩⟩)]),
 n_ (.st 4 (T 15) (T 76))])
 (.seq
 (.seq
 (.ops [i_ 77 (.mv (T 13)),
 i_ 78 (.faddr 0 (T 15)),
 i_ 79 (.ld1 (T 78)),
 i_ 80 (.raw ⟨(some 80), (.lookup 225 (T 77) (T 79) false), 4, "strata.go:37", ⟨[⟨0, .data⟩, ⟨2, .data⟩]⟩, none⟩)])
 (.cond (T 80)
 (.seq
 (.ops [i_ 2 (.mv (.const (.pointer none))),
 i_ 3 (.mv (KB false))])
 .ret)
 .skip))
 (.ops [i_ 81 (.mv (T 13)),
 i_ 82 (.faddr 0 (T 15)),
 i_ 83 (.ld1 (T 82)),
 n_ (.raw ⟨none, (.mapUpdate 225 (T 81) (T 83) (KB true)), 0, "strata.go:40", ⟨[⟨0, .data⟩, ⟨2, .data⟩, ⟨0, .phase⟩, ⟨1, .phase⟩, ⟨2, .phase⟩]⟩, none⟩)]))))
 (.ops [i_ 84 (.ib .add (T 73) (KI 1)),
 i_ 73 (.mv (T 84))])))))))
 (.seq
 (.ops [i_ 85 (.mv (T 4)),
 i_ 2 (.mv (T 85)),
 i_ 3 (.mv (KB true))])
 .ret)))))))
def m115 : MF := ⟨86, [(.tmp 2), (.tmp 3)], c115⟩
theorem r115 : resF Try.prog Try.f115 = some m115 := by kernel_rfl
end Go.Proofs.Ytcgbcbdgjhnlaaa

