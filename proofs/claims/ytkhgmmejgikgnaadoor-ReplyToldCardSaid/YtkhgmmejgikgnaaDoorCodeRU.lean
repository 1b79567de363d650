/- Functions of the program, resolved: made by a program of ours; each is checked by the kernel. -/
import Derived.Test.YtkhgmmejgikgnaaDoorPB
namespace Go.Proofs.YtkhgmmejgikgnaaDoor
def c86 : MC :=
   (.seq
    (.ops [i_ 2 (.mv (KB false))])
    (.seq
     (.block 0
      (.loop [(7, 33), (3, 7), (0, 1), (33, 48), (48, 52), (52, 55), (55, 77), (77, 98), (2, 3), (98, 129), (129, 169)]
       (.seq
        (.seq
         (.ops [i_ 7 (.mv (T 0)),
           i_ 8 (.lenS (T 7)),
           i_ 9 (.ib .gtr (T 8) (KI 0))])
         (.cond (T 9)
          .skip
          (.exit 0)))
        (.block 1
         (.seq
          (.ops [i_ 10 (.mv (T 0)),
            i_ 11 (.idx (T 10) (KI 0)),
            i_ 3 (.mv (T 11))])
          (.seq
           (.seq
            (.ops [i_ 12 (.mv (T 3)),
              i_ 13 (.ib .lss (T 12) (KU 128))])
            (.cond (T 13)
             (.seq
              (.ops [i_ 14 (.mv (T 0)),
                i_ 15 (.slS (T 14) (some (KI 1)) none),
                i_ 0 (.mv (T 15))])
              (.seq
               (.seq
                (.ops [i_ 16 (.mv (T 0)),
                  i_ 17 (.lenS (T 16)),
                  i_ 18 (.ib .gtr (T 17) (KI 8)),
                  i_ 19 (.mv (T 18)),
                  ig 20 19 true (.mv (T 0)),
                  ig 21 19 true (.call 125 [(T 20)]),
                  ig 22 19 true (.ib .and (T 21) (.const (.int .u64 9259542123273814144))),
                  ig 23 19 true (.ib .eql (T 22) (.const (.int .u64 0))),
                  i_ 24 (.pick (T 19) (T 23) (KB false))])
                (.cond (T 24)
                 (.seq
                  (.ops [i_ 25 (.mv (T 0)),
                    i_ 26 (.slS (T 25) (some (KI 8)) none),
                    i_ 0 (.mv (T 26))])
                  (.seq
                   (.dops <|
                     .op 0 (i_ 27 (.mv (T 0))) <|
                     .op 1 (i_ 28 (.lenS (T 27))) <|
                     .op 2 (i_ 29 (.ib .gtr (T 28) (KI 16))) <|
                     .op 3 (i_ 30 (.mv (T 29))) <|
                     .op 4 (ig 31 30 true (.mv (T 0))) <|
                     .op 6 (ig 33 30 true (.mv (T 0))) <|
                     .op 7 (ig 34 30 true (.slS (T 33) (some (KI 8)) none)) <|
                     .op 5 (ig 32 30 true (.call 125 [(T 31)])) <|
                     .op 8 (ig 35 30 true (.call 125 [(T 34)])) <|
                     .op 9 (ig 36 30 true (.ib .or (T 32) (T 35))) <|
                     .op 10 (ig 37 30 true (.ib .and (T 36) (.const (.int .u64 9259542123273814144)))) <|
                     .op 11 (ig 38 30 true (.ib .eql (T 37) (.const (.int .u64 0)))) <|
                     .op 12 (i_ 39 (.pick (T 30) (T 38) (KB false))) <|
                     .nil)
                   (.cond (T 39)
                    (.seq
                     (.ops [i_ 40 (.mv (T 0)),
                       i_ 41 (.slS (T 40) (some (KI 16)) none),
                       i_ 0 (.mv (T 41))])
                     (.block 2
                      (.loop [(42, 48), (48, 52), (52, 55), (55, 65), (0, 1)]
                       (.seq
                        (.seq
                         (.dops <|
                           .op 0 (i_ 42 (.mv (T 0))) <|
                           .op 1 (i_ 43 (.lenS (T 42))) <|
                           .op 2 (i_ 44 (.ib .gtr (T 43) (KI 32))) <|
                           .op 3 (i_ 45 (.mv (T 44))) <|
                           .op 4 (ig 46 45 true (.mv (T 0))) <|
                           .op 6 (ig 48 45 true (.mv (T 0))) <|
                           .op 7 (ig 49 45 true (.slS (T 48) (some (KI 8)) none)) <|
                           .op 10 (ig 52 45 true (.mv (T 0))) <|
                           .op 11 (ig 53 45 true (.slS (T 52) (some (KI 16)) none)) <|
                           .op 13 (ig 55 45 true (.mv (T 0))) <|
                           .op 14 (ig 56 45 true (.slS (T 55) (some (KI 24)) none)) <|
                           .op 5 (ig 47 45 true (.call 125 [(T 46)])) <|
                           .op 8 (ig 50 45 true (.call 125 [(T 49)])) <|
                           .op 9 (ig 51 45 true (.ib .or (T 47) (T 50))) <|
                           .op 12 (ig 54 45 true (.call 125 [(T 53)])) <|
                           .op 15 (ig 57 45 true (.call 125 [(T 56)])) <|
                           .op 16 (ig 58 45 true (.ib .or (T 54) (T 57))) <|
                           .op 17 (ig 59 45 true (.ib .or (T 51) (T 58))) <|
                           .op 18 (ig 60 45 true (.ib .and (T 59) (.const (.int .u64 9259542123273814144)))) <|
                           .op 19 (ig 61 45 true (.ib .eql (T 60) (.const (.int .u64 0)))) <|
                           .op 20 (i_ 62 (.pick (T 45) (T 61) (KB false))) <|
                           .nil)
                         (.cond (T 62)
                          .skip
                          (.exit 2)))
                        (.block 3
                         (.ops [i_ 63 (.mv (T 0)),
                           i_ 64 (.slS (T 63) (some (KI 32)) none),
                           i_ 0 (.mv (T 64))]))))))
                    .skip)))
                 .skip))
               (.exit 1)))
             .skip))
           (.seq
            (.ops [i_ 65 (.mv (T 3)),
              i_ 66 (.raw ⟨(some 66), (.indexAddr 157 (.global 0) (T 65)), 0, "utf8.go:542", ⟨[⟨0, .data⟩]⟩, none⟩),
              i_ 67 (.ld1 (T 66)),
              i_ 4 (.mv (T 67))])
            (.seq
             (.ops [i_ 68 (.mv (T 4)),
               i_ 69 (.ib .and (T 68) (KU 7)),
               i_ 70 (.conv .i64 (T 69)),
               i_ 5 (.mv (T 70))])
             (.seq
              (.ops [i_ 71 (.mv (T 4)),
                i_ 72 (.ib .shr (T 71) (.const (.int .u64 4))),
                i_ 73 (.raw ⟨(some 73), (.indexAddr 160 (.global 1) (T 72)), 0, "utf8.go:544", ⟨[⟨1, .data⟩]⟩, none⟩),
                i_ 74 (.ldN 2 (T 73)),
                i_ 6 (.alloc 159 [(.int .u8 0), (.int .u8 0)]),
                n_ (.st 2 (T 6) (T 74))])
              (.seq
               (.ops [i_ 75 (.mv (T 5))])
               (.block 4
                (.seq
                 (.ops [i_ 77 (.ib .eql (T 75) (KI 2)),
                   i_ 76 (.mv (T 77))])
                 (.cond (T 76)
                  (.seq
                   (.seq
                    (.dops <|
                      .op 0 (i_ 78 (.mv (T 0))) <|
                      .op 1 (i_ 79 (.lenS (T 78))) <|
                      .op 2 (i_ 80 (.ib .lss (T 79) (KI 2))) <|
                      .op 3 (i_ 81 (.mv (T 80))) <|
                      .op 4 (ig 82 81 false (.mv (T 0))) <|
                      .op 5 (ig 83 81 false (.idx (T 82) (KI 1))) <|
                      .op 6 (ig 84 81 false (.faddr 0 (T 6))) <|
                      .op 7 (ig 85 81 false (.ld1 (T 84))) <|
                      .op 8 (ig 86 81 false (.ib .lss (T 83) (T 85))) <|
                      .op 9 (i_ 87 (.pick (T 81) (KB true) (T 86))) <|
                      .op 10 (i_ 88 (.mv (T 87))) <|
                      .op 11 (ig 89 88 false (.faddr 1 (T 6))) <|
                      .op 12 (ig 90 88 false (.ld1 (T 89))) <|
                      .op 13 (ig 91 88 false (.mv (T 0))) <|
                      .op 14 (ig 92 88 false (.idx (T 91) (KI 1))) <|
                      .op 15 (ig 93 88 false (.ib .lss (T 90) (T 92))) <|
                      .op 16 (i_ 94 (.pick (T 88) (KB true) (T 93))) <|
                      .nil)
                    (.cond (T 94)
                     (.seq
                      (.ops [i_ 2 (.mv (KB false))])
                      .ret)
                     .skip))
                   (.ops [i_ 95 (.mv (T 0)),
                     i_ 96 (.slS (T 95) (some (KI 2)) none),
                     i_ 0 (.mv (T 96))]))
                  (.seq
                   (.ops [i_ 98 (.ib .eql (T 75) (KI 3)),
                     i_ 97 (.mv (T 98))])
                   (.cond (T 97)
                    (.seq
                     (.seq
                      (.dops <|
                        .op 0 (i_ 99 (.mv (T 0))) <|
                        .op 1 (i_ 100 (.lenS (T 99))) <|
                        .op 2 (i_ 101 (.ib .lss (T 100) (KI 3))) <|
                        .op 3 (i_ 102 (.mv (T 101))) <|
                        .op 4 (ig 103 102 false (.mv (T 0))) <|
                        .op 5 (ig 104 102 false (.idx (T 103) (KI 1))) <|
                        .op 6 (ig 105 102 false (.faddr 0 (T 6))) <|
                        .op 7 (ig 106 102 false (.ld1 (T 105))) <|
                        .op 8 (ig 107 102 false (.ib .lss (T 104) (T 106))) <|
                        .op 9 (i_ 108 (.pick (T 102) (KB true) (T 107))) <|
                        .op 10 (i_ 109 (.mv (T 108))) <|
                        .op 11 (ig 110 109 false (.faddr 1 (T 6))) <|
                        .op 12 (ig 111 109 false (.ld1 (T 110))) <|
                        .op 13 (ig 112 109 false (.mv (T 0))) <|
                        .op 14 (ig 113 109 false (.idx (T 112) (KI 1))) <|
                        .op 15 (ig 114 109 false (.ib .lss (T 111) (T 113))) <|
                        .op 16 (i_ 115 (.pick (T 109) (KB true) (T 114))) <|
                        .op 17 (i_ 116 (.mv (T 115))) <|
                        .op 18 (ig 117 116 false (.mv (T 0))) <|
                        .op 19 (ig 118 116 false (.idx (T 117) (KI 2))) <|
                        .op 20 (ig 119 116 false (.ib .lss (T 118) (KU 128))) <|
                        .op 21 (i_ 120 (.pick (T 116) (KB true) (T 119))) <|
                        .op 22 (i_ 121 (.mv (T 120))) <|
                        .op 23 (ig 122 121 false (.mv (T 0))) <|
                        .op 24 (ig 123 121 false (.idx (T 122) (KI 2))) <|
                        .op 25 (ig 124 121 false (.ib .lss (KU 191) (T 123))) <|
                        .op 26 (i_ 125 (.pick (T 121) (KB true) (T 124))) <|
                        .nil)
                      (.cond (T 125)
                       (.seq
                        (.ops [i_ 2 (.mv (KB false))])
                        .ret)
                       .skip))
                     (.ops [i_ 126 (.mv (T 0)),
                       i_ 127 (.slS (T 126) (some (KI 3)) none),
                       i_ 0 (.mv (T 127))]))
                    (.seq
                     (.ops [i_ 129 (.ib .eql (T 75) (KI 4)),
                       i_ 128 (.mv (T 129))])
                     (.cond (T 128)
                      (.seq
                       (.seq
                        (.dops <|
                          .op 0 (i_ 130 (.mv (T 0))) <|
                          .op 1 (i_ 131 (.lenS (T 130))) <|
                          .op 2 (i_ 132 (.ib .lss (T 131) (KI 4))) <|
                          .op 3 (i_ 133 (.mv (T 132))) <|
                          .op 4 (ig 134 133 false (.mv (T 0))) <|
                          .op 5 (ig 135 133 false (.idx (T 134) (KI 1))) <|
                          .op 6 (ig 136 133 false (.faddr 0 (T 6))) <|
                          .op 7 (ig 137 133 false (.ld1 (T 136))) <|
                          .op 8 (ig 138 133 false (.ib .lss (T 135) (T 137))) <|
                          .op 9 (i_ 139 (.pick (T 133) (KB true) (T 138))) <|
                          .op 10 (i_ 140 (.mv (T 139))) <|
                          .op 11 (ig 141 140 false (.faddr 1 (T 6))) <|
                          .op 12 (ig 142 140 false (.ld1 (T 141))) <|
                          .op 13 (ig 143 140 false (.mv (T 0))) <|
                          .op 14 (ig 144 140 false (.idx (T 143) (KI 1))) <|
                          .op 15 (ig 145 140 false (.ib .lss (T 142) (T 144))) <|
                          .op 16 (i_ 146 (.pick (T 140) (KB true) (T 145))) <|
                          .op 17 (i_ 147 (.mv (T 146))) <|
                          .op 18 (ig 148 147 false (.mv (T 0))) <|
                          .op 19 (ig 149 147 false (.idx (T 148) (KI 2))) <|
                          .op 20 (ig 150 147 false (.ib .lss (T 149) (KU 128))) <|
                          .op 21 (i_ 151 (.pick (T 147) (KB true) (T 150))) <|
                          .op 22 (i_ 152 (.mv (T 151))) <|
                          .op 23 (ig 153 152 false (.mv (T 0))) <|
                          .op 24 (ig 154 152 false (.idx (T 153) (KI 2))) <|
                          .op 25 (ig 155 152 false (.ib .lss (KU 191) (T 154))) <|
                          .op 26 (i_ 156 (.pick (T 152) (KB true) (T 155))) <|
                          .op 27 (i_ 157 (.mv (T 156))) <|
                          .op 28 (ig 158 157 false (.mv (T 0))) <|
                          .op 29 (ig 159 157 false (.idx (T 158) (KI 3))) <|
                          .op 30 (ig 160 157 false (.ib .lss (T 159) (KU 128))) <|
                          .op 31 (i_ 161 (.pick (T 157) (KB true) (T 160))) <|
                          .op 32 (i_ 162 (.mv (T 161))) <|
                          .op 33 (ig 163 162 false (.mv (T 0))) <|
                          .op 34 (ig 164 162 false (.idx (T 163) (KI 3))) <|
                          .op 35 (ig 165 162 false (.ib .lss (KU 191) (T 164))) <|
                          .op 36 (i_ 166 (.pick (T 162) (KB true) (T 165))) <|
                          .nil)
                        (.cond (T 166)
                         (.seq
                          (.ops [i_ 2 (.mv (KB false))])
                          .ret)
                         .skip))
                       (.ops [i_ 167 (.mv (T 0)),
                         i_ 168 (.slS (T 167) (some (KI 4)) none),
                         i_ 0 (.mv (T 168))]))
                      (.seq
                       (.ops [i_ 2 (.mv (KB false))])
                       .ret))))))))))))))))))
     (.seq
      (.ops [i_ 2 (.mv (KB true))])
      .ret)))
def m86 : MF := ⟨169, [(.tmp 2)], c86⟩
theorem r86 : resF Tryd.prog Tryd.f86 = some m86 := by kernel_rfl
theorem k86 : Callable Tryd.prog 86 := ⟨_, Tryd.func86, by kernel_rfl, by kernel_rfl⟩

def c125 : MC :=
   (.seq
    (.ops [i_ 2 (.mv (.const (.int .u64 0)))])
    (.seq
     (.cond (KB false)
      (.seq
       (.dops <|
         .op 0 (i_ 3 (.mv (T 0))) <|
         .op 1 (i_ 4 (.idx (T 3) (KI 0))) <|
         .op 2 (i_ 5 (.conv .u64 (T 4))) <|
         .op 3 (i_ 6 (.mv (T 0))) <|
         .op 4 (i_ 7 (.idx (T 6) (KI 1))) <|
         .op 5 (i_ 8 (.conv .u64 (T 7))) <|
         .op 6 (i_ 9 (.ib .shl (T 8) (.const (.int .u64 8)))) <|
         .op 7 (i_ 10 (.ib .or (T 5) (T 9))) <|
         .op 8 (i_ 11 (.mv (T 0))) <|
         .op 9 (i_ 12 (.idx (T 11) (KI 2))) <|
         .op 10 (i_ 13 (.conv .u64 (T 12))) <|
         .op 11 (i_ 14 (.ib .shl (T 13) (.const (.int .u64 16)))) <|
         .op 12 (i_ 15 (.ib .or (T 10) (T 14))) <|
         .op 13 (i_ 16 (.mv (T 0))) <|
         .op 14 (i_ 17 (.idx (T 16) (KI 3))) <|
         .op 15 (i_ 18 (.conv .u64 (T 17))) <|
         .op 16 (i_ 19 (.ib .shl (T 18) (.const (.int .u64 24)))) <|
         .op 17 (i_ 20 (.ib .or (T 15) (T 19))) <|
         .op 18 (i_ 2 (.mv (T 20))) <|
         .nil)
       .ret)
      .skip)
     (.seq
      (.dops <|
        .op 0 (i_ 21 (.mv (T 0))) <|
        .op 1 (i_ 22 (.idx (T 21) (KI 0))) <|
        .op 2 (i_ 23 (.conv .u64 (T 22))) <|
        .op 3 (i_ 24 (.mv (T 0))) <|
        .op 4 (i_ 25 (.idx (T 24) (KI 1))) <|
        .op 5 (i_ 26 (.conv .u64 (T 25))) <|
        .op 6 (i_ 27 (.ib .shl (T 26) (.const (.int .u64 8)))) <|
        .op 7 (i_ 28 (.ib .or (T 23) (T 27))) <|
        .op 8 (i_ 29 (.mv (T 0))) <|
        .op 9 (i_ 30 (.idx (T 29) (KI 2))) <|
        .op 10 (i_ 31 (.conv .u64 (T 30))) <|
        .op 11 (i_ 32 (.ib .shl (T 31) (.const (.int .u64 16)))) <|
        .op 12 (i_ 33 (.ib .or (T 28) (T 32))) <|
        .op 13 (i_ 34 (.mv (T 0))) <|
        .op 14 (i_ 35 (.idx (T 34) (KI 3))) <|
        .op 15 (i_ 36 (.conv .u64 (T 35))) <|
        .op 16 (i_ 37 (.ib .shl (T 36) (.const (.int .u64 24)))) <|
        .op 17 (i_ 38 (.ib .or (T 33) (T 37))) <|
        .op 18 (i_ 39 (.mv (T 0))) <|
        .op 19 (i_ 40 (.idx (T 39) (KI 4))) <|
        .op 20 (i_ 41 (.conv .u64 (T 40))) <|
        .op 21 (i_ 42 (.ib .shl (T 41) (.const (.int .u64 32)))) <|
        .op 22 (i_ 43 (.ib .or (T 38) (T 42))) <|
        .op 23 (i_ 44 (.mv (T 0))) <|
        .op 24 (i_ 45 (.idx (T 44) (KI 5))) <|
        .op 25 (i_ 46 (.conv .u64 (T 45))) <|
        .op 26 (i_ 47 (.ib .shl (T 46) (.const (.int .u64 40)))) <|
        .op 27 (i_ 48 (.ib .or (T 43) (T 47))) <|
        .op 28 (i_ 49 (.mv (T 0))) <|
        .op 29 (i_ 50 (.idx (T 49) (KI 6))) <|
        .op 30 (i_ 51 (.conv .u64 (T 50))) <|
        .op 31 (i_ 52 (.ib .shl (T 51) (.const (.int .u64 48)))) <|
        .op 32 (i_ 53 (.ib .or (T 48) (T 52))) <|
        .op 33 (i_ 54 (.mv (T 0))) <|
        .op 34 (i_ 55 (.idx (T 54) (KI 7))) <|
        .op 35 (i_ 56 (.conv .u64 (T 55))) <|
        .op 36 (i_ 57 (.ib .shl (T 56) (.const (.int .u64 56)))) <|
        .op 37 (i_ 58 (.ib .or (T 53) (T 57))) <|
        .op 38 (i_ 2 (.mv (T 58))) <|
        .nil)
      .ret)))
def m125 : MF := ⟨59, [(.tmp 2)], c125⟩
theorem r125 : resF Tryd.prog Tryd.f125 = some m125 := by kernel_rfl
theorem k125 : Callable Tryd.prog 125 := ⟨_, Tryd.func125, by kernel_rfl, by kernel_rfl⟩

end Go.Proofs.YtkhgmmejgikgnaaDoor
