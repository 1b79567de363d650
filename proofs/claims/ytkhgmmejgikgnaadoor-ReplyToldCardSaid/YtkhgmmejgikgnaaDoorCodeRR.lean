/- Functions of the program, resolved: made by a program of ours; each is checked by the kernel. -/
import Derived.Test.YtkhgmmejgikgnaaDoorPB
namespace Go.Proofs.YtkhgmmejgikgnaaDoor
def c28 : MC :=
   (.seq
    (.ops [i_ 1 (.box 49 (T 0)),
      i_ 2 (.mv (.const (.slice none 0 0)))])
    (.seq
     (.dops <|
       .op 0 (i_ 7 (.faddr 0 (T 1))) <|
       .op 1 (i_ 8 (.ld1 (T 7))) <|
       .op 5 (i_ 12 (.faddr 0 (T 1))) <|
       .op 6 (i_ 13 (.ld1 (T 12))) <|
       .op 2 (id_ 9 (.call 69 [(T 8)]) [1]) <|
       .op 3 (i_ 10 (.sb .add (KS [72, 84, 84, 80, 47, 49, 46, 49, 32]) (T 9))) <|
       .op 4 (i_ 11 (.sb .add (T 10) (KS [32]))) <|
       .op 7 (id_ 14 (.call 70 [(T 13)]) [1, 6]) <|
       .op 8 (i_ 15 (.sb .add (T 11) (T 14))) <|
       .op 9 (id_ 16 (.bslice 9 [(.string ⟨⟨[]⟩⟩)] 1 1 [(0, (1, (T 15)))]) [1, 6]) <|
       .op 10 (i_ 3 (.mv (T 16))) <|
       .nil)
     (.seq
      (.dops <|
        .op 0 (i_ 17 (.faddr 1 (T 1))) <|
        .op 1 (i_ 18 (.ld1 (T 17))) <|
        .op 2 (i_ 19 (.faddr 2 (T 1))) <|
        .op 3 (i_ 20 (.ld1 (T 19))) <|
        .op 4 (i_ 21 (.lenS (T 20))) <|
        .op 7 (i_ 24 (.build [(.string ⟨⟨[]⟩⟩), (.string ⟨⟨[]⟩⟩)] [(0, (1, (KS [99, 97, 99, 104, 101, 45, 99, 111, 110, 116, 114, 111, 108]))), (1, (1, (KS [110, 111, 45, 115, 116, 111, 114, 101])))])) <|
        .op 5 (id_ 22 (.call 69 [(T 21)]) [3]) <|
        .op 6 (i_ 23 (.build [(.string ⟨⟨[]⟩⟩), (.string ⟨⟨[]⟩⟩)] [(0, (1, (KS [99, 111, 110, 116, 101, 110, 116, 45, 108, 101, 110, 103, 116, 104]))), (1, (1, (T 22)))])) <|
        .op 8 (id_ 25 (.bslice 71 [(.string ⟨⟨[]⟩⟩), (.string ⟨⟨[]⟩⟩)] 2 2 [(0, (2, (T 23))), (2, (2, (T 24)))]) [3]) <|
        .op 9 (id_ 26 (.bslice 23 [(.slice none 0 0)] 2 1 [(0, (1, (T 18))), (1, (1, (T 25)))]) [3, 1]) <|
        .op 10 (id_ 27 (.call 71 [(T 26)]) [1, 3]) <|
        .op 11 (i_ 4 (.mv (T 27))) <|
        .nil)
      (.seq
       (.seq
        (.ops [i_ 28 (.mv (T 4)),
          i_ 29 (.lenV (T 28)),
          i_ 30 (.mv (KI 0))])
        (.block 0
         (.loop [(31, 44), (6, 7), (3, 4), (30, 31)]
          (.seq
           (.ops [i_ 31 (.ib .lss (T 30) (T 29))])
           (.seq
            (.cond (T 31)
             .skip
             (.exit 0))
            (.seq
             (.block 1
              (.seq
               (.ops [i_ 32 (.iaddr 2 (T 28) (T 30)),
                 i_ 33 (.ldN 2 (T 32)),
                 i_ 6 (.alloc 71 [(.string ⟨⟨[]⟩⟩), (.string ⟨⟨[]⟩⟩)]),
                 n_ (.st 2 (T 6) (T 33))])
               (.ops [i_ 34 (.mv (T 3)),
                 i_ 35 (.faddr 0 (T 6)),
                 i_ 36 (.ld1 (T 35)),
                 i_ 37 (.sb .add (T 36) (KS [58, 32])),
                 i_ 38 (.faddr 1 (T 6)),
                 i_ 39 (.ld1 (T 38)),
                 i_ 40 (.sb .add (T 37) (T 39)),
                 i_ 41 (.bslice 9 [(.string ⟨⟨[]⟩⟩)] 1 1 [(0, (1, (T 40)))]),
                 i_ 42 (.append 9 1 16 (T 34) (T 41)),
                 i_ 3 (.mv (T 42))])))
             (.ops [i_ 43 (.ib .add (T 30) (KI 1)),
               i_ 30 (.mv (T 43))])))))))
       (.seq
        (.dops <|
          .op 0 (i_ 44 (.mv (T 3))) <|
          .op 3 (i_ 47 (.faddr 2 (T 1))) <|
          .op 4 (i_ 48 (.ld1 (T 47))) <|
          .op 1 (i_ 45 (.call 72 [(T 44), (KS [13, 10])])) <|
          .op 2 (i_ 46 (.sb .add (T 45) (KS [13, 10, 13, 10]))) <|
          .op 5 (i_ 49 (.sb .add (T 46) (T 48))) <|
          .op 6 (id_ 50 (.s2b 5 (T 49)) [4]) <|
          .op 7 (i_ 2 (.mv (T 50))) <|
          .nil)
        .ret)))))
def m28 : MF := ⟨51, [(.tmp 2)], c28⟩
theorem r28 : resF Tryd.prog Tryd.f28 = some m28 := by kernel_rfl
theorem k28 : Callable Tryd.prog 28 := ⟨_, Tryd.func28, by kernel_rfl, by kernel_rfl⟩

def c70 : MC :=
   (.seq
    (.ops [i_ 2 (.mv (KS []))])
    (.seq
     (.seq
      (.ops [i_ 3 (.mv (T 0))])
      (.block 0
       (.seq
        (.ops [i_ 5 (.ib .eql (T 3) (KI 200)),
          i_ 4 (.mv (T 5))])
        (.cond (T 4)
         (.seq
          (.ops [i_ 2 (.mv (KS [79, 75]))])
          .ret)
         (.seq
          (.ops [i_ 7 (.ib .eql (T 3) (KI 302)),
            i_ 6 (.mv (T 7))])
          (.cond (T 6)
           (.seq
            (.ops [i_ 2 (.mv (KS [70, 111, 117, 110, 100]))])
            .ret)
           (.seq
            (.ops [i_ 9 (.ib .eql (T 3) (KI 400)),
              i_ 8 (.mv (T 9))])
            (.cond (T 8)
             (.seq
              (.ops [i_ 2 (.mv (KS [66, 97, 100, 32, 82, 101, 113, 117, 101, 115, 116]))])
              .ret)
             (.seq
              (.ops [i_ 11 (.ib .eql (T 3) (KI 401)),
                i_ 10 (.mv (T 11))])
              (.cond (T 10)
               (.seq
                (.ops [i_ 2 (.mv (KS [85, 110, 97, 117, 116, 104, 111, 114, 105, 122, 101, 100]))])
                .ret)
               (.seq
                (.ops [i_ 13 (.ib .eql (T 3) (KI 403)),
                  i_ 12 (.mv (T 13))])
                (.cond (T 12)
                 (.seq
                  (.ops [i_ 2 (.mv (KS [70, 111, 114, 98, 105, 100, 100, 101, 110]))])
                  .ret)
                 (.seq
                  (.ops [i_ 15 (.ib .eql (T 3) (KI 404)),
                    i_ 14 (.mv (T 15))])
                  (.cond (T 14)
                   (.seq
                    (.ops [i_ 2 (.mv (KS [78, 111, 116, 32, 70, 111, 117, 110, 100]))])
                    .ret)
                   (.seq
                    (.ops [i_ 17 (.ib .eql (T 3) (KI 405)),
                      i_ 16 (.mv (T 17))])
                    (.cond (T 16)
                     (.seq
                      (.ops [i_ 2 (.mv (KS [77, 101, 116, 104, 111, 100, 32, 78, 111, 116, 32, 65, 108, 108, 111, 119, 101, 100]))])
                      .ret)
                     (.seq
                      (.ops [i_ 19 (.ib .eql (T 3) (KI 409)),
                        i_ 18 (.mv (T 19))])
                      (.cond (T 18)
                       (.seq
                        (.ops [i_ 2 (.mv (KS [67, 111, 110, 102, 108, 105, 99, 116]))])
                        .ret)
                       (.seq
                        (.ops [i_ 21 (.ib .eql (T 3) (KI 412)),
                          i_ 20 (.mv (T 21))])
                        (.cond (T 20)
                         (.seq
                          (.ops [i_ 2 (.mv (KS [80, 114, 101, 99, 111, 110, 100, 105, 116, 105, 111, 110, 32, 70, 97, 105, 108, 101, 100]))])
                          .ret)
                         (.seq
                          (.ops [i_ 23 (.ib .eql (T 3) (KI 413)),
                            i_ 22 (.mv (T 23))])
                          (.cond (T 22)
                           (.seq
                            (.ops [i_ 2 (.mv (KS [67, 111, 110, 116, 101, 110, 116, 32, 84, 111, 111, 32, 76, 97, 114, 103, 101]))])
                            .ret)
                           (.seq
                            (.ops [i_ 25 (.ib .eql (T 3) (KI 500)),
                              i_ 24 (.mv (T 25))])
                            (.cond (T 24)
                             (.seq
                              (.ops [i_ 2 (.mv (KS [73, 110, 116, 101, 114, 110, 97, 108, 32, 83, 101, 114, 118, 101, 114, 32, 69, 114, 114, 111, 114]))])
                              .ret)
                             (.seq
                              (.ops [i_ 27 (.ib .eql (T 3) (KI 503)),
                                i_ 26 (.mv (T 27))])
                              (.cond (T 26)
                               (.seq
                                (.ops [i_ 2 (.mv (KS [83, 101, 114, 118, 105, 99, 101, 32, 85, 110, 97, 118, 97, 105, 108, 97, 98, 108, 101]))])
                                .ret)
                               (.seq
                                (.ops [i_ 29 (.ib .eql (T 3) (KI 507)),
                                  i_ 28 (.mv (T 29))])
                                (.cond (T 28)
                                 (.seq
                                  (.ops [i_ 2 (.mv (KS [73, 110, 115, 117, 102, 102, 105, 99, 105, 101, 110, 116, 32, 83, 116, 111, 114, 97, 103, 101]))])
                                  .ret)
                                 .skip))))))))))))))))))))))))))))
     (.seq
      (.ops [i_ 2 (.mv (KS [85, 110, 107, 110, 111, 119, 110]))])
      .ret)))
def m70 : MF := ⟨30, [(.tmp 2)], c70⟩
theorem r70 : resF Tryd.prog Tryd.f70 = some m70 := by kernel_rfl
theorem k70 : Callable Tryd.prog 70 := ⟨_, Tryd.func70, by kernel_rfl, by kernel_rfl⟩

def c71 : MC :=
   (.seq
    (.ops [i_ 2 (.mv (.const (.slice none 0 0)))])
    (.seq
     (.ops [i_ 3 (.mv (KI 0))])
     (.seq
      (.seq
       (.ops [i_ 9 (.mv (T 0)),
         i_ 10 (.lenV (T 9)),
         i_ 11 (.mv (KI 0))])
       (.block 0
        (.loop [(12, 23), (5, 6), (3, 4), (11, 12)]
         (.seq
          (.ops [i_ 12 (.ib .lss (T 11) (T 10))])
          (.seq
           (.cond (T 12)
            .skip
            (.exit 0))
           (.seq
            (.block 1
             (.seq
              (.ops [i_ 13 (.iaddr 1 (T 9) (T 11)),
                i_ 14 (.ld1 (T 13)),
                i_ 5 (.mv (T 14))])
              (.seq
               (.ops [i_ 15 (.mv (T 3)),
                 i_ 16 (.mv (T 5)),
                 i_ 17 (.lenV (T 16)),
                 i_ 18 (.ib .add (T 15) (T 17)),
                 i_ 3 (.mv (T 18))])
               (.seq
                (.ops [i_ 19 (.mv (T 3)),
                  i_ 20 (.ib .lss (T 19) (KI 0))])
                (.cond (T 20)
                 (.ops [i_ 21 (.raw ⟨(some 21), (.makeInterface 9 (KS [108, 101, 110, 32, 111, 117, 116, 32, 111, 102, 32, 114, 97, 110, 103, 101])), 20, "slices.go:496", ⟨[]⟩, none⟩),
                   n_ (.raw ⟨none, (.panic (T 21)), 0, "slices.go:496", ⟨[⟨0, .data⟩]⟩, none⟩)])
                 .skip)))))
            (.ops [i_ 22 (.ib .add (T 11) (KI 1)),
              i_ 11 (.mv (T 22))])))))))
      (.seq
       (.ops [i_ 23 (.mv (T 3)),
         i_ 24 (.call 112 [(.const (.slice none 0 0)), (T 23)]),
         i_ 6 (.mv (T 24))])
       (.seq
        (.seq
         (.ops [i_ 25 (.mv (T 0)),
           i_ 26 (.lenV (T 25)),
           i_ 27 (.mv (KI 0))])
         (.block 2
          (.loop [(28, 35), (8, 9), (6, 7), (27, 28)]
           (.seq
            (.ops [i_ 28 (.ib .lss (T 27) (T 26))])
            (.seq
             (.cond (T 28)
              .skip
              (.exit 2))
             (.seq
              (.block 3
               (.seq
                (.ops [i_ 29 (.iaddr 1 (T 25) (T 27)),
                  i_ 30 (.ld1 (T 29)),
                  i_ 8 (.mv (T 30))])
                (.ops [i_ 31 (.mv (T 6)),
                  i_ 32 (.mv (T 8)),
                  i_ 33 (.append 71 2 32 (T 31) (T 32)),
                  i_ 6 (.mv (T 33))])))
              (.ops [i_ 34 (.ib .add (T 27) (KI 1)),
                i_ 27 (.mv (T 34))])))))))
        (.seq
         (.ops [i_ 35 (.mv (T 6)),
           i_ 2 (.mv (T 35))])
         .ret))))))
def m71 : MF := ⟨36, [(.tmp 2)], c71⟩
theorem r71 : resF Tryd.prog Tryd.f71 = some m71 := by kernel_rfl
theorem k71 : Callable Tryd.prog 71 := ⟨_, Tryd.func71, by kernel_rfl, by kernel_rfl⟩

def c112 : MC :=
   (.seq
    (.ops [i_ 4 (.mv (.const (.slice none 0 0)))])
    (.seq
     (.seq
      (.ops [i_ 5 (.mv (T 1)),
        i_ 6 (.ib .lss (T 5) (KI 0))])
      (.cond (T 6)
       (.ops [i_ 7 (.raw ⟨(some 7), (.makeInterface 9 (KS [99, 97, 110, 110, 111, 116, 32, 98, 101, 32, 110, 101, 103, 97, 116, 105, 118, 101])), 20, "slices.go:424", ⟨[]⟩, none⟩),
         n_ (.raw ⟨none, (.panic (T 7)), 0, "slices.go:424", ⟨[⟨0, .data⟩]⟩, none⟩)])
       .skip))
     (.seq
      (.seq
       (.ops [i_ 8 (.mv (T 1)),
         i_ 9 (.mv (T 0)),
         i_ 10 (.raw ⟨(some 10), (.call ⟨(.builtin .cap), ⟨[(T 9)]⟩, ⟨[23]⟩⟩), 3, "slices.go:426", ⟨[⟨1, .data⟩]⟩, none⟩),
         i_ 11 (.mv (T 0)),
         i_ 12 (.lenV (T 11)),
         i_ 13 (.ib .sub (T 10) (T 12)),
         i_ 14 (.ib .sub (T 8) (T 13)),
         i_ 1 (.mv (T 14))])
       (.seq
        (.ops [i_ 15 (.mv (T 1)),
          i_ 16 (.ib .gtr (T 15) (KI 0))])
        (.cond (T 16)
         (.ops [i_ 17 (.mv (T 0)),
           i_ 18 (.mv (T 0)),
           i_ 19 (.raw ⟨(some 19), (.call ⟨(.builtin .cap), ⟨[(T 18)]⟩, ⟨[23]⟩⟩), 3, "slices.go:428", ⟨[⟨1, .data⟩]⟩, none⟩),
           i_ 20 (.slV 2 (T 17) none (some (T 19))),
           i_ 21 (.mv (T 1)),
           i_ 22 (.raw ⟨(some 22), (.call ⟨(.builtin .append), ⟨[(T 20), (T 21)]⟩, ⟨[23, 3]⟩⟩), 23, "slices.go:428", ⟨[⟨3, .data⟩, ⟨4, .data⟩]⟩, none⟩),
           i_ 23 (.mv (T 0)),
           i_ 24 (.lenV (T 23)),
           i_ 25 (.slV 2 (T 22) none (some (T 24))),
           i_ 0 (.mv (T 25))])
         .skip)))
      (.seq
       (.ops [i_ 26 (.mv (T 0)),
         i_ 4 (.mv (T 26))])
       .ret))))
def m112 : MF := ⟨27, [(.tmp 4)], c112⟩
theorem r112 : resF Tryd.prog Tryd.f112 = some m112 := by kernel_rfl
theorem k112 : Callable Tryd.prog 112 := ⟨_, Tryd.func112, by kernel_rfl, by kernel_rfl⟩

def c29 : MC :=
   (.seq
    (.ops [i_ 1 (.box 47 (T 0)),
      i_ 2 (.mv (.const (.slice none 0 0)))])
    (.seq
     (.dops <|
       .op 0 (i_ 5 (.faddr 0 (T 1))) <|
       .op 1 (i_ 6 (.ld1 (T 5))) <|
       .op 5 (i_ 10 (.faddr 0 (T 1))) <|
       .op 6 (i_ 11 (.ld1 (T 10))) <|
       .op 2 (id_ 7 (.call 73 [(T 6)]) [1]) <|
       .op 3 (i_ 8 (.sb .add (KS [72, 84, 84, 80, 47, 49, 46, 49, 32]) (T 7))) <|
       .op 4 (i_ 9 (.sb .add (T 8) (KS [32]))) <|
       .op 7 (id_ 12 (.call 74 [(T 11)]) [1, 6]) <|
       .op 8 (i_ 13 (.sb .add (T 9) (T 12))) <|
       .op 9 (i_ 14 (.sb .add (T 13) (KS [13, 10]))) <|
       .op 10 (i_ 3 (.mv (T 14))) <|
       .nil)
     (.seq
      (.seq
       (.ops [i_ 4 (.mv (KI 0))])
       (.block 0
        (.loop [(15, 22), (22, 39), (3, 5)]
         (.seq
          (.seq
           (.ops [i_ 15 (.mv (T 4)),
             i_ 16 (.faddr 1 (T 1)),
             i_ 17 (.ld1 (T 16)),
             i_ 18 (.lenV (T 17)),
             i_ 19 (.ib .lss (T 15) (T 18))])
           (.cond (T 19)
            .skip
            (.exit 0)))
          (.seq
           (.block 1
            (.dops <|
              .op 0 (i_ 22 (.mv (T 3))) <|
              .op 1 (i_ 23 (.faddr 1 (T 1))) <|
              .op 2 (i_ 24 (.ld1 (T 23))) <|
              .op 3 (i_ 25 (.mv (T 4))) <|
              .op 4 (i_ 26 (.iaddr 2 (T 24) (T 25))) <|
              .op 5 (i_ 27 (.faddr 0 (T 26))) <|
              .op 6 (i_ 28 (.ld1 (T 27))) <|
              .op 7 (i_ 29 (.sb .add (T 22) (T 28))) <|
              .op 8 (i_ 30 (.sb .add (T 29) (KS [58, 32]))) <|
              .op 9 (i_ 31 (.faddr 1 (T 1))) <|
              .op 10 (i_ 32 (.ld1 (T 31))) <|
              .op 11 (i_ 33 (.mv (T 4))) <|
              .op 12 (i_ 34 (.iaddr 2 (T 32) (T 33))) <|
              .op 13 (i_ 35 (.faddr 1 (T 34))) <|
              .op 14 (i_ 36 (.ld1 (T 35))) <|
              .op 15 (i_ 37 (.sb .add (T 30) (T 36))) <|
              .op 16 (i_ 38 (.sb .add (T 37) (KS [13, 10]))) <|
              .op 17 (i_ 3 (.mv (T 38))) <|
              .nil))
           (.ops [i_ 20 (.mv (T 4)),
             i_ 21 (.ib .add (T 20) (KI 1)),
             i_ 4 (.mv (T 21))]))))))
      (.seq
       (.dops <|
         .op 0 (i_ 39 (.mv (T 3))) <|
         .op 1 (i_ 40 (.sb .add (T 39) (KS [99, 111, 110, 116, 101, 110, 116, 45, 108, 101, 110, 103, 116, 104, 58, 32]))) <|
         .op 2 (i_ 41 (.faddr 2 (T 1))) <|
         .op 3 (i_ 42 (.ld1 (T 41))) <|
         .op 4 (i_ 43 (.lenS (T 42))) <|
         .op 8 (i_ 47 (.faddr 2 (T 1))) <|
         .op 9 (i_ 48 (.ld1 (T 47))) <|
         .op 5 (id_ 44 (.call 73 [(T 43)]) [3]) <|
         .op 6 (i_ 45 (.sb .add (T 40) (T 44))) <|
         .op 7 (i_ 46 (.sb .add (T 45) (KS [13, 10, 99, 97, 99, 104, 101, 45, 99, 111, 110, 116, 114, 111, 108, 58, 32, 110, 111, 45, 115, 116, 111, 114, 101, 13, 10, 13, 10]))) <|
         .op 10 (i_ 49 (.sb .add (T 46) (T 48))) <|
         .op 11 (i_ 3 (.mv (T 49))) <|
         .nil)
       (.seq
        (.ops [i_ 50 (.mv (T 3)),
          i_ 51 (.s2b 5 (T 50)),
          i_ 2 (.mv (T 51))])
        .ret)))))
def m29 : MF := ⟨52, [(.tmp 2)], c29⟩
theorem r29 : resF Tryd.prog Tryd.f29 = some m29 := by kernel_rfl
theorem k29 : Callable Tryd.prog 29 := ⟨_, Tryd.func29, by kernel_rfl, by kernel_rfl⟩

def c74 : MC :=
   (.seq
    (.ops [i_ 2 (.mv (KS []))])
    (.seq
     (.ops [i_ 6 (.bslice 3 [(.int .i64 0)] 13 1 [(0, (1, (KI 200))), (1, (1, (KI 302))), (2, (1, (KI 400))), (3, (1, (KI 401))), (4, (1, (KI 403))), (5, (1, (KI 404))), (6, (1, (KI 405))), (7, (1, (KI 409))), (8, (1, (KI 412))), (9, (1, (KI 413))), (10, (1, (KI 500))), (11, (1, (KI 503))), (12, (1, (KI 507)))]),
       i_ 3 (.mv (T 6))])
     (.seq
      (.ops [i_ 7 (.bslice 9 [(.string ⟨⟨[]⟩⟩)] 13 1 [(0, (1, (KS [79, 75]))), (1, (1, (KS [70, 111, 117, 110, 100]))), (2, (1, (KS [66, 97, 100, 32, 82, 101, 113, 117, 101, 115, 116]))), (3, (1, (KS [85, 110, 97, 117, 116, 104, 111, 114, 105, 122, 101, 100]))), (4, (1, (KS [70, 111, 114, 98, 105, 100, 100, 101, 110]))), (5, (1, (KS [78, 111, 116, 32, 70, 111, 117, 110, 100]))), (6, (1, (KS [77, 101, 116, 104, 111, 100, 32, 78, 111, 116, 32, 65, 108, 108, 111, 119, 101, 100]))), (7, (1, (KS [67, 111, 110, 102, 108, 105, 99, 116]))), (8, (1, (KS [80, 114, 101, 99, 111, 110, 100, 105, 116, 105, 111, 110, 32, 70, 97, 105, 108, 101, 100]))), (9, (1, (KS [67, 111, 110, 116, 101, 110, 116, 32, 84, 111, 111, 32, 76, 97, 114, 103, 101]))), (10, (1, (KS [73, 110, 116, 101, 114, 110, 97, 108, 32, 83, 101, 114, 118, 101, 114, 32, 69, 114, 114, 111, 114]))), (11, (1, (KS [83, 101, 114, 118, 105, 99, 101, 32, 85, 110, 97, 118, 97, 105, 108, 97, 98, 108, 101]))), (12, (1, (KS [73, 110, 115, 117, 102, 102, 105, 99, 105, 101, 110, 116, 32, 83, 116, 111, 114, 97, 103, 101])))]),
        i_ 4 (.mv (T 7))])
      (.seq
       (.seq
        (.ops [i_ 5 (.mv (KI 0))])
        (.block 0
         (.loop [(8, 14), (14, 24), (2, 3), (5, 6)]
          (.seq
           (.seq
            (.ops [i_ 8 (.mv (T 5)),
              i_ 9 (.mv (T 3)),
              i_ 10 (.lenV (T 9)),
              i_ 11 (.ib .lss (T 8) (T 10))])
            (.cond (T 11)
             .skip
             (.exit 0)))
           (.seq
            (.block 1
             (.seq
              (.ops [i_ 14 (.mv (T 3)),
                i_ 15 (.mv (T 5)),
                i_ 16 (.iaddr 1 (T 14) (T 15)),
                i_ 17 (.ld1 (T 16)),
                i_ 18 (.mv (T 0)),
                i_ 19 (.ib .eql (T 17) (T 18))])
              (.cond (T 19)
               (.seq
                (.ops [i_ 20 (.mv (T 4)),
                  i_ 21 (.mv (T 5)),
                  i_ 22 (.iaddr 1 (T 20) (T 21)),
                  i_ 23 (.ld1 (T 22)),
                  i_ 2 (.mv (T 23))])
                .ret)
               .skip)))
            (.ops [i_ 12 (.mv (T 5)),
              i_ 13 (.ib .add (T 12) (KI 1)),
              i_ 5 (.mv (T 13))]))))))
       (.seq
        (.ops [i_ 2 (.mv (KS [85, 110, 107, 110, 111, 119, 110]))])
        .ret)))))
def m74 : MF := ⟨24, [(.tmp 2)], c74⟩
theorem r74 : resF Tryd.prog Tryd.f74 = some m74 := by kernel_rfl
theorem k74 : Callable Tryd.prog 74 := ⟨_, Tryd.func74, by kernel_rfl, by kernel_rfl⟩

def c73 : MC :=
   (.seq
    (.ops [i_ 2 (.mv (KS []))])
    (.seq
     (.seq
      (.ops [i_ 3 (.mv (T 0)),
        i_ 4 (.ib .lss (T 3) (KI 0))])
      (.cond (T 4)
       (.seq
        (.ops [i_ 5 (.mv (T 0)),
          i_ 6 (.conv .u64 (T 5)),
          i_ 7 (.ib .sub (.const (.int .u64 0)) (T 6)),
          i_ 8 (.call 115 [(T 7)]),
          i_ 9 (.sb .add (KS [45]) (T 8)),
          i_ 2 (.mv (T 9))])
        .ret)
       .skip))
     (.seq
      (.ops [i_ 10 (.mv (T 0)),
        i_ 11 (.conv .u64 (T 10)),
        i_ 12 (.call 115 [(T 11)]),
        i_ 2 (.mv (T 12))])
      .ret)))
def m73 : MF := ⟨13, [(.tmp 2)], c73⟩
theorem r73 : resF Tryd.prog Tryd.f73 = some m73 := by kernel_rfl
theorem k73 : Callable Tryd.prog 73 := ⟨_, Tryd.func73, by kernel_rfl, by kernel_rfl⟩

def c115 : MC :=
   (.seq
    (.ops [i_ 2 (.mv (KS []))])
    (.seq
     (.ops [i_ 4 (.mv (T 0)),
       i_ 5 (.ib .rem (T 4) (.const (.int .u64 10))),
       i_ 6 (.mv (T 0)),
       i_ 7 (.ib .rem (T 6) (.const (.int .u64 10))),
       i_ 8 (.ib .add (T 7) (.const (.int .u64 1))),
       i_ 9 (.slS (KS [48, 49, 50, 51, 52, 53, 54, 55, 56, 57]) (some (T 5)) (some (T 8))),
       i_ 3 (.mv (T 9))])
     (.seq
      (.block 0
       (.loop [(10, 22), (0, 1), (3, 4)]
        (.seq
         (.seq
          (.ops [i_ 10 (.mv (T 0)),
            i_ 11 (.ib .geq (T 10) (.const (.int .u64 10)))])
          (.cond (T 11)
           .skip
           (.exit 0)))
         (.block 1
          (.seq
           (.ops [i_ 12 (.mv (T 0)),
             i_ 13 (.ib .quo (T 12) (.const (.int .u64 10))),
             i_ 0 (.mv (T 13))])
           (.ops [i_ 14 (.mv (T 0)),
             i_ 15 (.ib .rem (T 14) (.const (.int .u64 10))),
             i_ 16 (.mv (T 0)),
             i_ 17 (.ib .rem (T 16) (.const (.int .u64 10))),
             i_ 18 (.ib .add (T 17) (.const (.int .u64 1))),
             i_ 19 (.slS (KS [48, 49, 50, 51, 52, 53, 54, 55, 56, 57]) (some (T 15)) (some (T 18))),
             i_ 20 (.mv (T 3)),
             i_ 21 (.sb .add (T 19) (T 20)),
             i_ 3 (.mv (T 21))]))))))
      (.seq
       (.ops [i_ 22 (.mv (T 3)),
         i_ 2 (.mv (T 22))])
       .ret))))
def m115 : MF := ⟨23, [(.tmp 2)], c115⟩
theorem r115 : resF Tryd.prog Tryd.f115 = some m115 := by kernel_rfl
theorem k115 : Callable Tryd.prog 115 := ⟨_, Tryd.func115, by kernel_rfl, by kernel_rfl⟩

def c30 : MC :=
   (.seq
    (.ops [i_ 2 (.box 47 (T 0)),
      i_ 3 (.box 47 (T 1)),
      i_ 4 (.mv (KB false))])
    (.seq
     (.ops [i_ 5 (.faddr 0 (T 2)),
       i_ 6 (.ld1 (T 5)),
       i_ 7 (.faddr 0 (T 3)),
       i_ 8 (.ld1 (T 7)),
       i_ 9 (.ib .eql (T 6) (T 8)),
       i_ 10 (.mv (T 9)),
       ig 11 10 true (.faddr 1 (T 2)),
       ig 12 10 true (.ld1 (T 11)),
       ig 13 10 true (.faddr 1 (T 3)),
       ig 14 10 true (.ld1 (T 13)),
       ig 15 10 true (.call 17 [(T 12), (T 14)]),
       i_ 16 (.pick (T 10) (T 15) (KB false)),
       i_ 17 (.mv (T 16)),
       ig 18 17 true (.faddr 2 (T 2)),
       ig 19 17 true (.ld1 (T 18)),
       ig 20 17 true (.faddr 2 (T 3)),
       ig 21 17 true (.ld1 (T 20)),
       ig 22 17 true (.sb .eql (T 19) (T 21)),
       i_ 23 (.pick (T 17) (T 22) (KB false)),
       i_ 4 (.mv (T 23))])
     .ret))
def m30 : MF := ⟨24, [(.tmp 4)], c30⟩
theorem r30 : resF Tryd.prog Tryd.f30 = some m30 := by kernel_rfl
theorem k30 : Callable Tryd.prog 30 := ⟨_, Tryd.func30, by kernel_rfl, by kernel_rfl⟩

def c31 : MC :=
   (.seq
    (.ops [i_ 1 (.box 49 (T 0)),
      i_ 2 (.alloc 47 [(.int .i64 0), (.slice none 0 0), (.string ⟨⟨[]⟩⟩)])])
    (.seq
     (.ops [i_ 3 (.faddr 0 (T 1)),
       i_ 4 (.ld1 (T 3)),
       i_ 5 (.faddr 1 (T 1)),
       i_ 6 (.ld1 (T 5)),
       i_ 7 (.faddr 2 (T 1)),
       i_ 8 (.ld1 (T 7)),
       i_ 9 (.build [(.int .i64 0), (.slice none 0 0), (.string ⟨⟨[]⟩⟩)] [(0, (1, (T 4))), (1, (1, (T 6))), (2, (1, (T 8)))]),
       n_ (.st 3 (T 2) (T 9))])
     .ret))
def m31 : MF := ⟨10, [(.cell 2 3)], c31⟩
theorem r31 : resF Tryd.prog Tryd.f31 = some m31 := by kernel_rfl
theorem k31 : Callable Tryd.prog 31 := ⟨_, Tryd.func31, by kernel_rfl, by kernel_rfl⟩

def c32 : MC :=
   (.seq
    (.ops [i_ 0 (.mv (KB false))])
    (.seq
     (.ops [i_ 4 (.call 37 [(KI 18)]),
       i_ 3 (.mv (T 4)),
       i_ 5 (.ext (T 3) 0),
       i_ 6 (.ext (T 3) 1),
       i_ 1 (.mv (T 5)),
       i_ 2 (.mv (T 6))])
     (.seq
      (.ops [i_ 7 (.mv (T 1)),
        i_ 8 (.ib .eql (T 7) (KI 400)),
        i_ 9 (.mv (T 8)),
        ig 10 9 true (.mv (T 2)),
        ig 11 9 true (.sb .eql (T 10) (KS [105, 110, 118, 97, 108, 105, 100, 95, 103, 114, 97, 110, 116])),
        i_ 12 (.pick (T 9) (T 11) (KB false)),
        i_ 13 (.mv (T 12)),
        ig 14 13 true (.build [(.int .i64 0), (.slice none 0 0), (.string ⟨⟨[]⟩⟩)] [(0, (1, (KI 200)))]),
        ig 15 13 true (.call 28 [(T 14)]),
        ig 16 13 true (.lenV (T 15)),
        ig 17 13 true (.ib .gtr (T 16) (KI 20)),
        i_ 18 (.pick (T 13) (T 17) (KB false)),
        i_ 0 (.mv (T 18))])
      .ret)))
def m32 : MF := ⟨19, [(.tmp 0)], c32⟩
theorem r32 : resF Tryd.prog Tryd.f32 = some m32 := by kernel_rfl
theorem k32 : Callable Tryd.prog 32 := ⟨_, Tryd.func32, by kernel_rfl, by kernel_rfl⟩

def c37 : MC :=
   (.seq
    (.ops [i_ 2 (.mv (KI 0)),
      i_ 3 (.mv (KS []))])
    (.seq
     (.seq
      (.ops [i_ 4 (.mv (T 0))])
      (.block 0
       (.seq
        (.ops [i_ 6 (.ib .eql (T 4) (KI 0)),
          i_ 5 (.mv (T 6))])
        (.cond (T 5)
         (.seq
          (.ops [i_ 2 (.mv (KI 200)),
            i_ 3 (.mv (KS []))])
          .ret)
         (.seq
          (.seq
           (.ops [i_ 8 (.ib .eql (T 4) (KI 3)),
             i_ 7 (.mv (T 8))])
           (.cond (T 7)
            .skip
            (.seq
             (.ops [i_ 9 (.ib .eql (T 4) (KI 4)),
               i_ 7 (.mv (T 9))])
             (.cond (T 7)
              .skip
              (.seq
               (.ops [i_ 10 (.ib .eql (T 4) (KI 6)),
                 i_ 7 (.mv (T 10))])
               (.cond (T 7)
                .skip
                (.seq
                 (.ops [i_ 11 (.ib .eql (T 4) (KI 21)),
                   i_ 7 (.mv (T 11))])
                 (.cond (T 7)
                  .skip
                  (.seq
                   (.ops [i_ 12 (.ib .eql (T 4) (KI 2)),
                     i_ 7 (.mv (T 12))])
                   (.cond (T 7)
                    .skip
                    (.ops [i_ 13 (.ib .eql (T 4) (KI 9)),
                      i_ 7 (.mv (T 13))])))))))))))
          (.cond (T 7)
           (.seq
            (.ops [i_ 2 (.mv (KI 400)),
              i_ 3 (.mv (KS [105, 110, 118, 97, 108, 105, 100, 95, 114, 101, 113, 117, 101, 115, 116]))])
            .ret)
           (.seq
            (.ops [i_ 15 (.ib .eql (T 4) (KI 18)),
              i_ 14 (.mv (T 15))])
            (.cond (T 14)
             (.seq
              (.ops [i_ 2 (.mv (KI 400)),
                i_ 3 (.mv (KS [105, 110, 118, 97, 108, 105, 100, 95, 103, 114, 97, 110, 116]))])
              .ret)
             (.seq
              (.ops [i_ 17 (.ib .eql (T 4) (KI 19)),
                i_ 16 (.mv (T 17))])
              (.cond (T 16)
               (.seq
                (.ops [i_ 2 (.mv (KI 400)),
                  i_ 3 (.mv (KS [105, 110, 118, 97, 108, 105, 100, 95, 115, 99, 111, 112, 101]))])
                .ret)
               (.seq
                (.seq
                 (.ops [i_ 19 (.ib .eql (T 4) (KI 14)),
                   i_ 18 (.mv (T 19))])
                 (.cond (T 18)
                  .skip
                  (.ops [i_ 20 (.ib .eql (T 4) (KI 15)),
                    i_ 18 (.mv (T 20))])))
                (.cond (T 18)
                 (.seq
                  (.ops [i_ 2 (.mv (KI 400)),
                    i_ 3 (.mv (KS [105, 110, 118, 97, 108, 105, 100, 95, 99, 111, 110, 102, 105, 103]))])
                  .ret)
                 (.seq
                  (.ops [i_ 22 (.ib .eql (T 4) (KI 12)),
                    i_ 21 (.mv (T 22))])
                  (.cond (T 21)
                   (.seq
                    (.ops [i_ 2 (.mv (KI 400)),
                      i_ 3 (.mv (KS [105, 110, 118, 97, 108, 105, 100, 95, 114, 101, 118, 105, 115, 105, 111, 110]))])
                    .ret)
                   (.seq
                    (.ops [i_ 24 (.ib .eql (T 4) (KI 17)),
                      i_ 23 (.mv (T 24))])
                    (.cond (T 23)
                     (.seq
                      (.ops [i_ 2 (.mv (KI 401)),
                        i_ 3 (.mv (KS [105, 110, 118, 97, 108, 105, 100, 95, 99, 108, 105, 101, 110, 116]))])
                      .ret)
                     (.seq
                      (.ops [i_ 26 (.ib .eql (T 4) (KI 20)),
                        i_ 25 (.mv (T 26))])
                      (.cond (T 25)
                       (.seq
                        (.ops [i_ 2 (.mv (KI 403)),
                          i_ 3 (.mv (KS [97, 99, 99, 101, 115, 115, 95, 100, 101, 110, 105, 101, 100]))])
                        .ret)
                       .skip))))))))))))))))))
     (.seq
      (.ops [i_ 27 (.mv (T 0)),
        i_ 28 (.call 75 [(T 27)]),
        i_ 29 (.ext (T 28) 0),
        i_ 30 (.ext (T 28) 1),
        i_ 2 (.mv (T 29)),
        i_ 3 (.mv (T 30))])
      .ret)))
def m37 : MF := ⟨31, [(.tmp 2), (.tmp 3)], c37⟩
theorem r37 : resF Tryd.prog Tryd.f37 = some m37 := by kernel_rfl
theorem k37 : Callable Tryd.prog 37 := ⟨_, Tryd.func37, by kernel_rfl, by kernel_rfl⟩

def c75 : MC :=
   (.seq
    (.ops [i_ 2 (.mv (KI 0)),
      i_ 3 (.mv (KS []))])
    (.seq
     (.seq
      (.ops [i_ 4 (.mv (T 0))])
      (.block 0
       (.seq
        (.seq
         (.ops [i_ 6 (.ib .eql (T 4) (KI 24)),
           i_ 5 (.mv (T 6))])
         (.cond (T 5)
          .skip
          (.ops [i_ 7 (.ib .eql (T 4) (KI 11)),
            i_ 5 (.mv (T 7))])))
        (.cond (T 5)
         (.seq
          (.ops [i_ 2 (.mv (KI 404)),
            i_ 3 (.mv (KS [110, 111, 116, 95, 102, 111, 117, 110, 100]))])
          .ret)
         (.seq
          (.ops [i_ 9 (.ib .eql (T 4) (KI 23)),
            i_ 8 (.mv (T 9))])
          (.cond (T 8)
           (.seq
            (.ops [i_ 2 (.mv (KI 405)),
              i_ 3 (.mv (KS [109, 101, 116, 104, 111, 100, 95, 110, 111, 116, 95, 97, 108, 108, 111, 119, 101, 100]))])
            .ret)
           (.seq
            (.ops [i_ 11 (.ib .eql (T 4) (KI 10)),
              i_ 10 (.mv (T 11))])
            (.cond (T 10)
             (.seq
              (.ops [i_ 2 (.mv (KI 409)),
                i_ 3 (.mv (KS [99, 111, 110, 102, 108, 105, 99, 116]))])
              .ret)
             (.seq
              (.ops [i_ 13 (.ib .eql (T 4) (KI 13)),
                i_ 12 (.mv (T 13))])
              (.cond (T 12)
               (.seq
                (.ops [i_ 2 (.mv (KI 412)),
                  i_ 3 (.mv (KS [112, 114, 101, 99, 111, 110, 100, 105, 116, 105, 111, 110, 95, 102, 97, 105, 108, 101, 100]))])
                .ret)
               (.seq
                (.seq
                 (.ops [i_ 15 (.ib .eql (T 4) (KI 5)),
                   i_ 14 (.mv (T 15))])
                 (.cond (T 14)
                  .skip
                  (.ops [i_ 16 (.ib .eql (T 4) (KI 25)),
                    i_ 14 (.mv (T 16))])))
                (.cond (T 14)
                 (.seq
                  (.ops [i_ 2 (.mv (KI 413)),
                    i_ 3 (.mv (KS [116, 111, 111, 95, 108, 97, 114, 103, 101]))])
                  .ret)
                 (.seq
                  (.ops [i_ 18 (.ib .eql (T 4) (KI 16)),
                    i_ 17 (.mv (T 18))])
                  (.cond (T 17)
                   (.seq
                    (.ops [i_ 2 (.mv (KI 503)),
                      i_ 3 (.mv (KS [116, 101, 109, 112, 111, 114, 97, 114, 105, 108, 121, 95, 117, 110, 97, 118, 97, 105, 108, 97, 98, 108, 101]))])
                    .ret)
                   (.seq
                    (.ops [i_ 20 (.ib .eql (T 4) (KI 8)),
                      i_ 19 (.mv (T 20))])
                    (.cond (T 19)
                     (.seq
                      (.ops [i_ 2 (.mv (KI 507)),
                        i_ 3 (.mv (KS [105, 110, 115, 117, 102, 102, 105, 99, 105, 101, 110, 116, 95, 115, 116, 111, 114, 97, 103, 101]))])
                      .ret)
                     .skip))))))))))))))))
     (.seq
      (.ops [i_ 2 (.mv (KI 500)),
        i_ 3 (.mv (KS [115, 101, 114, 118, 101, 114, 95, 101, 114, 114, 111, 114]))])
      .ret)))
def m75 : MF := ⟨21, [(.tmp 2), (.tmp 3)], c75⟩
theorem r75 : resF Tryd.prog Tryd.f75 = some m75 := by kernel_rfl
theorem k75 : Callable Tryd.prog 75 := ⟨_, Tryd.func75, by kernel_rfl, by kernel_rfl⟩

def c7 : MC :=
   (.seq
    (.ops [i_ 1 (.box 47 (T 0)),
      i_ 2 (.mv (KB false))])
    (.seq
     (.dops <|
       .op 0 (i_ 4 (.faddr 1 (T 1))) <|
       .op 1 (i_ 5 (.ld1 (T 4))) <|
       .op 3 (i_ 7 (.faddr 2 (T 1))) <|
       .op 4 (i_ 8 (.ld1 (T 7))) <|
       .op 2 (id_ 6 (.call 26 [(T 5), (KI 6), (KI 40)]) [1]) <|
       .op 6 (i_ 10 (.faddr 1 (T 1))) <|
       .op 5 (id_ 9 (.call 14 [(T 8), (KI 200)]) [1, 4]) <|
       .op 7 (nd_ (.st 1 (T 10) (T 6)) [1, 4]) <|
       .op 8 (i_ 11 (.faddr 2 (T 1))) <|
       .op 9 (nd_ (.st 1 (T 11) (T 9)) [1, 4]) <|
       .nil)
     (.seq
      (.dops <|
        .op 0 (i_ 12 (.faddr 0 (T 1))) <|
        .op 1 (i_ 13 (.ld1 (T 12))) <|
        .op 2 (i_ 14 (.faddr 1 (T 1))) <|
        .op 3 (i_ 15 (.ld1 (T 14))) <|
        .op 5 (i_ 17 (.faddr 2 (T 1))) <|
        .op 6 (i_ 18 (.ld1 (T 17))) <|
        .both
         (.op 4 (id_ 16 (.call 26 [(T 15), (KI 6), (KI 40)]) [3]) <|
          .op 7 (i_ 19 (.build [(.int .i64 0), (.slice none 0 0), (.string ⟨⟨[]⟩⟩)] [(0, (1, (T 13))), (1, (1, (T 16))), (2, (1, (T 18)))])) <|
          .op 8 (i_ 3 (.alloc 49 [(.int .i64 0), (.slice none 0 0), (.string ⟨⟨[]⟩⟩)])) <|
          .op 9 (nd_ (.st 3 (T 3) (T 19)) [1, 3, 6]) <|
          .nil)
         (.op 8 (i_ 3 (.alloc 49 [(.int .i64 0), (.slice none 0 0), (.string ⟨⟨[]⟩⟩)])) <|
          .op 4 (id_ 16 (.call 26 [(T 15), (KI 6), (KI 40)]) [3]) <|
          .op 7 (i_ 19 (.build [(.int .i64 0), (.slice none 0 0), (.string ⟨⟨[]⟩⟩)] [(0, (1, (T 13))), (1, (1, (T 16))), (2, (1, (T 18)))])) <|
          .op 9 (nd_ (.st 3 (T 3) (T 19)) [1, 3, 6]) <|
          .nil))
      (.seq
       (.dops <|
         .op 0 (i_ 20 (.ldN 3 (T 3))) <|
         .op 2 (i_ 22 (.ldN 3 (T 1))) <|
         .op 1 (id_ 21 (.call 28 [(T 20)]) [0]) <|
         .op 3 (id_ 23 (.call 29 [(T 22)]) [0, 2]) <|
         .op 4 (id_ 24 (.call 27 [(T 21), (T 23)]) [2, 0]) <|
         .op 5 (i_ 25 (.mv (T 24))) <|
         .op 6 (ig 26 25 true (.ldN 3 (T 3))) <|
         .op 8 (ig 28 25 true (.ldN 3 (T 1))) <|
         .op 7 (igd 27 25 true (.call 31 [(T 26)]) [0, 2, 6]) <|
         .op 9 (igd 29 25 true (.call 30 [(T 27), (T 28)]) [8, 6, 2, 0]) <|
         .op 10 (i_ 30 (.pick (T 25) (T 29) (KB false))) <|
         .op 11 (i_ 31 (.mv (T 30))) <|
         .op 12 (igd 32 31 true (.call 32 []) [6, 8, 2, 0]) <|
         .op 13 (i_ 33 (.pick (T 31) (T 32) (KB false))) <|
         .op 14 (i_ 2 (.mv (T 33))) <|
         .nil)
       .ret))))
def m7 : MF := ⟨34, [(.tmp 2)], c7⟩
theorem r7 : resF Tryd.prog Tryd.f7 = some m7 := by kernel_rfl
theorem k7 : Callable Tryd.prog 7 := ⟨_, Tryd.func7, by kernel_rfl, by kernel_rfl⟩

end Go.Proofs.YtkhgmmejgikgnaaDoor
