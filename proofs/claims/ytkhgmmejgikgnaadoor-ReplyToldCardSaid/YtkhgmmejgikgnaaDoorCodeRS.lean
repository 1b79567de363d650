/- Functions of the program, resolved: made by a program of ours; each is checked by the kernel. -/
import Derived.Test.YtkhgmmejgikgnaaDoorPB
namespace Go.Proofs.YtkhgmmejgikgnaaDoor
def c27 : MC :=
   (.seq
    (.ops [i_ 4 (.mv (KB false))])
    (.seq
     (.seq
      (.ops [i_ 6 (.mv (T 0)),
        i_ 7 (.lenV (T 6)),
        i_ 8 (.mv (T 1)),
        i_ 9 (.lenV (T 8)),
        i_ 10 (.ib .neq (T 7) (T 9))])
      (.cond (T 10)
       (.seq
        (.ops [i_ 4 (.mv (KB false))])
        .ret)
       .skip))
     (.seq
      (.seq
       (.ops [i_ 5 (.mv (KI 0))])
       (.block 0
        (.loop [(11, 17), (17, 26), (4, 6)]
         (.seq
          (.seq
           (.ops [i_ 11 (.mv (T 5)),
             i_ 12 (.mv (T 0)),
             i_ 13 (.lenV (T 12)),
             i_ 14 (.ib .lss (T 11) (T 13))])
           (.cond (T 14)
            .skip
            (.exit 0)))
          (.seq
           (.block 1
            (.seq
             (.dops <|
               .op 0 (i_ 17 (.mv (T 0))) <|
               .op 1 (i_ 18 (.mv (T 5))) <|
               .op 2 (i_ 19 (.iaddr 1 (T 17) (T 18))) <|
               .op 3 (i_ 20 (.ld1 (T 19))) <|
               .op 4 (i_ 21 (.mv (T 1))) <|
               .op 5 (i_ 22 (.mv (T 5))) <|
               .op 6 (i_ 23 (.iaddr 1 (T 21) (T 22))) <|
               .op 7 (i_ 24 (.ld1 (T 23))) <|
               .op 8 (i_ 25 (.ib .neq (T 20) (T 24))) <|
               .nil)
             (.cond (T 25)
              (.seq
               (.ops [i_ 4 (.mv (KB false))])
               .ret)
              .skip)))
           (.ops [i_ 15 (.mv (T 5)),
             i_ 16 (.ib .add (T 15) (KI 1)),
             i_ 5 (.mv (T 16))]))))))
      (.seq
       (.ops [i_ 4 (.mv (KB true))])
       .ret))))
def m27 : MF := ⟨26, [(.tmp 4)], c27⟩
theorem r27 : resF Tryd.prog Tryd.f27 = some m27 := by kernel_rfl
theorem k27 : Callable Tryd.prog 27 := ⟨_, Tryd.func27, by kernel_rfl, by kernel_rfl⟩

def c38 : MC :=
   (.seq
    (.ops [i_ 2 (.mv (KI 0)),
      i_ 3 (.mv (KS []))])
    (.seq
     (.ops [i_ 6 (.bslice 9 [(.string ⟨⟨[]⟩⟩)] 26 1 [(0, (1, (KS []))), (1, (1, (KS [115, 101, 114, 118, 101, 114, 95, 101, 114, 114, 111, 114]))), (2, (1, (KS [105, 110, 118, 97, 108, 105, 100, 95, 114, 101, 113, 117, 101, 115, 116]))), (3, (1, (KS [105, 110, 118, 97, 108, 105, 100, 95, 114, 101, 113, 117, 101, 115, 116]))), (4, (1, (KS [105, 110, 118, 97, 108, 105, 100, 95, 114, 101, 113, 117, 101, 115, 116]))), (5, (1, (KS [116, 111, 111, 95, 108, 97, 114, 103, 101]))), (6, (1, (KS [105, 110, 118, 97, 108, 105, 100, 95, 114, 101, 113, 117, 101, 115, 116]))), (7, (1, (KS [115, 101, 114, 118, 101, 114, 95, 101, 114, 114, 111, 114]))), (8, (1, (KS [105, 110, 115, 117, 102, 102, 105, 99, 105, 101, 110, 116, 95, 115, 116, 111, 114, 97, 103, 101]))), (9, (1, (KS [105, 110, 118, 97, 108, 105, 100, 95, 114, 101, 113, 117, 101, 115, 116]))), (10, (1, (KS [99, 111, 110, 102, 108, 105, 99, 116]))), (11, (1, (KS [110, 111, 116, 95, 102, 111, 117, 110, 100]))), (12, (1, (KS [105, 110, 118, 97, 108, 105, 100, 95, 114, 101, 118, 105, 115, 105, 111, 110]))), (13, (1, (KS [112, 114, 101, 99, 111, 110, 100, 105, 116, 105, 111, 110, 95, 102, 97, 105, 108, 101, 100]))), (14, (1, (KS [105, 110, 118, 97, 108, 105, 100, 95, 99, 111, 110, 102, 105, 103]))), (15, (1, (KS [105, 110, 118, 97, 108, 105, 100, 95, 99, 111, 110, 102, 105, 103]))), (16, (1, (KS [116, 101, 109, 112, 111, 114, 97, 114, 105, 108, 121, 95, 117, 110, 97, 118, 97, 105, 108, 97, 98, 108, 101]))), (17, (1, (KS [105, 110, 118, 97, 108, 105, 100, 95, 99, 108, 105, 101, 110, 116]))), (18, (1, (KS [105, 110, 118, 97, 108, 105, 100, 95, 103, 114, 97, 110, 116]))), (19, (1, (KS [105, 110, 118, 97, 108, 105, 100, 95, 115, 99, 111, 112, 101]))), (20, (1, (KS [97, 99, 99, 101, 115, 115, 95, 100, 101, 110, 105, 101, 100]))), (21, (1, (KS [105, 110, 118, 97, 108, 105, 100, 95, 114, 101, 113, 117, 101, 115, 116]))), (22, (1, (KS [115, 101, 114, 118, 101, 114, 95, 101, 114, 114, 111, 114]))), (23, (1, (KS [109, 101, 116, 104, 111, 100, 95, 110, 111, 116, 95, 97, 108, 108, 111, 119, 101, 100]))), (24, (1, (KS [110, 111, 116, 95, 102, 111, 117, 110, 100]))), (25, (1, (KS [116, 111, 111, 95, 108, 97, 114, 103, 101])))]),
       i_ 4 (.mv (T 6))])
     (.seq
      (.ops [i_ 7 (.bslice 3 [(.int .i64 0)] 26 1 [(0, (1, (KI 200))), (1, (1, (KI 500))), (2, (1, (KI 400))), (3, (1, (KI 400))), (4, (1, (KI 400))), (5, (1, (KI 413))), (6, (1, (KI 400))), (7, (1, (KI 500))), (8, (1, (KI 507))), (9, (1, (KI 400))), (10, (1, (KI 409))), (11, (1, (KI 404))), (12, (1, (KI 400))), (13, (1, (KI 412))), (14, (1, (KI 400))), (15, (1, (KI 400))), (16, (1, (KI 503))), (17, (1, (KI 401))), (18, (1, (KI 400))), (19, (1, (KI 400))), (20, (1, (KI 403))), (21, (1, (KI 400))), (22, (1, (KI 500))), (23, (1, (KI 405))), (24, (1, (KI 404))), (25, (1, (KI 413)))]),
        i_ 5 (.mv (T 7))])
      (.seq
       (.seq
        (.ops [i_ 8 (.mv (T 0)),
          i_ 9 (.ib .lss (T 8) (KI 0)),
          i_ 10 (.mv (T 9)),
          ig 11 10 false (.mv (T 0)),
          ig 12 10 false (.ib .gtr (T 11) (KI 25)),
          i_ 13 (.pick (T 10) (KB true) (T 12))])
        (.cond (T 13)
         (.seq
          (.ops [i_ 2 (.mv (KI 500)),
            i_ 3 (.mv (KS [115, 101, 114, 118, 101, 114, 95, 101, 114, 114, 111, 114]))])
          .ret)
         .skip))
       (.seq
        (.dops <|
          .op 0 (i_ 14 (.mv (T 5))) <|
          .op 1 (i_ 15 (.mv (T 0))) <|
          .op 2 (i_ 16 (.iaddr 1 (T 14) (T 15))) <|
          .op 3 (i_ 17 (.ld1 (T 16))) <|
          .op 4 (i_ 18 (.mv (T 4))) <|
          .op 5 (i_ 19 (.mv (T 0))) <|
          .op 6 (i_ 20 (.iaddr 1 (T 18) (T 19))) <|
          .op 7 (i_ 21 (.ld1 (T 20))) <|
          .op 8 (i_ 2 (.mv (T 17))) <|
          .op 9 (i_ 3 (.mv (T 21))) <|
          .nil)
        .ret)))))
def m38 : MF := ⟨22, [(.tmp 2), (.tmp 3)], c38⟩
theorem r38 : resF Tryd.prog Tryd.f38 = some m38 := by kernel_rfl
theorem k38 : Callable Tryd.prog 38 := ⟨_, Tryd.func38, by kernel_rfl, by kernel_rfl⟩

def c39 : MC :=
   (.seq
    (.ops [i_ 4 (.alloc 49 [(.int .i64 0), (.slice none 0 0), (.string ⟨⟨[]⟩⟩)])])
    (.seq
     (.ops [i_ 9 (.mv (T 0)),
       i_ 10 (.call 37 [(T 9)]),
       i_ 8 (.mv (T 10)),
       i_ 11 (.ext (T 8) 0),
       i_ 12 (.ext (T 8) 1),
       i_ 5 (.mv (T 11)),
       i_ 6 (.mv (T 12))])
     (.seq
      (.ops [i_ 13 (.mv (T 5)),
        i_ 14 (.bslice 9 [(.string ⟨⟨[]⟩⟩)] 1 1 [(0, (1, (KS [101, 114, 114, 111, 114])))]),
        i_ 15 (.mv (T 6)),
        i_ 16 (.build [(.int .i64 0), (.bool false), (.int .i64 0), (.string ⟨⟨[]⟩⟩), (.slice none 0 0), (.slice none 0 0)] [(0, (1, (KI 3))), (3, (1, (T 15)))]),
        i_ 17 (.bslice 77 [(.int .i64 0), (.bool false), (.int .i64 0), (.string ⟨⟨[]⟩⟩), (.slice none 0 0), (.slice none 0 0)] 1 6 [(0, (6, (T 16)))]),
        i_ 18 (.build [(.int .i64 0), (.bool false), (.int .i64 0), (.string ⟨⟨[]⟩⟩), (.slice none 0 0), (.slice none 0 0)] [(0, (1, (KI 5))), (5, (1, (T 14))), (4, (1, (T 17)))]),
        i_ 19 (.call 76 [(T 13), (T 18)]),
        i_ 7 (.alloc 49 [(.int .i64 0), (.slice none 0 0), (.string ⟨⟨[]⟩⟩)]),
        n_ (.st 3 (T 7) (T 19))])
      (.seq
       (.seq
        (.ops [i_ 20 (.mv (T 5)),
          i_ 21 (.ib .eql (T 20) (KI 401))])
        (.cond (T 21)
         (.ops [i_ 22 (.faddr 1 (T 7)),
           i_ 23 (.ld1 (T 22)),
           i_ 24 (.build [(.string ⟨⟨[]⟩⟩), (.string ⟨⟨[]⟩⟩)] [(0, (1, (KS [119, 119, 119, 45, 97, 117, 116, 104, 101, 110, 116, 105, 99, 97, 116, 101]))), (1, (1, (KS [66, 97, 115, 105, 99])))]),
           i_ 25 (.bslice 71 [(.string ⟨⟨[]⟩⟩), (.string ⟨⟨[]⟩⟩)] 1 2 [(0, (2, (T 24)))]),
           i_ 26 (.append 71 2 32 (T 23) (T 25)),
           i_ 27 (.faddr 1 (T 7)),
           n_ (.st 1 (T 27) (T 26))])
         .skip))
       (.seq
        (.ops [i_ 28 (.faddr 1 (T 7)),
          i_ 29 (.ld1 (T 28)),
          i_ 30 (.mv (T 1)),
          i_ 31 (.bslice 23 [(.slice none 0 0)] 2 1 [(0, (1, (T 29))), (1, (1, (T 30)))]),
          i_ 32 (.call 71 [(T 31)]),
          i_ 33 (.faddr 1 (T 7)),
          n_ (.st 1 (T 33) (T 32))])
        (.seq
         (.ops [i_ 34 (.ldN 3 (T 7)),
           n_ (.st 3 (T 4) (T 34))])
         .ret))))))
def m39 : MF := ⟨35, [(.cell 4 3)], c39⟩
theorem r39 : resF Tryd.prog Tryd.f39 = some m39 := by kernel_rfl
theorem k39 : Callable Tryd.prog 39 := ⟨_, Tryd.func39, by kernel_rfl, by kernel_rfl⟩

def c40 : MC :=
   (.seq
    (.ops [i_ 4 (.alloc 47 [(.int .i64 0), (.slice none 0 0), (.string ⟨⟨[]⟩⟩)])])
    (.seq
     (.ops [i_ 12 (.mv (T 0)),
       i_ 13 (.call 38 [(T 12)]),
       i_ 11 (.mv (T 13)),
       i_ 14 (.ext (T 11) 0),
       i_ 15 (.ext (T 11) 1),
       i_ 5 (.mv (T 14)),
       i_ 6 (.mv (T 15))])
     (.seq
      (.ops [i_ 16 (.mv (T 5)),
        i_ 17 (.build [(.string ⟨⟨[]⟩⟩), (.string ⟨⟨[]⟩⟩)] [(0, (1, (KS [99, 111, 110, 116, 101, 110, 116, 45, 116, 121, 112, 101]))), (1, (1, (KS [97, 112, 112, 108, 105, 99, 97, 116, 105, 111, 110, 47, 106, 115, 111, 110])))]),
        i_ 18 (.bslice 71 [(.string ⟨⟨[]⟩⟩), (.string ⟨⟨[]⟩⟩)] 1 2 [(0, (2, (T 17)))]),
        i_ 19 (.mv (T 6)),
        i_ 20 (.sb .add (KS [123, 34, 101, 114, 114, 111, 114, 34, 58, 34]) (T 19)),
        i_ 21 (.sb .add (T 20) (KS [34, 125])),
        i_ 22 (.build [(.int .i64 0), (.slice none 0 0), (.string ⟨⟨[]⟩⟩)] [(0, (1, (T 16))), (1, (1, (T 18))), (2, (1, (T 21)))]),
        i_ 7 (.alloc 47 [(.int .i64 0), (.slice none 0 0), (.string ⟨⟨[]⟩⟩)]),
        n_ (.st 3 (T 7) (T 22))])
      (.seq
       (.seq
        (.ops [i_ 23 (.mv (T 5)),
          i_ 24 (.ib .eql (T 23) (KI 401))])
        (.cond (T 24)
         (.seq
          (.ops [i_ 25 (.faddr 1 (T 7)),
            i_ 26 (.ld1 (T 25)),
            i_ 8 (.mv (T 26))])
          (.ops [i_ 27 (.mv (T 8)),
            i_ 28 (.build [(.string ⟨⟨[]⟩⟩), (.string ⟨⟨[]⟩⟩)] [(0, (1, (KS [119, 119, 119, 45, 97, 117, 116, 104, 101, 110, 116, 105, 99, 97, 116, 101]))), (1, (1, (KS [66, 97, 115, 105, 99])))]),
            i_ 29 (.bslice 71 [(.string ⟨⟨[]⟩⟩), (.string ⟨⟨[]⟩⟩)] 1 2 [(0, (2, (T 28)))]),
            i_ 30 (.append 71 2 32 (T 27) (T 29)),
            i_ 31 (.faddr 1 (T 7)),
            n_ (.st 1 (T 31) (T 30))]))
         .skip))
       (.seq
        (.seq
         (.ops [i_ 9 (.mv (KI 0))])
         (.block 0
          (.loop [(32, 38), (38, 48), (10, 11), (9, 10)]
           (.seq
            (.seq
             (.ops [i_ 32 (.mv (T 9)),
               i_ 33 (.mv (T 1)),
               i_ 34 (.lenV (T 33)),
               i_ 35 (.ib .lss (T 32) (T 34))])
             (.cond (T 35)
              .skip
              (.exit 0)))
            (.seq
             (.block 1
              (.seq
               (.ops [i_ 38 (.faddr 1 (T 7)),
                 i_ 39 (.ld1 (T 38)),
                 i_ 10 (.mv (T 39))])
               (.ops [i_ 40 (.mv (T 10)),
                 i_ 41 (.mv (T 1)),
                 i_ 42 (.mv (T 9)),
                 i_ 43 (.iaddr 2 (T 41) (T 42)),
                 i_ 44 (.ldN 2 (T 43)),
                 i_ 45 (.bslice 71 [(.string ⟨⟨[]⟩⟩), (.string ⟨⟨[]⟩⟩)] 1 2 [(0, (2, (T 44)))]),
                 i_ 46 (.append 71 2 32 (T 40) (T 45)),
                 i_ 47 (.faddr 1 (T 7)),
                 n_ (.st 1 (T 47) (T 46))])))
             (.ops [i_ 36 (.mv (T 9)),
               i_ 37 (.ib .add (T 36) (KI 1)),
               i_ 9 (.mv (T 37))]))))))
        (.seq
         (.ops [i_ 48 (.ldN 3 (T 7)),
           n_ (.st 3 (T 4) (T 48))])
         .ret))))))
def m40 : MF := ⟨49, [(.cell 4 3)], c40⟩
theorem r40 : resF Tryd.prog Tryd.f40 = some m40 := by kernel_rfl
theorem k40 : Callable Tryd.prog 40 := ⟨_, Tryd.func40, by kernel_rfl, by kernel_rfl⟩

def c10 : MC :=
   (.seq
    (.ops [i_ 4 (.mv (KB false))])
    (.seq
     (.ops [i_ 10 (.mv (T 1)),
       i_ 11 (.call 26 [(T 10), (KI 4), (KI 20)]),
       i_ 1 (.mv (T 11))])
     (.seq
      (.ops [i_ 13 (.mv (T 0)),
        i_ 14 (.call 37 [(T 13)]),
        i_ 12 (.mv (T 14)),
        i_ 15 (.ext (T 12) 0),
        i_ 16 (.ext (T 12) 1),
        i_ 5 (.mv (T 15)),
        i_ 6 (.mv (T 16))])
      (.seq
       (.ops [i_ 18 (.mv (T 0)),
         i_ 19 (.call 38 [(T 18)]),
         i_ 17 (.mv (T 19)),
         i_ 20 (.ext (T 17) 0),
         i_ 21 (.ext (T 17) 1),
         i_ 7 (.mv (T 20)),
         i_ 8 (.mv (T 21))])
       (.seq
        (.seq
         (.ops [i_ 22 (.mv (T 5)),
           i_ 23 (.mv (T 7)),
           i_ 24 (.ib .neq (T 22) (T 23)),
           i_ 25 (.mv (T 24)),
           ig 26 25 false (.mv (T 6)),
           ig 27 25 false (.mv (T 8)),
           ig 28 25 false (.sb .neq (T 26) (T 27)),
           i_ 29 (.pick (T 25) (KB true) (T 28)),
           i_ 30 (.mv (T 29)),
           ig 31 30 false (.mv (T 0)),
           ig 32 30 false (.ib .neq (T 31) (KI 0)),
           ig 33 30 false (.mv (T 32)),
           ig 34 33 true (.mv (T 5)),
           ig 35 33 true (.ib .lss (T 34) (KI 400)),
           ig 36 33 true (.mv (T 35)),
           ig 37 36 false (.mv (T 6)),
           ig 38 36 false (.sb .eql (T 37) (KS [])),
           ig 39 33 true (.pick (T 36) (KB true) (T 38)),
           ig 40 30 false (.pick (T 33) (T 39) (KB false)),
           i_ 41 (.pick (T 30) (KB true) (T 40))])
         (.cond (T 41)
          (.seq
           (.ops [i_ 4 (.mv (KB false))])
           .ret)
          .skip))
        (.seq
         (.ops [i_ 42 (.mv (T 1)),
           i_ 43 (.call 26 [(T 42), (KI 4), (KI 20)]),
           i_ 9 (.mv (T 43))])
         (.seq
          (.ops [i_ 44 (.mv (T 0)),
            i_ 45 (.mv (T 9)),
            i_ 46 (.call 39 [(T 44), (T 45)]),
            i_ 47 (.call 31 [(T 46)]),
            i_ 48 (.mv (T 0)),
            i_ 49 (.mv (T 1)),
            i_ 50 (.call 40 [(T 48), (T 49)]),
            i_ 51 (.call 30 [(T 47), (T 50)]),
            i_ 52 (.mv (T 51)),
            ig 53 52 true (.mv (T 9)),
            ig 54 52 true (.mv (T 1)),
            ig 55 52 true (.call 17 [(T 53), (T 54)]),
            i_ 56 (.pick (T 52) (T 55) (KB false)),
            i_ 57 (.mv (T 56)),
            ig 58 57 true (.call 32 []),
            i_ 59 (.pick (T 57) (T 58) (KB false)),
            i_ 4 (.mv (T 59))])
          .ret)))))))
def m10 : MF := ⟨60, [(.tmp 4)], c10⟩
theorem r10 : resF Tryd.prog Tryd.f10 = some m10 := by kernel_rfl
theorem k10 : Callable Tryd.prog 10 := ⟨_, Tryd.func10, by kernel_rfl, by kernel_rfl⟩

def c76 : MC :=
   (.seq
    (.ops [i_ 3 (.box 77 (T 1)),
      i_ 4 (.alloc 49 [(.int .i64 0), (.slice none 0 0), (.string ⟨⟨[]⟩⟩)])])
    (.seq
     (.ops [i_ 8 (.ldN 6 (T 3)),
       i_ 9 (.call 50 [(T 8)]),
       i_ 7 (.mv (T 9)),
       i_ 10 (.ext (T 7) 0),
       i_ 11 (.ext (T 7) 1),
       i_ 5 (.mv (T 10)),
       i_ 6 (.mv (T 11))])
     (.seq
      (.seq
       (.ops [i_ 12 (.mv (T 6)),
         i_ 13 (.ib .neq (T 12) (KI 0))])
       (.cond (T 13)
        (.ops [i_ 15 (.build [(.int .i64 0), (.bool false), (.int .i64 0), (.string ⟨⟨[]⟩⟩), (.slice none 0 0), (.slice none 0 0)] []),
          i_ 16 (.call 50 [(T 15)]),
          i_ 14 (.mv (T 16)),
          i_ 17 (.ext (T 14) 0),
          i_ 18 (.ext (T 14) 1),
          i_ 5 (.mv (T 17))])
        .skip))
      (.seq
       (.ops [i_ 19 (.mv (T 0)),
         i_ 20 (.build [(.string ⟨⟨[]⟩⟩), (.string ⟨⟨[]⟩⟩)] [(0, (1, (KS [99, 111, 110, 116, 101, 110, 116, 45, 116, 121, 112, 101]))), (1, (1, (KS [97, 112, 112, 108, 105, 99, 97, 116, 105, 111, 110, 47, 106, 115, 111, 110])))]),
         i_ 21 (.bslice 71 [(.string ⟨⟨[]⟩⟩), (.string ⟨⟨[]⟩⟩)] 1 2 [(0, (2, (T 20)))]),
         i_ 22 (.mv (T 5)),
         i_ 23 (.build [(.int .i64 0), (.slice none 0 0), (.string ⟨⟨[]⟩⟩)] [(0, (1, (T 19))), (1, (1, (T 21))), (2, (1, (T 22)))]),
         n_ (.st 3 (T 4) (T 23))])
       .ret))))
def m76 : MF := ⟨24, [(.cell 4 3)], c76⟩
theorem r76 : resF Tryd.prog Tryd.f76 = some m76 := by kernel_rfl
theorem k76 : Callable Tryd.prog 76 := ⟨_, Tryd.func76, by kernel_rfl, by kernel_rfl⟩

end Go.Proofs.YtkhgmmejgikgnaaDoor
