import Derived.Test.YtkadcajmlkmhjabGreatDqTPa
namespace Go.Dp
open Go.RowKit Go.Proofs
set_option maxRecDepth 100000
/-- (dauber/share.Group).secrets -/
def c66 : C :=
 .seq
  (.reg false [⟨0, (some 2), .box 3 (.t 0), 0, none⟩, ⟨1, (some 4), .mv (.c (.bool false)), 0, none⟩] [1, 2])
  (.seq
   (.reg false [⟨0, (some 5), .faddr 1 (.t 2), 0, none⟩, ⟨1, (some 6), .load none (.t 5), 0, none⟩, ⟨2, (some 7), .bin .sub (.t 6) (.c (.int .i64 (1))), 0, none⟩, ⟨3, (some 8), .mv (.t 1), 0, none⟩, ⟨4, (some 9), .call 65 [.c (.int .i64 (0)), .t 7, .t 8], 2, none⟩, ⟨5, (some 4), .mv (.t 9), 0, none⟩] [4])
   (.ret))

theorem ok66 : okF Tryz.prog 66 2 c66 [.tmp 4] = true := by kernel_rfl

/-- (dauber/share.Group).above -/
def c67 : C :=
 .seq
  (.reg false [⟨0, (some 1), .box 3 (.t 0), 0, none⟩, ⟨1, (some 2), .mv (.c (.int .i64 (0))), 0, none⟩] [1])
  (.seq
   (.reg false [⟨0, (some 3), .faddr 0 (.t 1), 0, none⟩, ⟨1, (some 4), .load none (.t 3), 0, none⟩, ⟨2, (some 2), .mv (.t 4), 0, none⟩] [2])
   (.ret))

theorem ok67 : okF Tryz.prog 67 1 c67 [.tmp 2] = true := by kernel_rfl

/-- (dauber/share.modulus).power -/
def c68 : C :=
 .seq
  (.reg false [⟨0, (some 3), .box 1 (.t 0), 0, none⟩, ⟨1, (some 6), .mv (.c (.int .i64 (0))), 0, none⟩] [1, 2, 3])
  (.seq
   (.reg false [⟨0, (some 7), .alloc [.nilf] 1, 0, none⟩, ⟨1, none, .store 1 (.t 7) (.c (.clo (.func 49) [] [])), 0, none⟩] [1, 2, 3, 7])
   (.seq
    (.reg false [⟨0, (some 8), .mkfn (.func 97) [] [.t 7, .t 3], 0, none⟩, ⟨1, (some 9), .mv (.t 1), 0, none⟩, ⟨2, (some 10), .load none (.t 3), 0, none⟩, ⟨3, (some 11), .bin .rem (.t 9) (.t 10), 0, none⟩, ⟨4, (some 12), .mv (.t 2), 0, none⟩, ⟨5, (some 13), .call 96 [.t 8, .c (.int .i64 (1)), .t 11, .t 12], 2, none⟩, ⟨6, (some 6), .mv (.t 13), 0, none⟩] [6])
    (.ret)))

theorem ok68 : okF Tryz.prog 68 3 c68 [.tmp 6] = true := by kernel_rfl

/-- dauber/dauberref08.Fit -/
def c69 : C :=
 .seq
  (.reg false [⟨0, (some 4), .box 3 (.t 0), 0, none⟩, ⟨1, (some 8), .mv (.c (.bool false)), 0, none⟩] [1, 2, 3, 4])
  (.seq
   (.seq
    (.reg false [⟨0, (some 12), .mv (.t 1), 0, none⟩, ⟨1, (some 13), .len none (.t 12), 0, none⟩, ⟨2, (some 14), .bin .lss (.t 13) (.c (.int .i64 (1))), 0, none⟩, ⟨3, (some 15), .mv (.t 14), 0, none⟩, ⟨4, (some 16), .mv (.t 1), 0, (some (15, false))⟩, ⟨5, (some 17), .len none (.t 16), 0, (some (15, false))⟩, ⟨6, (some 18), .bin .gtr (.t 17) (.c (.int .i64 (16))), 0, (some (15, false))⟩, ⟨7, (some 19), .pick (.t 15) (.c (.bool true)) (.t 18), 0, none⟩, ⟨8, (some 20), .mv (.t 19), 0, none⟩, ⟨9, (some 21), .mv (.t 2), 0, (some (20, false))⟩, ⟨10, (some 22), .bin .lss (.t 21) (.c (.int .i64 (1))), 0, (some (20, false))⟩, ⟨11, (some 23), .pick (.t 20) (.c (.bool true)) (.t 22), 0, none⟩, ⟨12, (some 24), .mv (.t 23), 0, none⟩, ⟨13, (some 25), .mv (.t 2), 0, (some (24, false))⟩, ⟨14, (some 26), .bin .gtr (.t 25) (.c (.int .i64 (64))), 0, (some (24, false))⟩, ⟨15, (some 27), .pick (.t 24) (.c (.bool true)) (.t 26), 0, none⟩, ⟨16, (some 28), .mv (.t 27), 0, none⟩, ⟨17, (some 29), .mv (.t 2), 0, (some (28, false))⟩, ⟨18, (some 30), .faddr 1 (.t 4), 0, (some (28, false))⟩, ⟨19, (some 31), .load none (.t 30), 0, (some (28, false))⟩, ⟨20, (some 32), .bin .geq (.t 29) (.t 31), 0, (some (28, false))⟩, ⟨21, (some 33), .pick (.t 28) (.c (.bool true)) (.t 32), 0, none⟩, ⟨22, (some 34), .mv (.t 33), 0, none⟩, ⟨23, (some 35), .load (some 3) (.t 4), 0, (some (34, false))⟩, ⟨24, (some 36), .mv (.t 3), 0, (some (34, false))⟩, ⟨25, (some 37), .call 29 [.t 35, .t 36], 2, (some (34, false))⟩, ⟨26, (some 38), .un .not (.t 37), 0, (some (34, false))⟩, ⟨27, (some 39), .pick (.t 34) (.c (.bool true)) (.t 38), 0, none⟩] [1, 2, 3, 4, 39])
    (.cond (.t 39)
     (.seq
      (.reg false [⟨0, (some 8), .mv (.c (.bool false)), 0, none⟩] [8])
      (.ret))
     (.skip)))
   (.seq
    (.reg false [⟨0, (some 9), .mv (.c (.int .i64 (1))), 0, none⟩, ⟨1, (some 10), .mv (.c (.int .i64 (1))), 0, none⟩] [1, 2, 3, 4, 9, 10])
    (.seq
     (.seq
      (.reg false [⟨0, (some 11), .mv (.c (.int .i64 (0))), 0, none⟩] [1, 2, 3, 4, 9, 10, 11])
      (.blk 0
       (.loop [1, 2, 3, 4, 9, 10, 11]
        (.seq
         (.seq
          (.reg false [⟨0, (some 40), .mv (.t 11), 0, none⟩, ⟨1, (some 41), .mv (.t 1), 0, none⟩, ⟨2, (some 42), .len none (.t 41), 0, none⟩, ⟨3, (some 43), .bin .lss (.t 40) (.t 42), 0, none⟩] [1, 2, 3, 4, 9, 10, 11, 43])
          (.cond (.t 43)
           (.skip)
           (.exit 0)))
         (.seq
          (.blk 1
           (.seq
            (.seq
             (.reg true [⟨1, (some 47), .mv (.t 1), 0, none⟩, ⟨2, (some 48), .mv (.t 11), 0, none⟩, ⟨3, (some 49), .iaddr none 1 (.t 47) (.t 48), 0, none⟩, ⟨0, (some 46), .load (some 3) (.t 4), 0, none⟩, ⟨4, (some 50), .load none (.t 49), 0, none⟩, ⟨5, (some 51), .call 36 [.t 46, .t 50], 2, none⟩, ⟨6, (some 52), .un .not (.t 51), 0, none⟩] [1, 2, 3, 4, 9, 10, 11, 52])
             (.cond (.t 52)
              (.seq
               (.reg false [⟨0, (some 8), .mv (.c (.bool false)), 0, none⟩] [8])
               (.ret))
              (.skip)))
            (.seq
             (.reg true [⟨0, (some 53), .mv (.t 9), 0, none⟩, ⟨1, (some 54), .mv (.t 1), 0, none⟩, ⟨2, (some 55), .mv (.t 11), 0, none⟩, ⟨3, (some 56), .iaddr none 1 (.t 54) (.t 55), 0, none⟩, ⟨5, (some 58), .mv (.t 10), 0, none⟩, ⟨6, (some 59), .faddr 0 (.t 4), 0, none⟩, ⟨10, (some 63), .faddr 0 (.t 4), 0, none⟩, ⟨4, (some 57), .load none (.t 56), 0, none⟩, ⟨7, (some 60), .load none (.t 59), 0, none⟩, ⟨11, (some 64), .load none (.t 63), 0, none⟩, ⟨8, (some 61), .call 63 [.t 57, .t 58, .t 60], 1, none⟩, ⟨9, (some 62), .bin .mul (.t 53) (.t 61), 0, none⟩, ⟨12, (some 65), .bin .rem (.t 62) (.t 64), 0, none⟩, ⟨13, (some 9), .mv (.t 65), 0, none⟩] [1, 2, 3, 4, 9, 10, 11])
             (.reg false [⟨0, (some 66), .mv (.t 10), 0, none⟩, ⟨1, (some 67), .mv (.t 2), 0, none⟩, ⟨2, (some 68), .bin .mul (.t 66) (.t 67), 0, none⟩, ⟨3, (some 69), .faddr 1 (.t 4), 0, none⟩, ⟨4, (some 70), .load none (.t 69), 0, none⟩, ⟨5, (some 71), .bin .rem (.t 68) (.t 70), 0, none⟩, ⟨6, (some 10), .mv (.t 71), 0, none⟩] [1, 2, 3, 4, 9, 10, 11]))))
          (.reg false [⟨0, (some 44), .mv (.t 11), 0, none⟩, ⟨1, (some 45), .bin .add (.t 44) (.c (.int .i64 (1))), 0, none⟩, ⟨2, (some 11), .mv (.t 45), 0, none⟩] [1, 2, 3, 4, 9, 10, 11]))))))
     (.seq
      (.reg false [⟨0, (some 72), .mv (.t 9), 0, none⟩, ⟨1, (some 73), .faddr 2 (.t 4), 0, none⟩, ⟨2, (some 74), .load none (.t 73), 0, none⟩, ⟨3, (some 75), .mv (.t 3), 0, none⟩, ⟨4, (some 76), .faddr 0 (.t 4), 0, none⟩, ⟨5, (some 77), .load none (.t 76), 0, none⟩, ⟨6, (some 78), .call 63 [.t 74, .t 75, .t 77], 2, none⟩, ⟨7, (some 79), .bin .eql (.t 72) (.t 78), 0, none⟩, ⟨8, (some 8), .mv (.t 79), 0, none⟩] [8])
      (.ret)))))

theorem ok69 : okF Tryz.prog 69 4 c69 [.tmp 8] = true := by kernel_rfl

/-- (dauber/share.Proof).valid -/
def c70 : C :=
 .seq
  (.reg false [⟨0, (some 2), .box 3 (.t 0), 0, none⟩, ⟨1, (some 3), .box 3 (.t 1), 0, none⟩, ⟨2, (some 4), .mv (.c (.bool false)), 0, none⟩] [2, 3])
  (.seq
   (.reg false [⟨0, (some 5), .load (some 3) (.t 3), 0, none⟩, ⟨1, (some 6), .faddr 0 (.t 2), 0, none⟩, ⟨2, (some 7), .load none (.t 6), 0, none⟩, ⟨3, (some 8), .bsl 1 1 [.int .i64 (0)] [(0, 1, .t 7)], 0, none⟩, ⟨4, (some 9), .call 64 [.t 5, .t 8], 2, none⟩, ⟨5, (some 10), .mv (.t 9), 0, none⟩, ⟨6, (some 11), .load (some 3) (.t 3), 0, (some (10, true))⟩, ⟨7, (some 12), .faddr 1 (.t 2), 0, (some (10, true))⟩, ⟨8, (some 13), .load none (.t 12), 0, (some (10, true))⟩, ⟨9, (some 14), .faddr 2 (.t 2), 0, (some (10, true))⟩, ⟨10, (some 15), .load none (.t 14), 0, (some (10, true))⟩, ⟨11, (some 16), .bsl 1 2 [.int .i64 (0), .int .i64 (0)] [(0, 1, .t 13), (1, 1, .t 15)], 0, (some (10, true))⟩, ⟨12, (some 17), .call 66 [.t 11, .t 16], 2, (some (10, true))⟩, ⟨13, (some 18), .pick (.t 10) (.t 17) (.c (.bool false)), 0, none⟩, ⟨14, (some 4), .mv (.t 18), 0, none⟩] [4])
   (.ret))

theorem ok70 : okF Tryz.prog 70 2 c70 [.tmp 4] = true := by kernel_rfl

/-- (dauber/share.Group).imitated -/
def c71 : C :=
 .seq
  (.reg false [⟨0, (some 4), .box 3 (.t 0), 0, none⟩, ⟨1, (some 8), .alloc [.int .i64 (0), .int .i64 (0), .int .i64 (0)] 3, 0, none⟩] [1, 2, 3, 4, 8])
  (.seq
   (.reg true [⟨2, (some 12), .mv (.t 1), 0, none⟩, ⟨3, (some 13), .faddr 1 (.t 4), 0, none⟩, ⟨5, (some 15), .mv (.t 2), 0, none⟩, ⟨7, (some 17), .faddr 1 (.t 4), 0, none⟩, ⟨0, (some 10), .load (some 3) (.t 4), 0, none⟩, ⟨4, (some 14), .load none (.t 13), 0, none⟩, ⟨6, (some 16), .bin .sub (.t 14) (.t 15), 0, none⟩, ⟨8, (some 18), .load none (.t 17), 0, none⟩, ⟨9, (some 19), .bin .rem (.t 16) (.t 18), 0, none⟩, ⟨1, (some 11), .call 67 [.t 10], 1, none⟩, ⟨10, (some 20), .call 68 [.t 11, .t 12, .t 19], 1, none⟩, ⟨11, (some 9), .mv (.t 20), 0, none⟩] [2, 3, 4, 8, 9])
   (.seq
    (.reg true [⟨3, (some 24), .mv (.t 3), 0, none⟩, ⟨5, (some 26), .mv (.t 9), 0, none⟩, ⟨7, (some 28), .mv (.t 2), 0, none⟩, ⟨8, (some 29), .mv (.t 3), 0, none⟩, ⟨0, (some 21), .load (some 3) (.t 4), 0, none⟩, ⟨2, (some 23), .load (some 3) (.t 4), 0, none⟩, ⟨1, (some 22), .call 67 [.t 21], 1, none⟩, ⟨4, (some 25), .call 62 [.t 23, .t 24], 1, none⟩, ⟨6, (some 27), .call 49 [.t 22, .t 25, .t 26], 1, none⟩, ⟨9, (some 30), .build [.int .i64 (0), .int .i64 (0), .int .i64 (0)] [(0, 1, .t 27), (1, 1, .t 28), (2, 1, .t 29)], 0, none⟩, ⟨10, none, .store 3 (.t 8) (.t 30), 0, none⟩] [8])
    (.ret)))

theorem ok71 : okF Tryz.prog 71 4 c71 [.cell (some 3) 8] = true := by kernel_rfl

/-- dauber/dauberref08.Right -/
def c72 : C :=
 .seq
  (.reg false [⟨0, (some 2), .box 3 (.t 0), 0, none⟩, ⟨1, (some 3), .box 3 (.t 1), 0, none⟩, ⟨2, (some 4), .mv (.c (.bool false)), 0, none⟩] [2, 3])
  (.seq
   (.reg false [⟨0, (some 5), .load (some 3) (.t 2), 0, none⟩, ⟨1, (some 6), .faddr 0 (.t 3), 0, none⟩, ⟨2, (some 7), .load none (.t 6), 0, none⟩, ⟨3, (some 8), .call 36 [.t 5, .t 7], 2, none⟩, ⟨4, (some 9), .mv (.t 8), 0, none⟩, ⟨5, (some 10), .load (some 3) (.t 2), 0, (some (9, true))⟩, ⟨6, (some 11), .faddr 1 (.t 3), 0, (some (9, true))⟩, ⟨7, (some 12), .load none (.t 11), 0, (some (9, true))⟩, ⟨8, (some 13), .call 29 [.t 10, .t 12], 2, (some (9, true))⟩, ⟨9, (some 14), .pick (.t 9) (.t 13) (.c (.bool false)), 0, none⟩, ⟨10, (some 15), .mv (.t 14), 0, none⟩, ⟨11, (some 16), .load (some 3) (.t 2), 0, (some (15, true))⟩, ⟨12, (some 17), .faddr 2 (.t 3), 0, (some (15, true))⟩, ⟨13, (some 18), .load none (.t 17), 0, (some (15, true))⟩, ⟨14, (some 19), .call 29 [.t 16, .t 18], 2, (some (15, true))⟩, ⟨15, (some 20), .pick (.t 15) (.t 19) (.c (.bool false)), 0, none⟩, ⟨16, (some 4), .mv (.t 20), 0, none⟩] [4])
   (.ret))

theorem ok72 : okF Tryz.prog 72 2 c72 [.tmp 4] = true := by kernel_rfl

/-- dauber/share.isPrime -/
def c73 : C :=
 .seq
  (.reg false [⟨0, (some 2), .mv (.c (.bool false)), 0, none⟩] [0])
  (.seq
   (.seq
    (.reg false [⟨0, (some 3), .mv (.c (.int .i64 (2))), 0, none⟩] [0, 3])
    (.blk 0
     (.loop [0, 3]
      (.seq
       (.seq
        (.reg false [⟨0, (some 4), .mv (.t 3), 0, none⟩, ⟨1, (some 5), .mv (.t 3), 0, none⟩, ⟨2, (some 6), .bin .mul (.t 4) (.t 5), 0, none⟩, ⟨3, (some 7), .mv (.t 0), 0, none⟩, ⟨4, (some 8), .bin .leq (.t 6) (.t 7), 0, none⟩] [0, 3, 8])
        (.cond (.t 8)
         (.skip)
         (.exit 0)))
       (.seq
        (.blk 1
         (.seq
          (.reg false [⟨0, (some 11), .mv (.t 0), 0, none⟩, ⟨1, (some 12), .mv (.t 3), 0, none⟩, ⟨2, (some 13), .bin .rem (.t 11) (.t 12), 0, none⟩, ⟨3, (some 14), .bin .eql (.t 13) (.c (.int .i64 (0))), 0, none⟩] [0, 3, 14])
          (.cond (.t 14)
           (.seq
            (.reg false [⟨0, (some 2), .mv (.c (.bool false)), 0, none⟩] [2])
            (.ret))
           (.skip))))
        (.reg false [⟨0, (some 9), .mv (.t 3), 0, none⟩, ⟨1, (some 10), .bin .add (.t 9) (.c (.int .i64 (1))), 0, none⟩, ⟨2, (some 3), .mv (.t 10), 0, none⟩] [0, 3]))))))
   (.seq
    (.reg false [⟨0, (some 15), .mv (.t 0), 0, none⟩, ⟨1, (some 16), .bin .gtr (.t 15) (.c (.int .i64 (1))), 0, none⟩, ⟨2, (some 2), .mv (.t 16), 0, none⟩] [2])
    (.ret)))

theorem ok73 : okF Tryz.prog 73 1 c73 [.tmp 2] = true := by kernel_rfl

/-- dauber/dauberref08.prime -/
def c74 : C :=
 .seq
  (.reg false [⟨0, (some 2), .mv (.c (.bool false)), 0, none⟩] [0])
  (.seq
   (.seq
    (.reg false [⟨0, (some 3), .mv (.c (.int .i64 (2))), 0, none⟩] [0, 3])
    (.blk 0
     (.loop [0, 3]
      (.seq
       (.seq
        (.reg false [⟨0, (some 4), .mv (.t 3), 0, none⟩, ⟨1, (some 5), .mv (.t 3), 0, none⟩, ⟨2, (some 6), .bin .mul (.t 4) (.t 5), 0, none⟩, ⟨3, (some 7), .mv (.t 0), 0, none⟩, ⟨4, (some 8), .bin .leq (.t 6) (.t 7), 0, none⟩] [0, 3, 8])
        (.cond (.t 8)
         (.skip)
         (.exit 0)))
       (.seq
        (.blk 1
         (.seq
          (.reg false [⟨0, (some 11), .mv (.t 0), 0, none⟩, ⟨1, (some 12), .mv (.t 3), 0, none⟩, ⟨2, (some 13), .bin .rem (.t 11) (.t 12), 0, none⟩, ⟨3, (some 14), .bin .eql (.t 13) (.c (.int .i64 (0))), 0, none⟩] [0, 3, 14])
          (.cond (.t 14)
           (.seq
            (.reg false [⟨0, (some 2), .mv (.c (.bool false)), 0, none⟩] [2])
            (.ret))
           (.skip))))
        (.reg false [⟨0, (some 9), .mv (.t 3), 0, none⟩, ⟨1, (some 10), .bin .add (.t 9) (.c (.int .i64 (1))), 0, none⟩, ⟨2, (some 3), .mv (.t 10), 0, none⟩] [0, 3]))))))
   (.seq
    (.reg false [⟨0, (some 15), .mv (.t 0), 0, none⟩, ⟨1, (some 16), .bin .gtr (.t 15) (.c (.int .i64 (1))), 0, none⟩, ⟨2, (some 2), .mv (.t 16), 0, none⟩] [2])
    (.ret)))

theorem ok74 : okF Tryz.prog 74 1 c74 [.tmp 2] = true := by kernel_rfl

/-- dauber/code.Decode -/
def c75 : C :=
 .seq
  (.reg false [⟨0, (some 3), .box 3 (.t 0), 0, none⟩, ⟨1, (some 6), .mv (.c (.nils)), 0, none⟩, ⟨2, (some 7), .mv (.c (.int .i64 (0))), 0, none⟩] [1, 2, 3])
  (.seq
   (.reg false [⟨0, (some 12), .load (some 3) (.t 3), 0, none⟩, ⟨1, (some 13), .mv (.t 1), 0, none⟩, ⟨2, (some 14), .mv (.t 2), 0, none⟩, ⟨3, (some 15), .call 98 [.t 12, .t 13, .t 14], 2, none⟩, ⟨4, (some 11), .mv (.t 15), 0, none⟩, ⟨5, (some 16), .ext 0 (.t 11), 0, none⟩, ⟨6, (some 17), .ext 1 (.t 11), 0, none⟩, ⟨7, (some 18), .ext 2 (.t 11), 0, none⟩, ⟨8, (some 9), .alloc [.nils, .nils] 2, 0, none⟩, ⟨9, (some 8), .mv (.t 16), 0, none⟩, ⟨10, none, .store 2 (.t 9) (.t 17), 0, none⟩, ⟨11, (some 10), .mv (.t 18), 0, none⟩] [8, 10])
   (.seq
    (.reg false [⟨0, (some 19), .mv (.t 8), 0, none⟩, ⟨1, (some 20), .mv (.t 10), 0, none⟩, ⟨2, (some 6), .mv (.t 19), 0, none⟩, ⟨3, (some 7), .mv (.t 20), 0, none⟩] [6, 7])
    (.ret)))

theorem ok75 : okF Tryz.prog 75 3 c75 [.tmp 6, .tmp 7] = true := by kernel_rfl

/-- dauber/code.Message -/
def c76 : C :=
 .seq
  (.reg false [⟨0, (some 2), .box 3 (.t 0), 0, none⟩, ⟨1, (some 4), .mv (.c (.nils)), 0, none⟩, ⟨2, (some 5), .mv (.c (.int .i64 (0))), 0, none⟩] [1, 2])
  (.seq
   (.reg false [⟨0, (some 12), .load (some 3) (.t 2), 0, none⟩, ⟨1, (some 13), .call 99 [.t 12], 2, none⟩, ⟨2, (some 11), .mv (.t 13), 0, none⟩, ⟨3, (some 14), .ext 0 (.t 11), 0, none⟩, ⟨4, (some 15), .ext 1 (.t 11), 0, none⟩, ⟨5, (some 6), .mv (.t 14), 0, none⟩, ⟨6, (some 7), .mv (.t 15), 0, none⟩] [1, 6, 7])
   (.seq
    (.seq
     (.reg false [⟨0, (some 16), .mv (.t 7), 0, none⟩, ⟨1, (some 17), .bin .neq (.t 16) (.c (.int .i64 (0))), 0, none⟩] [1, 6, 7, 17])
     (.cond (.t 17)
      (.seq
       (.reg false [⟨0, (some 18), .mv (.t 7), 0, none⟩, ⟨1, (some 4), .mv (.c (.nils)), 0, none⟩, ⟨2, (some 5), .mv (.t 18), 0, none⟩] [4, 5])
       (.ret))
      (.skip)))
    (.seq
     (.seq
      (.reg false [⟨0, (some 19), .mv (.t 6), 0, none⟩, ⟨1, (some 20), .mv (.t 1), 0, none⟩, ⟨2, (some 21), .call 100 [.t 19, .t 20], 2, none⟩, ⟨3, (some 8), .mv (.t 21), 0, none⟩] [1, 6, 8])
      (.seq
       (.reg false [⟨0, (some 22), .mv (.t 8), 0, none⟩, ⟨1, (some 23), .bin .neq (.t 22) (.c (.int .i64 (0))), 0, none⟩] [1, 6, 8, 23])
       (.cond (.t 23)
        (.seq
         (.reg false [⟨0, (some 24), .mv (.t 8), 0, none⟩, ⟨1, (some 4), .mv (.c (.nils)), 0, none⟩, ⟨2, (some 5), .mv (.t 24), 0, none⟩] [4, 5])
         (.ret))
        (.skip))))
     (.seq
      (.reg false [⟨0, (some 26), .mv (.t 6), 0, none⟩, ⟨1, (some 27), .mv (.t 1), 0, none⟩, ⟨2, (some 28), .call 101 [.t 26, .t 27], 2, none⟩, ⟨3, (some 25), .mv (.t 28), 0, none⟩, ⟨4, (some 29), .ext 0 (.t 25), 0, none⟩, ⟨5, (some 30), .ext 1 (.t 25), 0, none⟩, ⟨6, (some 9), .mv (.t 29), 0, none⟩, ⟨7, (some 10), .mv (.t 30), 0, none⟩] [9, 10])
      (.seq
       (.seq
        (.reg false [⟨0, (some 31), .mv (.t 10), 0, none⟩, ⟨1, (some 32), .un .not (.t 31), 0, none⟩] [9, 32])
        (.cond (.t 32)
         (.seq
          (.reg false [⟨0, (some 4), .mv (.c (.nils)), 0, none⟩, ⟨1, (some 5), .mv (.c (.int .i64 (30))), 0, none⟩] [4, 5])
          (.ret))
         (.skip)))
       (.seq
        (.reg false [⟨0, (some 33), .mv (.t 9), 0, none⟩, ⟨1, (some 4), .mv (.t 33), 0, none⟩, ⟨2, (some 5), .mv (.c (.int .i64 (0))), 0, none⟩] [4, 5])
        (.ret)))))))

theorem ok76 : okF Tryz.prog 76 2 c76 [.tmp 4, .tmp 5] = true := by kernel_rfl

/-- dauber/share.points$1 -/
def c77 : C :=
 .seq
  (.reg false [⟨0, (some 6), .load none (.t 1), 0, none⟩, ⟨1, (some 7), .len none (.t 6), 0, none⟩, ⟨2, (some 8), .mv (.c (.int .i64 (0))), 0, none⟩] [0, 2, 6, 7, 8])
  (.blk 0
   (.loop [0, 2, 6, 7, 8]
    (.seq
     (.reg false [⟨0, (some 9), .bin .lss (.t 8) (.t 7), 0, none⟩] [0, 2, 6, 7, 8, 9])
     (.seq
      (.cond (.t 9)
       (.skip)
       (.exit 0))
      (.seq
       (.blk 1
        (.seq
         (.reg false [⟨0, (some 10), .mv (.t 8), 0, none⟩, ⟨1, (some 11), .iaddr none 1 (.t 6) (.t 8), 0, none⟩, ⟨2, (some 12), .load none (.t 11), 0, none⟩, ⟨3, (some 4), .mv (.t 10), 0, none⟩, ⟨4, (some 5), .mv (.t 12), 0, none⟩] [0, 2, 4, 5, 6, 7, 8])
         (.seq
          (.reg false [⟨0, (some 13), .mv (.t 0), 0, none⟩, ⟨1, (some 14), .mv (.t 5), 0, none⟩, ⟨2, (some 15), .load none (.t 2), 0, none⟩, ⟨3, (some 16), .mv (.t 4), 0, none⟩, ⟨4, (some 17), .iaddr none 1 (.t 15) (.t 16), 0, none⟩, ⟨5, (some 18), .load none (.t 17), 0, none⟩, ⟨6, (some 19), .callv (.t 13) [.t 14, .t 18], 2, none⟩, ⟨7, (some 20), .un .not (.t 19), 0, none⟩] [0, 2, 6, 7, 8, 20])
          (.cond (.t 20)
           (.ret)
           (.skip)))))
       (.reg false [⟨0, (some 21), .bin .add (.t 8) (.c (.int .i64 (1))), 0, none⟩, ⟨1, (some 8), .mv (.t 21), 0, none⟩] [0, 2, 6, 7, 8]))))))

theorem ok77 : okF Tryz.prog 77 3 c77 [] = true := by kernel_rfl

/-- dauber/field.primes -/
def c78 : C :=
 .seq
  (.reg false [⟨0, (some 2), .mv (.c (.nils)), 0, none⟩] [0])
  (.seq
   (.reg false [⟨0, (some 3), .nilo 1, 0, none⟩] [0, 3])
   (.seq
    (.seq
     (.reg false [⟨0, (some 4), .mv (.c (.int .i64 (2))), 0, none⟩] [0, 3, 4])
     (.blk 0
      (.loop [0, 3, 4]
       (.seq
        (.seq
         (.reg false [⟨0, (some 5), .mv (.t 4), 0, none⟩, ⟨1, (some 6), .mv (.t 4), 0, none⟩, ⟨2, (some 7), .bin .mul (.t 5) (.t 6), 0, none⟩, ⟨3, (some 8), .mv (.t 0), 0, none⟩, ⟨4, (some 9), .bin .leq (.t 7) (.t 8), 0, none⟩] [0, 3, 4, 9])
         (.cond (.t 9)
          (.skip)
          (.exit 0)))
        (.seq
         (.blk 1
          (.seq
           (.reg false [⟨0, (some 12), .mv (.t 0), 0, none⟩, ⟨1, (some 13), .mv (.t 4), 0, none⟩, ⟨2, (some 14), .bin .rem (.t 12) (.t 13), 0, none⟩, ⟨3, (some 15), .bin .eql (.t 14) (.c (.int .i64 (0))), 0, none⟩] [0, 3, 4, 15])
           (.cond (.t 15)
            (.seq
             (.reg false [⟨0, (some 16), .mv (.t 3), 0, none⟩, ⟨1, (some 17), .mv (.t 4), 0, none⟩, ⟨2, (some 18), .bsl 1 1 [.int .i64 (0)] [(0, 1, .t 17)], 0, none⟩, ⟨3, (some 19), .app 1 8 (.t 16) (.t 18), 0, none⟩, ⟨4, (some 3), .mv (.t 19), 0, none⟩] [0, 3, 4])
             (.blk 2
              (.loop [0, 3, 4]
               (.seq
                (.seq
                 (.reg false [⟨0, (some 20), .mv (.t 0), 0, none⟩, ⟨1, (some 21), .mv (.t 4), 0, none⟩, ⟨2, (some 22), .bin .rem (.t 20) (.t 21), 0, none⟩, ⟨3, (some 23), .bin .eql (.t 22) (.c (.int .i64 (0))), 0, none⟩] [0, 3, 4, 23])
                 (.cond (.t 23)
                  (.skip)
                  (.exit 2)))
                (.blk 3
                 (.reg false [⟨0, (some 24), .mv (.t 0), 0, none⟩, ⟨1, (some 25), .mv (.t 4), 0, none⟩, ⟨2, (some 26), .bin .quo (.t 24) (.t 25), 0, none⟩, ⟨3, (some 0), .mv (.t 26), 0, none⟩] [0, 3, 4]))))))
            (.skip))))
         (.reg false [⟨0, (some 10), .mv (.t 4), 0, none⟩, ⟨1, (some 11), .bin .add (.t 10) (.c (.int .i64 (1))), 0, none⟩, ⟨2, (some 4), .mv (.t 11), 0, none⟩] [0, 3, 4]))))))
    (.seq
     (.seq
      (.reg false [⟨0, (some 27), .mv (.t 0), 0, none⟩, ⟨1, (some 28), .bin .gtr (.t 27) (.c (.int .i64 (1))), 0, none⟩] [0, 3, 28])
      (.cond (.t 28)
       (.reg false [⟨0, (some 29), .mv (.t 3), 0, none⟩, ⟨1, (some 30), .mv (.t 0), 0, none⟩, ⟨2, (some 31), .bsl 1 1 [.int .i64 (0)] [(0, 1, .t 30)], 0, none⟩, ⟨3, (some 32), .app 1 8 (.t 29) (.t 31), 0, none⟩, ⟨4, (some 3), .mv (.t 32), 0, none⟩] [3])
       (.skip)))
     (.seq
      (.reg false [⟨0, (some 33), .mv (.t 3), 0, none⟩, ⟨1, (some 2), .mv (.t 33), 0, none⟩] [2])
      (.ret)))))

theorem ok78 : okF Tryz.prog 78 1 c78 [.tmp 2] = true := by kernel_rfl

/-- (*dauber/field.Field).first -/
def c79 : C :=
 .seq
  (.reg false [⟨0, (some 2), .box 1 (.t 0), 0, none⟩, ⟨1, (some 3), .box 1 (.t 1), 0, none⟩, ⟨2, (some 4), .mv (.c (.int .i64 (0))), 0, none⟩] [2, 3])
  (.seq
   (.reg false [⟨0, (some 7), .load none (.t 2), 0, none⟩, ⟨1, (some 8), .nilc (.t 7), 0, none⟩, ⟨2, (some 9), .faddr 1 (.t 8), 0, none⟩, ⟨3, (some 10), .load none (.t 9), 0, none⟩, ⟨4, (some 11), .bin .sub (.t 10) (.c (.int .i64 (1))), 0, none⟩, ⟨5, (some 12), .call 78 [.t 11], 2, none⟩, ⟨6, (some 5), .mv (.t 12), 0, none⟩] [2, 3, 5])
   (.seq
    (.reg false [⟨0, (some 6), .alloc [.int .i64 (0)] 1, 0, none⟩, ⟨1, none, .store 1 (.t 6) (.c (.int .i64 (1))), 0, none⟩] [2, 3, 5, 6])
    (.blk 0
     (.loop [2, 3, 5, 6]
      (.seq
       (.blk 1
        (.seq
         (.reg false [⟨0, (some 15), .mv (.t 5), 0, none⟩, ⟨1, (some 16), .mkfn (.func 103) [] [.t 3, .t 6, .t 2], 0, none⟩, ⟨2, (some 17), .call 102 [.t 15, .t 16], 2, none⟩, ⟨3, (some 18), .un .not (.t 17), 0, none⟩] [2, 3, 5, 6, 18])
         (.cond (.t 18)
          (.seq
           (.reg false [⟨0, (some 19), .load none (.t 6), 0, none⟩, ⟨1, (some 4), .mv (.t 19), 0, none⟩] [4])
           (.ret))
          (.skip))))
       (.seq
        (.seq
         (.reg false [⟨0, (some 20), .load none (.t 6), 0, none⟩] [2, 3, 5, 20])
         (.reg false [⟨0, (some 6), .alloc [.int .i64 (0)] 1, 0, none⟩, ⟨1, none, .store 1 (.t 6) (.t 20), 0, none⟩] [2, 3, 5, 6]))
        (.reg false [⟨0, (some 13), .load none (.t 6), 0, none⟩, ⟨1, (some 14), .bin .add (.t 13) (.c (.int .i64 (1))), 0, none⟩, ⟨2, none, .store 1 (.t 6) (.t 14), 0, none⟩] [2, 3, 5, 6])))))))

theorem ok79 : okF Tryz.prog 79 2 c79 [.tmp 4] = true := by kernel_rfl

/-- dauber/field.least -/
def c80 : C :=
 .seq
  (.reg false [⟨0, (some 6), .mv (.c (.nils)), 0, none⟩] [6])
  (.bad)

theorem ok80 : okF Tryz.prog 80 3 c80 [.tmp 6] = true := by kernel_rfl

/-- dauber/field.newTables -/
def c81 : C :=
 .seq
  (.reg false [⟨0, (some 2), .box 3 (.t 0), 0, none⟩, ⟨1, (some 3), .box 1 (.t 1), 0, none⟩, ⟨2, (some 4), .mv (.c (.nilp)), 0, none⟩] [2, 3])
  (.seq
   (.reg true [⟨1, (some 11), .faddr 2 (.t 2), 0, none⟩, ⟨0, (some 10), .load (some 3) (.t 2), 0, none⟩, ⟨2, (some 12), .load none (.t 11), 0, none⟩, ⟨3, (some 13), .mksl 1 8 [.int .i64 (0)] (.t 12) (.t 12), 0, none⟩, ⟨4, (some 14), .build [.int .i64 (0), .nils, .int .i64 (0), .nils, .nils] [(0, 3, .t 10), (4, 1, .t 13)], 0, none⟩, ⟨5, (some 15), .box 5 (.t 14), 0, none⟩, ⟨6, (some 5), .mv (.t 15), 0, none⟩] [2, 3, 5])
   (.seq
    (.reg false [⟨0, (some 6), .alloc [.int .i64 (0)] 1, 0, none⟩, ⟨1, none, .store 1 (.t 6) (.c (.int .i64 (1))), 0, none⟩] [2, 3, 5, 6])
    (.seq
     (.reg false [⟨0, (some 16), .mkfn (.func 109) [] [.t 6, .t 2, .t 3], 0, none⟩, ⟨1, (some 7), .mv (.t 16), 0, none⟩] [2, 5, 7])
     (.seq
      (.seq
       (.reg false [⟨0, (some 17), .faddr 2 (.t 2), 0, none⟩, ⟨1, (some 18), .load none (.t 17), 0, none⟩, ⟨2, (some 19), .bin .sub (.t 18) (.c (.int .i64 (1))), 0, none⟩, ⟨3, (some 20), .mv (.c (.int .i64 (0))), 0, none⟩] [5, 7, 19, 20])
       (.blk 0
        (.loop [5, 7, 19, 20]
         (.seq
          (.reg false [⟨0, (some 21), .bin .lss (.t 20) (.t 19), 0, none⟩] [5, 7, 19, 20, 21])
          (.seq
           (.cond (.t 21)
            (.skip)
            (.exit 0))
           (.seq
            (.blk 1
             (.seq
              (.reg false [⟨0, (some 22), .mv (.t 20), 0, none⟩, ⟨1, (some 8), .mv (.t 22), 0, none⟩] [5, 7, 8, 19, 20])
              (.seq
               (.reg false [⟨0, (some 23), .mv (.t 7), 0, none⟩, ⟨1, (some 24), .callv (.t 23) [], 2, none⟩, ⟨2, (some 9), .mv (.t 24), 0, none⟩] [5, 7, 8, 9, 19, 20])
               (.seq
                (.reg false [⟨0, (some 25), .mv (.t 5), 0, none⟩, ⟨1, (some 26), .mv (.t 5), 0, none⟩, ⟨2, (some 27), .nilc (.t 26), 0, none⟩, ⟨3, (some 28), .faddr 3 (.t 27), 0, none⟩, ⟨4, (some 29), .load none (.t 28), 0, none⟩, ⟨5, (some 30), .mv (.t 9), 0, none⟩, ⟨6, (some 31), .bsl 1 1 [.int .i64 (0)] [(0, 1, .t 30)], 0, none⟩, ⟨7, (some 32), .app 1 8 (.t 29) (.t 31), 0, none⟩, ⟨8, (some 33), .nilc (.t 25), 0, none⟩, ⟨9, (some 34), .faddr 3 (.t 33), 0, none⟩, ⟨10, none, .store 1 (.t 34) (.t 32), 0, none⟩] [5, 7, 8, 9, 19, 20])
                (.reg false [⟨0, (some 35), .mv (.t 5), 0, none⟩, ⟨1, (some 36), .nilc (.t 35), 0, none⟩, ⟨2, (some 37), .faddr 4 (.t 36), 0, none⟩, ⟨3, (some 38), .load none (.t 37), 0, none⟩, ⟨4, (some 39), .mv (.t 9), 0, none⟩, ⟨5, (some 40), .mv (.t 8), 0, none⟩, ⟨6, (some 41), .iaddr none 1 (.t 38) (.t 39), 0, none⟩, ⟨7, none, .store 1 (.t 41) (.t 40), 0, none⟩] [5, 7, 19, 20])))))
            (.reg false [⟨0, (some 42), .bin .add (.t 20) (.c (.int .i64 (1))), 0, none⟩, ⟨1, (some 20), .mv (.t 42), 0, none⟩] [5, 7, 19, 20])))))))
      (.seq
       (.reg false [⟨0, (some 43), .mv (.t 5), 0, none⟩, ⟨1, (some 4), .mv (.t 43), 0, none⟩] [4])
       (.ret))))))

theorem ok81 : okF Tryz.prog 81 2 c81 [.tmp 4] = true := by kernel_rfl

/-- (*dauber/field.Field).areElements -/
def c82 : C :=
 .seq
  (.reg false [⟨0, (some 2), .box 1 (.t 0), 0, none⟩, ⟨1, (some 4), .mv (.c (.bool false)), 0, none⟩] [1, 2])
  (.seq
   (.reg false [⟨0, (some 5), .mv (.t 1), 0, none⟩, ⟨1, (some 6), .mkfn (.func 111) [] [.t 2], 0, none⟩, ⟨2, (some 7), .call 102 [.t 5, .t 6], 2, none⟩, ⟨3, (some 8), .un .not (.t 7), 0, none⟩, ⟨4, (some 4), .mv (.t 8), 0, none⟩] [4])
   (.ret))

theorem ok82 : okF Tryz.prog 82 2 c82 [.tmp 4] = true := by kernel_rfl

/-- dauber/field.different -/
def c83 : C :=
 .seq
  (.reg false [⟨0, (some 2), .mv (.c (.bool false)), 0, none⟩] [0])
  (.seq
   (.reg false [⟨0, (some 6), .mkm, 0, none⟩, ⟨1, (some 3), .mv (.t 6), 0, none⟩] [0, 3])
   (.seq
    (.seq
     (.reg false [⟨0, (some 7), .mv (.t 0), 0, none⟩, ⟨1, (some 8), .len none (.t 7), 0, none⟩, ⟨2, (some 9), .mv (.c (.int .i64 (0))), 0, none⟩] [3, 7, 8, 9])
     (.blk 0
      (.loop [3, 7, 8, 9]
       (.seq
        (.reg false [⟨0, (some 10), .bin .lss (.t 9) (.t 8), 0, none⟩] [3, 7, 8, 9, 10])
        (.seq
         (.cond (.t 10)
          (.skip)
          (.exit 0))
         (.seq
          (.blk 1
           (.seq
            (.reg false [⟨0, (some 11), .iaddr none 1 (.t 7) (.t 9), 0, none⟩, ⟨1, (some 12), .load none (.t 11), 0, none⟩, ⟨2, (some 5), .mv (.t 12), 0, none⟩] [3, 5, 7, 8, 9])
            (.seq
             (.seq
              (.reg false [⟨0, (some 13), .mv (.t 3), 0, none⟩, ⟨1, (some 14), .mv (.t 5), 0, none⟩, ⟨2, (some 15), .lkp 0 (.bool false) false (.t 13) (.t 14), 0, none⟩] [3, 5, 7, 8, 9, 15])
              (.cond (.t 15)
               (.seq
                (.reg false [⟨0, (some 2), .mv (.c (.bool false)), 0, none⟩] [2])
                (.ret))
               (.skip)))
             (.reg false [⟨0, (some 16), .mv (.t 3), 0, none⟩, ⟨1, (some 17), .mv (.t 5), 0, none⟩, ⟨2, none, .mput 0 (.t 16) (.t 17) (.c (.bool true)), 0, none⟩] [3, 7, 8, 9]))))
          (.reg false [⟨0, (some 18), .bin .add (.t 9) (.c (.int .i64 (1))), 0, none⟩, ⟨1, (some 9), .mv (.t 18), 0, none⟩] [3, 7, 8, 9])))))))
    (.seq
     (.reg false [⟨0, (some 2), .mv (.c (.bool true)), 0, none⟩] [2])
     (.ret))))

theorem ok83 : okF Tryz.prog 83 1 c83 [.tmp 2] = true := by kernel_rfl

/-- (*dauber/field.Field).through -/
def c84 : C :=
 .seq
  (.reg false [⟨0, (some 6), .mv (.c (.nils)), 0, none⟩] [0, 1, 2])
  (.seq
   (.reg false [⟨0, (some 7), .mv (.c (.nils)), 0, none⟩] [0, 1, 2, 7])
   (.seq
    (.reg false [⟨0, (some 12), .bsl 1 1 [.int .i64 (0)] [(0, 1, .c (.int .i64 (1)))], 0, none⟩, ⟨1, (some 8), .mv (.t 12), 0, none⟩] [0, 1, 2, 7, 8])
    (.seq
     (.seq
      (.reg false [⟨0, (some 13), .mv (.t 1), 0, none⟩, ⟨1, (some 14), .len none (.t 13), 0, none⟩, ⟨2, (some 15), .mv (.c (.int .i64 (0))), 0, none⟩] [0, 2, 7, 8, 13, 14, 15])
      (.blk 0
       (.loop [0, 2, 7, 8, 13, 14, 15]
        (.seq
         (.reg false [⟨0, (some 16), .bin .lss (.t 15) (.t 14), 0, none⟩] [0, 2, 7, 8, 13, 14, 15, 16])
         (.seq
          (.cond (.t 16)
           (.skip)
           (.exit 0))
          (.seq
           (.blk 1
            (.seq
             (.reg false [⟨0, (some 17), .mv (.t 15), 0, none⟩, ⟨1, (some 18), .iaddr none 1 (.t 13) (.t 15), 0, none⟩, ⟨2, (some 19), .load none (.t 18), 0, none⟩, ⟨3, (some 9), .mv (.t 17), 0, none⟩, ⟨4, (some 10), .mv (.t 19), 0, none⟩] [0, 2, 7, 8, 9, 10, 13, 14, 15])
             (.seq
              (.reg true [⟨0, (some 20), .mv (.t 0), 0, none⟩, ⟨1, (some 21), .nilc (.t 20), 0, none⟩, ⟨2, (some 22), .faddr 0 (.t 21), 0, none⟩, ⟨4, (some 24), .mv (.t 0), 0, none⟩, ⟨5, (some 25), .nilc (.t 24), 0, none⟩, ⟨6, (some 26), .faddr 0 (.t 25), 0, none⟩, ⟨8, (some 28), .mv (.t 2), 0, none⟩, ⟨9, (some 29), .mv (.t 9), 0, none⟩, ⟨10, (some 30), .iaddr none 1 (.t 28) (.t 29), 0, none⟩, ⟨12, (some 32), .mv (.t 0), 0, none⟩, ⟨13, (some 33), .mv (.t 7), 0, none⟩, ⟨14, (some 34), .mv (.t 10), 0, none⟩, ⟨19, (some 39), .mv (.t 0), 0, none⟩, ⟨20, (some 40), .nilc (.t 39), 0, none⟩, ⟨21, (some 41), .faddr 0 (.t 40), 0, none⟩, ⟨23, (some 43), .mv (.t 0), 0, none⟩, ⟨24, (some 44), .mv (.t 8), 0, none⟩, ⟨25, (some 45), .mv (.t 10), 0, none⟩, ⟨3, (some 23), .load none (.t 22), 0, none⟩, ⟨30, (some 50), .nilc (.t 23), 0, none⟩, ⟨31, (some 51), .mv (.t 23), 0, none⟩, ⟨7, (some 27), .load none (.t 26), 0, none⟩, ⟨16, (some 36), .nilc (.t 27), 0, none⟩, ⟨17, (some 37), .mv (.t 27), 0, none⟩, ⟨11, (some 31), .load none (.t 30), 0, none⟩, ⟨22, (some 42), .load none (.t 41), 0, none⟩, ⟨27, (some 47), .nilc (.t 42), 0, none⟩, ⟨28, (some 48), .mv (.t 42), 0, none⟩, ⟨15, (some 35), .call 112 [.t 32, .t 33, .t 34], 1, none⟩, ⟨18, (some 38), .inv "dauber/field.difference" (.t 37) [.t 31, .t 35], 1, none⟩, ⟨26, (some 46), .call 112 [.t 43, .t 44, .t 45], 1, none⟩, ⟨29, (some 49), .inv "dauber/field.inverse" (.t 48) [.t 46], 1, none⟩, ⟨32, (some 52), .inv "dauber/field.product" (.t 51) [.t 38, .t 49], 1, none⟩, ⟨33, (some 11), .mv (.t 52), 0, none⟩] [0, 2, 7, 8, 10, 11, 13, 14, 15])
              (.seq
               (.reg false [⟨0, (some 53), .mv (.t 0), 0, none⟩, ⟨1, (some 54), .mv (.t 7), 0, none⟩, ⟨2, (some 55), .mv (.t 11), 0, none⟩, ⟨3, (some 56), .mv (.t 8), 0, none⟩, ⟨4, (some 57), .call 113 [.t 53, .t 54, .t 55, .t 56], 2, none⟩, ⟨5, (some 7), .mv (.t 57), 0, none⟩] [0, 2, 7, 8, 10, 13, 14, 15])
               (.reg false [⟨0, (some 58), .mv (.t 0), 0, none⟩, ⟨1, (some 59), .mv (.t 8), 0, none⟩, ⟨2, (some 60), .mv (.t 0), 0, none⟩, ⟨3, (some 61), .nilc (.t 60), 0, none⟩, ⟨4, (some 62), .faddr 0 (.t 61), 0, none⟩, ⟨5, (some 63), .load none (.t 62), 0, none⟩, ⟨6, (some 64), .mv (.t 10), 0, none⟩, ⟨7, (some 65), .inv "dauber/field.difference" (.t 63) [.c (.int .i64 (0)), .t 64], 2, none⟩, ⟨8, (some 66), .bsl 1 2 [.int .i64 (0), .int .i64 (0)] [(0, 1, .t 65), (1, 1, .c (.int .i64 (1)))], 0, none⟩, ⟨9, (some 67), .call 114 [.t 58, .t 59, .t 66], 2, none⟩, ⟨10, (some 8), .mv (.t 67), 0, none⟩] [0, 2, 7, 8, 13, 14, 15])))))
           (.reg false [⟨0, (some 68), .bin .add (.t 15) (.c (.int .i64 (1))), 0, none⟩, ⟨1, (some 15), .mv (.t 68), 0, none⟩] [0, 2, 7, 8, 13, 14, 15])))))))
     (.seq
      (.reg false [⟨0, (some 69), .mv (.t 7), 0, none⟩, ⟨1, (some 6), .mv (.t 69), 0, none⟩] [6])
      (.ret)))))

theorem ok84 : okF Tryz.prog 84 3 c84 [.tmp 6] = true := by kernel_rfl

/-- dauber/dauberref02.rest -/
def c85 : C :=
 .seq
  (.reg false [⟨0, (some 6), .mv (.c (.int .i64 (0))), 0, none⟩] [0, 1, 2])
  (.seq
   (.reg false [⟨0, (some 12), .mv (.t 0), 0, none⟩, ⟨1, (some 13), .mv (.t 2), 0, none⟩, ⟨2, (some 14), .call 115 [.t 12, .t 13], 2, none⟩, ⟨3, (some 15), .mv (.t 1), 0, none⟩, ⟨4, (some 16), .mv (.t 2), 0, none⟩, ⟨5, (some 17), .call 115 [.t 15, .t 16], 2, none⟩, ⟨6, (some 7), .mv (.t 14), 0, none⟩, ⟨7, (some 8), .mv (.t 17), 0, none⟩] [2, 7, 8])
   (.seq
    (.blk 0
     (.loop [2, 7, 8]
      (.seq
       (.seq
        (.reg false [⟨0, (some 18), .mv (.t 7), 0, none⟩, ⟨1, (some 19), .len none (.t 18), 0, none⟩, ⟨2, (some 20), .mv (.t 8), 0, none⟩, ⟨3, (some 21), .len none (.t 20), 0, none⟩, ⟨4, (some 22), .bin .geq (.t 19) (.t 21), 0, none⟩] [2, 7, 8, 22])
        (.cond (.t 22)
         (.skip)
         (.exit 0)))
       (.blk 1
        (.seq
         (.reg false [⟨0, (some 23), .mv (.t 7), 0, none⟩, ⟨1, (some 24), .len none (.t 23), 0, none⟩, ⟨2, (some 25), .mv (.t 8), 0, none⟩, ⟨3, (some 26), .len none (.t 25), 0, none⟩, ⟨4, (some 27), .bin .sub (.t 24) (.t 26), 0, none⟩, ⟨5, (some 9), .mv (.t 27), 0, none⟩] [2, 7, 8, 9])
         (.seq
          (.reg false [⟨0, (some 28), .mv (.t 7), 0, none⟩, ⟨1, (some 29), .mv (.t 7), 0, none⟩, ⟨2, (some 30), .len none (.t 29), 0, none⟩, ⟨3, (some 31), .bin .sub (.t 30) (.c (.int .i64 (1))), 0, none⟩, ⟨4, (some 32), .iaddr none 1 (.t 28) (.t 31), 0, none⟩, ⟨5, (some 33), .load none (.t 32), 0, none⟩, ⟨6, (some 10), .mv (.t 33), 0, none⟩] [2, 7, 8, 9, 10])
          (.seq
           (.seq
            (.reg false [⟨0, (some 11), .mv (.c (.int .i64 (0))), 0, none⟩] [2, 7, 8, 9, 10, 11])
            (.blk 2
             (.loop [2, 7, 8, 9, 10, 11]
              (.seq
               (.seq
                (.reg false [⟨0, (some 34), .mv (.t 11), 0, none⟩, ⟨1, (some 35), .mv (.t 8), 0, none⟩, ⟨2, (some 36), .len none (.t 35), 0, none⟩, ⟨3, (some 37), .bin .lss (.t 34) (.t 36), 0, none⟩] [2, 7, 8, 9, 10, 11, 37])
                (.cond (.t 37)
                 (.skip)
                 (.exit 2)))
               (.seq
                (.blk 3
                 (.reg true [⟨0, (some 40), .mv (.t 7), 0, none⟩, ⟨1, (some 41), .mv (.t 9), 0, none⟩, ⟨2, (some 42), .mv (.t 11), 0, none⟩, ⟨3, (some 43), .bin .add (.t 41) (.t 42), 0, none⟩, ⟨4, (some 44), .mv (.t 7), 0, none⟩, ⟨5, (some 45), .mv (.t 9), 0, none⟩, ⟨6, (some 46), .mv (.t 11), 0, none⟩, ⟨7, (some 47), .bin .add (.t 45) (.t 46), 0, none⟩, ⟨8, (some 48), .iaddr none 1 (.t 44) (.t 47), 0, none⟩, ⟨10, (some 50), .mv (.t 2), 0, none⟩, ⟨11, (some 51), .mv (.t 10), 0, none⟩, ⟨12, (some 52), .bin .sub (.t 50) (.t 51), 0, none⟩, ⟨13, (some 53), .mv (.t 8), 0, none⟩, ⟨14, (some 54), .mv (.t 11), 0, none⟩, ⟨15, (some 55), .iaddr none 1 (.t 53) (.t 54), 0, none⟩, ⟨19, (some 59), .mv (.t 2), 0, none⟩, ⟨9, (some 49), .load none (.t 48), 0, none⟩, ⟨16, (some 56), .load none (.t 55), 0, none⟩, ⟨17, (some 57), .bin .mul (.t 52) (.t 56), 0, none⟩, ⟨18, (some 58), .bin .add (.t 49) (.t 57), 0, none⟩, ⟨20, (some 60), .bin .rem (.t 58) (.t 59), 0, none⟩, ⟨21, (some 61), .iaddr none 1 (.t 40) (.t 43), 0, none⟩, ⟨22, none, .store 1 (.t 61) (.t 60), 0, none⟩] [2, 7, 8, 9, 10, 11]))
                (.reg false [⟨0, (some 38), .mv (.t 11), 0, none⟩, ⟨1, (some 39), .bin .add (.t 38) (.c (.int .i64 (1))), 0, none⟩, ⟨2, (some 11), .mv (.t 39), 0, none⟩] [2, 7, 8, 9, 10, 11]))))))
           (.blk 4
            (.loop [2, 7, 8]
             (.seq
              (.seq
               (.reg false [⟨0, (some 62), .mv (.t 7), 0, none⟩, ⟨1, (some 63), .len none (.t 62), 0, none⟩, ⟨2, (some 64), .bin .gtr (.t 63) (.c (.int .i64 (0))), 0, none⟩, ⟨3, (some 65), .mv (.t 64), 0, none⟩, ⟨4, (some 66), .mv (.t 7), 0, (some (65, true))⟩, ⟨5, (some 67), .mv (.t 7), 0, (some (65, true))⟩, ⟨6, (some 68), .len none (.t 67), 0, (some (65, true))⟩, ⟨7, (some 69), .bin .sub (.t 68) (.c (.int .i64 (1))), 0, (some (65, true))⟩, ⟨8, (some 70), .iaddr none 1 (.t 66) (.t 69), 0, (some (65, true))⟩, ⟨9, (some 71), .load none (.t 70), 0, (some (65, true))⟩, ⟨10, (some 72), .bin .eql (.t 71) (.c (.int .i64 (0))), 0, (some (65, true))⟩, ⟨11, (some 73), .pick (.t 65) (.t 72) (.c (.bool false)), 0, none⟩] [2, 7, 8, 73])
               (.cond (.t 73)
                (.skip)
                (.exit 4)))
              (.blk 5
               (.reg false [⟨0, (some 74), .mv (.t 7), 0, none⟩, ⟨1, (some 75), .mv (.t 7), 0, none⟩, ⟨2, (some 76), .len none (.t 75), 0, none⟩, ⟨3, (some 77), .bin .sub (.t 76) (.c (.int .i64 (1))), 0, none⟩, ⟨4, (some 78), .slc none 1 (.t 74) none (some (.t 77)) none, 0, none⟩, ⟨5, (some 7), .mv (.t 78), 0, none⟩] [2, 7, 8]))))))))))))
    (.seq
     (.reg false [⟨0, (some 79), .mv (.t 7), 0, none⟩, ⟨1, (some 80), .mv (.t 2), 0, none⟩, ⟨2, (some 81), .call 116 [.t 79, .t 80], 2, none⟩, ⟨3, (some 6), .mv (.t 81), 0, none⟩] [6])
     (.ret))))

theorem ok85 : okF Tryz.prog 85 3 c85 [.tmp 6] = true := by kernel_rfl

/-- (dauber/dauberref02.Field).Scale -/
def c86 : C :=
 .seq
  (.reg false [⟨0, (some 3), .box 4 (.t 0), 0, none⟩, ⟨1, (some 6), .mv (.c (.nils)), 0, none⟩] [1, 2, 3])
  (.seq
   (.reg false [⟨0, (some 7), .nilo 1, 0, none⟩] [1, 2, 3, 7])
   (.seq
    (.seq
     (.reg false [⟨0, (some 8), .mv (.c (.int .i64 (0))), 0, none⟩] [1, 2, 3, 7, 8])
     (.blk 0
      (.loop [1, 2, 3, 7, 8]
       (.seq
        (.seq
         (.reg false [⟨0, (some 9), .mv (.t 8), 0, none⟩, ⟨1, (some 10), .mv (.t 1), 0, none⟩, ⟨2, (some 11), .len none (.t 10), 0, none⟩, ⟨3, (some 12), .bin .lss (.t 9) (.t 11), 0, none⟩] [1, 2, 3, 7, 8, 12])
         (.cond (.t 12)
          (.skip)
          (.exit 0)))
        (.seq
         (.blk 1
          (.reg true [⟨0, (some 15), .mv (.t 7), 0, none⟩, ⟨2, (some 17), .mv (.t 1), 0, none⟩, ⟨3, (some 18), .mv (.t 8), 0, none⟩, ⟨4, (some 19), .iaddr none 1 (.t 17) (.t 18), 0, none⟩, ⟨6, (some 21), .mv (.t 2), 0, none⟩, ⟨1, (some 16), .load (some 4) (.t 3), 0, none⟩, ⟨5, (some 20), .load none (.t 19), 0, none⟩, ⟨7, (some 22), .call 117 [.t 16, .t 20, .t 21], 2, none⟩, ⟨8, (some 23), .bsl 1 1 [.int .i64 (0)] [(0, 1, .t 22)], 0, none⟩, ⟨9, (some 24), .app 1 8 (.t 15) (.t 23), 0, none⟩, ⟨10, (some 7), .mv (.t 24), 0, none⟩] [1, 2, 3, 7, 8]))
         (.reg false [⟨0, (some 13), .mv (.t 8), 0, none⟩, ⟨1, (some 14), .bin .add (.t 13) (.c (.int .i64 (1))), 0, none⟩, ⟨2, (some 8), .mv (.t 14), 0, none⟩] [1, 2, 3, 7, 8]))))))
    (.seq
     (.reg false [⟨0, (some 25), .mv (.t 7), 0, none⟩, ⟨1, (some 26), .call 92 [.t 25], 2, none⟩, ⟨2, (some 6), .mv (.t 26), 0, none⟩] [6])
     (.ret))))

theorem ok86 : okF Tryz.prog 86 3 c86 [.tmp 6] = true := by kernel_rfl

/-- (dauber/dauberref02.Field).Product -/
def c87 : C :=
 .seq
  (.reg false [⟨0, (some 3), .box 4 (.t 0), 0, none⟩, ⟨1, (some 6), .mv (.c (.nils)), 0, none⟩] [1, 2, 3])
  (.seq
   (.seq
    (.reg false [⟨0, (some 10), .mv (.t 1), 0, none⟩, ⟨1, (some 11), .len none (.t 10), 0, none⟩, ⟨2, (some 12), .bin .eql (.t 11) (.c (.int .i64 (0))), 0, none⟩, ⟨3, (some 13), .mv (.t 12), 0, none⟩, ⟨4, (some 14), .mv (.t 2), 0, (some (13, false))⟩, ⟨5, (some 15), .len none (.t 14), 0, (some (13, false))⟩, ⟨6, (some 16), .bin .eql (.t 15) (.c (.int .i64 (0))), 0, (some (13, false))⟩, ⟨7, (some 17), .pick (.t 13) (.c (.bool true)) (.t 16), 0, none⟩] [1, 2, 3, 17])
    (.cond (.t 17)
     (.seq
      (.reg false [⟨0, (some 6), .mv (.c (.nils)), 0, none⟩] [6])
      (.ret))
     (.skip)))
   (.seq
    (.reg false [⟨0, (some 18), .mv (.t 1), 0, none⟩, ⟨1, (some 19), .len none (.t 18), 0, none⟩, ⟨2, (some 20), .mv (.t 2), 0, none⟩, ⟨3, (some 21), .len none (.t 20), 0, none⟩, ⟨4, (some 22), .bin .add (.t 19) (.t 21), 0, none⟩, ⟨5, (some 23), .bin .sub (.t 22) (.c (.int .i64 (1))), 0, none⟩, ⟨6, (some 24), .mksl 1 8 [.int .i64 (0)] (.t 23) (.t 23), 0, none⟩, ⟨7, (some 7), .mv (.t 24), 0, none⟩] [1, 2, 3, 7])
    (.seq
     (.seq
      (.reg false [⟨0, (some 8), .mv (.c (.int .i64 (0))), 0, none⟩] [1, 2, 3, 7, 8])
      (.blk 0
       (.loop [1, 2, 3, 7, 8]
        (.seq
         (.seq
          (.reg false [⟨0, (some 25), .mv (.t 8), 0, none⟩, ⟨1, (some 26), .mv (.t 1), 0, none⟩, ⟨2, (some 27), .len none (.t 26), 0, none⟩, ⟨3, (some 28), .bin .lss (.t 25) (.t 27), 0, none⟩] [1, 2, 3, 7, 8, 28])
          (.cond (.t 28)
           (.skip)
           (.exit 0)))
         (.seq
          (.blk 1
           (.seq
            (.reg false [⟨0, (some 9), .mv (.c (.int .i64 (0))), 0, none⟩] [1, 2, 3, 7, 8, 9])
            (.blk 2
             (.loop [1, 2, 3, 7, 8, 9]
              (.seq
               (.seq
                (.reg false [⟨0, (some 31), .mv (.t 9), 0, none⟩, ⟨1, (some 32), .mv (.t 2), 0, none⟩, ⟨2, (some 33), .len none (.t 32), 0, none⟩, ⟨3, (some 34), .bin .lss (.t 31) (.t 33), 0, none⟩] [1, 2, 3, 7, 8, 9, 34])
                (.cond (.t 34)
                 (.skip)
                 (.exit 2)))
               (.seq
                (.blk 3
                 (.reg true [⟨0, (some 37), .mv (.t 7), 0, none⟩, ⟨1, (some 38), .mv (.t 8), 0, none⟩, ⟨2, (some 39), .mv (.t 9), 0, none⟩, ⟨3, (some 40), .bin .add (.t 38) (.t 39), 0, none⟩, ⟨5, (some 42), .mv (.t 7), 0, none⟩, ⟨6, (some 43), .mv (.t 8), 0, none⟩, ⟨7, (some 44), .mv (.t 9), 0, none⟩, ⟨8, (some 45), .bin .add (.t 43) (.t 44), 0, none⟩, ⟨9, (some 46), .iaddr none 1 (.t 42) (.t 45), 0, none⟩, ⟨12, (some 49), .mv (.t 1), 0, none⟩, ⟨13, (some 50), .mv (.t 8), 0, none⟩, ⟨14, (some 51), .iaddr none 1 (.t 49) (.t 50), 0, none⟩, ⟨16, (some 53), .mv (.t 2), 0, none⟩, ⟨17, (some 54), .mv (.t 9), 0, none⟩, ⟨18, (some 55), .iaddr none 1 (.t 53) (.t 54), 0, none⟩, ⟨4, (some 41), .load (some 4) (.t 3), 0, none⟩, ⟨10, (some 47), .load none (.t 46), 0, none⟩, ⟨11, (some 48), .load (some 4) (.t 3), 0, none⟩, ⟨15, (some 52), .load none (.t 51), 0, none⟩, ⟨19, (some 56), .load none (.t 55), 0, none⟩, ⟨20, (some 57), .call 117 [.t 48, .t 52, .t 56], 1, none⟩, ⟨21, (some 58), .call 118 [.t 41, .t 47, .t 57], 1, none⟩, ⟨22, (some 59), .iaddr none 1 (.t 37) (.t 40), 0, none⟩, ⟨23, none, .store 1 (.t 59) (.t 58), 0, none⟩] [1, 2, 3, 7, 8, 9]))
                (.reg false [⟨0, (some 35), .mv (.t 9), 0, none⟩, ⟨1, (some 36), .bin .add (.t 35) (.c (.int .i64 (1))), 0, none⟩, ⟨2, (some 9), .mv (.t 36), 0, none⟩] [1, 2, 3, 7, 8, 9])))))))
          (.reg false [⟨0, (some 29), .mv (.t 8), 0, none⟩, ⟨1, (some 30), .bin .add (.t 29) (.c (.int .i64 (1))), 0, none⟩, ⟨2, (some 8), .mv (.t 30), 0, none⟩] [1, 2, 3, 7, 8]))))))
     (.seq
      (.reg false [⟨0, (some 60), .mv (.t 7), 0, none⟩, ⟨1, (some 6), .mv (.t 60), 0, none⟩] [6])
      (.ret)))))

theorem ok87 : okF Tryz.prog 87 3 c87 [.tmp 6] = true := by kernel_rfl

/-- (dauber/dauberref02.Field).Neg -/
def c88 : C :=
 .seq
  (.reg false [⟨0, (some 2), .box 4 (.t 0), 0, none⟩, ⟨1, (some 4), .mv (.c (.int .i64 (0))), 0, none⟩] [1, 2])
  (.seq
   (.reg false [⟨0, (some 5), .mv (.c (.int .i64 (0))), 0, none⟩, ⟨1, (some 6), .mv (.c (.int .i64 (1))), 0, none⟩] [1, 2, 5, 6])
   (.seq
    (.blk 0
     (.loop [1, 2, 5, 6]
      (.seq
       (.seq
        (.reg false [⟨0, (some 7), .mv (.t 1), 0, none⟩, ⟨1, (some 8), .bin .gtr (.t 7) (.c (.int .i64 (0))), 0, none⟩] [1, 2, 5, 6, 8])
        (.cond (.t 8)
         (.skip)
         (.exit 0)))
       (.seq
        (.blk 1
         (.seq
          (.reg true [⟨0, (some 13), .mv (.t 5), 0, none⟩, ⟨1, (some 14), .faddr 1 (.t 2), 0, none⟩, ⟨3, (some 16), .mv (.t 1), 0, none⟩, ⟨4, (some 17), .faddr 1 (.t 2), 0, none⟩, ⟨8, (some 21), .faddr 1 (.t 2), 0, none⟩, ⟨11, (some 24), .mv (.t 6), 0, none⟩, ⟨2, (some 15), .load none (.t 14), 0, none⟩, ⟨5, (some 18), .load none (.t 17), 0, none⟩, ⟨6, (some 19), .bin .rem (.t 16) (.t 18), 0, none⟩, ⟨7, (some 20), .bin .sub (.t 15) (.t 19), 0, none⟩, ⟨9, (some 22), .load none (.t 21), 0, none⟩, ⟨10, (some 23), .bin .rem (.t 20) (.t 22), 0, none⟩, ⟨12, (some 25), .bin .mul (.t 23) (.t 24), 0, none⟩, ⟨13, (some 26), .bin .add (.t 13) (.t 25), 0, none⟩, ⟨14, (some 5), .mv (.t 26), 0, none⟩] [1, 2, 5, 6])
          (.reg false [⟨0, (some 27), .mv (.t 1), 0, none⟩, ⟨1, (some 28), .faddr 1 (.t 2), 0, none⟩, ⟨2, (some 29), .load none (.t 28), 0, none⟩, ⟨3, (some 30), .bin .quo (.t 27) (.t 29), 0, none⟩, ⟨4, (some 1), .mv (.t 30), 0, none⟩] [1, 2, 5, 6])))
        (.reg false [⟨0, (some 9), .mv (.t 6), 0, none⟩, ⟨1, (some 10), .faddr 1 (.t 2), 0, none⟩, ⟨2, (some 11), .load none (.t 10), 0, none⟩, ⟨3, (some 12), .bin .mul (.t 9) (.t 11), 0, none⟩, ⟨4, (some 6), .mv (.t 12), 0, none⟩] [1, 2, 5, 6])))))
    (.seq
     (.reg false [⟨0, (some 31), .mv (.t 5), 0, none⟩, ⟨1, (some 4), .mv (.t 31), 0, none⟩] [4])
     (.ret))))

theorem ok88 : okF Tryz.prog 88 2 c88 [.tmp 4] = true := by kernel_rfl

/-- (dauber/dauberref02.Field).Inverse -/
def c89 : C :=
 .seq
  (.reg false [⟨0, (some 2), .box 4 (.t 0), 0, none⟩, ⟨1, (some 4), .mv (.c (.int .i64 (0))), 0, none⟩] [1, 2])
  (.seq
   (.reg false [⟨0, (some 5), .load (some 4) (.t 2), 0, none⟩, ⟨1, (some 6), .mv (.t 1), 0, none⟩, ⟨2, (some 7), .faddr 0 (.t 2), 0, none⟩, ⟨3, (some 8), .load none (.t 7), 0, none⟩, ⟨4, (some 9), .bin .sub (.t 8) (.c (.int .i64 (2))), 0, none⟩, ⟨5, (some 10), .call 119 [.t 5, .t 6, .t 9], 2, none⟩, ⟨6, (some 4), .mv (.t 10), 0, none⟩] [4])
   (.ret))

theorem ok89 : okF Tryz.prog 89 2 c89 [.tmp 4] = true := by kernel_rfl

/-- (dauber/dauberref02.Field).Sub -/
def c90 : C :=
 .seq
  (.reg false [⟨0, (some 3), .box 4 (.t 0), 0, none⟩, ⟨1, (some 6), .mv (.c (.int .i64 (0))), 0, none⟩] [1, 2, 3])
  (.seq
   (.reg true [⟨1, (some 8), .mv (.t 1), 0, none⟩, ⟨3, (some 10), .mv (.t 2), 0, none⟩, ⟨0, (some 7), .load (some 4) (.t 3), 0, none⟩, ⟨2, (some 9), .load (some 4) (.t 3), 0, none⟩, ⟨4, (some 11), .call 88 [.t 9, .t 10], 1, none⟩, ⟨5, (some 12), .call 118 [.t 7, .t 8, .t 11], 1, none⟩, ⟨6, (some 6), .mv (.t 12), 0, none⟩] [6])
   (.ret))

theorem ok90 : okF Tryz.prog 90 3 c90 [.tmp 6] = true := by kernel_rfl

/-- (dauber/dauberref02.Field).Sum -/
def c91 : C :=
 .seq
  (.reg false [⟨0, (some 3), .box 4 (.t 0), 0, none⟩, ⟨1, (some 6), .mv (.c (.nils)), 0, none⟩] [1, 2, 3])
  (.seq
   (.reg false [⟨0, (some 7), .nilo 1, 0, none⟩] [1, 2, 3, 7])
   (.seq
    (.seq
     (.reg false [⟨0, (some 8), .mv (.c (.int .i64 (0))), 0, none⟩] [1, 2, 3, 7, 8])
     (.blk 0
      (.loop [1, 2, 3, 7, 8]
       (.seq
        (.seq
         (.reg false [⟨0, (some 10), .mv (.t 8), 0, none⟩, ⟨1, (some 11), .mv (.t 1), 0, none⟩, ⟨2, (some 12), .len none (.t 11), 0, none⟩, ⟨3, (some 13), .bin .lss (.t 10) (.t 12), 0, none⟩, ⟨4, (some 14), .mv (.t 13), 0, none⟩, ⟨5, (some 15), .mv (.t 8), 0, (some (14, false))⟩, ⟨6, (some 16), .mv (.t 2), 0, (some (14, false))⟩, ⟨7, (some 17), .len none (.t 16), 0, (some (14, false))⟩, ⟨8, (some 18), .bin .lss (.t 15) (.t 17), 0, (some (14, false))⟩, ⟨9, (some 19), .pick (.t 14) (.c (.bool true)) (.t 18), 0, none⟩] [1, 2, 3, 7, 8, 19])
         (.cond (.t 19)
          (.skip)
          (.exit 0)))
        (.seq
         (.blk 1
          (.seq
           (.reg false [⟨0, (some 9), .mv (.c (.int .i64 (0))), 0, none⟩] [1, 2, 3, 7, 8, 9])
           (.seq
            (.seq
             (.reg false [⟨0, (some 22), .mv (.t 8), 0, none⟩, ⟨1, (some 23), .mv (.t 1), 0, none⟩, ⟨2, (some 24), .len none (.t 23), 0, none⟩, ⟨3, (some 25), .bin .lss (.t 22) (.t 24), 0, none⟩] [1, 2, 3, 7, 8, 9, 25])
             (.cond (.t 25)
              (.reg false [⟨0, (some 26), .mv (.t 1), 0, none⟩, ⟨1, (some 27), .mv (.t 8), 0, none⟩, ⟨2, (some 28), .iaddr none 1 (.t 26) (.t 27), 0, none⟩, ⟨3, (some 29), .load none (.t 28), 0, none⟩, ⟨4, (some 9), .mv (.t 29), 0, none⟩] [1, 2, 3, 7, 8, 9])
              (.skip)))
            (.seq
             (.seq
              (.reg false [⟨0, (some 30), .mv (.t 8), 0, none⟩, ⟨1, (some 31), .mv (.t 2), 0, none⟩, ⟨2, (some 32), .len none (.t 31), 0, none⟩, ⟨3, (some 33), .bin .lss (.t 30) (.t 32), 0, none⟩] [1, 2, 3, 7, 8, 9, 33])
              (.cond (.t 33)
               (.reg true [⟨1, (some 35), .mv (.t 9), 0, none⟩, ⟨2, (some 36), .mv (.t 2), 0, none⟩, ⟨3, (some 37), .mv (.t 8), 0, none⟩, ⟨4, (some 38), .iaddr none 1 (.t 36) (.t 37), 0, none⟩, ⟨0, (some 34), .load (some 4) (.t 3), 0, none⟩, ⟨5, (some 39), .load none (.t 38), 0, none⟩, ⟨6, (some 40), .call 118 [.t 34, .t 35, .t 39], 2, none⟩, ⟨7, (some 9), .mv (.t 40), 0, none⟩] [1, 2, 3, 7, 8, 9])
               (.skip)))
             (.reg false [⟨0, (some 41), .mv (.t 7), 0, none⟩, ⟨1, (some 42), .mv (.t 9), 0, none⟩, ⟨2, (some 43), .bsl 1 1 [.int .i64 (0)] [(0, 1, .t 42)], 0, none⟩, ⟨3, (some 44), .app 1 8 (.t 41) (.t 43), 0, none⟩, ⟨4, (some 7), .mv (.t 44), 0, none⟩] [1, 2, 3, 7, 8])))))
         (.reg false [⟨0, (some 20), .mv (.t 8), 0, none⟩, ⟨1, (some 21), .bin .add (.t 20) (.c (.int .i64 (1))), 0, none⟩, ⟨2, (some 8), .mv (.t 21), 0, none⟩] [1, 2, 3, 7, 8]))))))
    (.seq
     (.reg false [⟨0, (some 45), .mv (.t 7), 0, none⟩, ⟨1, (some 46), .call 92 [.t 45], 2, none⟩, ⟨2, (some 6), .mv (.t 46), 0, none⟩] [6])
     (.ret))))

theorem ok91 : okF Tryz.prog 91 3 c91 [.tmp 6] = true := by kernel_rfl

/-- dauber/dauberref02.Trim -/
def c92 : C :=
 .seq
  (.reg false [⟨0, (some 2), .mv (.c (.nils)), 0, none⟩] [0])
  (.seq
   (.blk 0
    (.loop [0]
     (.seq
      (.seq
       (.reg false [⟨0, (some 3), .mv (.t 0), 0, none⟩, ⟨1, (some 4), .len none (.t 3), 0, none⟩, ⟨2, (some 5), .bin .gtr (.t 4) (.c (.int .i64 (0))), 0, none⟩, ⟨3, (some 6), .mv (.t 5), 0, none⟩, ⟨4, (some 7), .mv (.t 0), 0, (some (6, true))⟩, ⟨5, (some 8), .mv (.t 0), 0, (some (6, true))⟩, ⟨6, (some 9), .len none (.t 8), 0, (some (6, true))⟩, ⟨7, (some 10), .bin .sub (.t 9) (.c (.int .i64 (1))), 0, (some (6, true))⟩, ⟨8, (some 11), .iaddr none 1 (.t 7) (.t 10), 0, (some (6, true))⟩, ⟨9, (some 12), .load none (.t 11), 0, (some (6, true))⟩, ⟨10, (some 13), .bin .eql (.t 12) (.c (.int .i64 (0))), 0, (some (6, true))⟩, ⟨11, (some 14), .pick (.t 6) (.t 13) (.c (.bool false)), 0, none⟩] [0, 14])
       (.cond (.t 14)
        (.skip)
        (.exit 0)))
      (.blk 1
       (.reg false [⟨0, (some 15), .mv (.t 0), 0, none⟩, ⟨1, (some 16), .mv (.t 0), 0, none⟩, ⟨2, (some 17), .len none (.t 16), 0, none⟩, ⟨3, (some 18), .bin .sub (.t 17) (.c (.int .i64 (1))), 0, none⟩, ⟨4, (some 19), .slc none 1 (.t 15) none (some (.t 18)) none, 0, none⟩, ⟨5, (some 0), .mv (.t 19), 0, none⟩] [0])))))
   (.seq
    (.reg false [⟨0, (some 20), .mv (.t 0), 0, none⟩, ⟨1, (some 2), .mv (.t 20), 0, none⟩] [2])
    (.ret)))

theorem ok92 : okF Tryz.prog 92 1 c92 [.tmp 2] = true := by kernel_rfl

/-- slices.ContainsFunc[[]int64,int64] -/
def c93 : C :=
 .seq
  (.reg false [⟨0, (some 4), .mv (.c (.bool false)), 0, none⟩] [0, 1])
  (.seq
   (.reg false [⟨0, (some 5), .mv (.t 0), 0, none⟩, ⟨1, (some 6), .mv (.t 1), 0, none⟩, ⟨2, (some 7), .call 120 [.t 5, .t 6], 2, none⟩, ⟨3, (some 8), .bin .geq (.t 7) (.c (.int .i64 (0))), 0, none⟩, ⟨4, (some 4), .mv (.t 8), 0, none⟩] [4])
   (.ret))

theorem ok93 : okF Tryz.prog 93 2 c93 [.tmp 4] = true := by kernel_rfl

/-- (dauber/share.Group).has$1 -/
def c94 : C :=
 .seq
  (.reg false [⟨0, (some 3), .mv (.c (.bool false)), 0, none⟩] [0, 1])
  (.seq
   (.reg true [⟨2, (some 6), .mv (.t 0), 0, none⟩, ⟨3, (some 7), .faddr 1 (.t 1), 0, none⟩, ⟨0, (some 4), .load (some 3) (.t 1), 0, none⟩, ⟨4, (some 8), .load none (.t 7), 0, none⟩, ⟨1, (some 5), .call 67 [.t 4], 1, none⟩, ⟨5, (some 9), .call 68 [.t 5, .t 6, .t 8], 1, none⟩, ⟨6, (some 10), .bin .neq (.t 9) (.c (.int .i64 (1))), 0, none⟩, ⟨7, (some 3), .mv (.t 10), 0, none⟩] [3])
   (.ret))

theorem ok94 : okF Tryz.prog 94 2 c94 [.tmp 3] = true := by kernel_rfl

/-- dauber/share.in$1 -/
def c95 : C :=
 .seq
  (.reg false [⟨0, (some 4), .mv (.c (.bool false)), 0, none⟩] [0, 1, 2])
  (.seq
   (.reg false [⟨0, (some 5), .mv (.t 0), 0, none⟩, ⟨1, (some 6), .load none (.t 1), 0, none⟩, ⟨2, (some 7), .bin .lss (.t 5) (.t 6), 0, none⟩, ⟨3, (some 8), .mv (.t 7), 0, none⟩, ⟨4, (some 9), .mv (.t 0), 0, (some (8, false))⟩, ⟨5, (some 10), .load none (.t 2), 0, (some (8, false))⟩, ⟨6, (some 11), .bin .gtr (.t 9) (.t 10), 0, (some (8, false))⟩, ⟨7, (some 12), .pick (.t 8) (.c (.bool true)) (.t 11), 0, none⟩, ⟨8, (some 4), .mv (.t 12), 0, none⟩] [4])
   (.ret))

theorem ok95 : okF Tryz.prog 95 3 c95 [.tmp 4] = true := by kernel_rfl

/-- dauber/share.power[int64] -/
def c96 : C :=
 .seq
  (.reg false [⟨0, (some 8), .mv (.c (.int .i64 (0))), 0, none⟩] [0, 1, 2, 3])
  (.seq
   (.reg false [⟨0, (some 10), .mv (.t 1), 0, none⟩, ⟨1, (some 9), .mv (.t 10), 0, none⟩] [0, 2, 3, 9])
   (.seq
    (.blk 0
     (.loop [0, 2, 3, 9]
      (.seq
       (.seq
        (.reg false [⟨0, (some 11), .mv (.t 3), 0, none⟩, ⟨1, (some 12), .bin .gtr (.t 11) (.c (.int .i64 (0))), 0, none⟩] [0, 2, 3, 9, 12])
        (.cond (.t 12)
         (.skip)
         (.exit 0)))
       (.seq
        (.blk 1
         (.seq
          (.seq
           (.reg false [⟨0, (some 15), .mv (.t 3), 0, none⟩, ⟨1, (some 16), .bin .rem (.t 15) (.c (.int .i64 (2))), 0, none⟩, ⟨2, (some 17), .bin .eql (.t 16) (.c (.int .i64 (1))), 0, none⟩] [0, 2, 3, 9, 17])
           (.cond (.t 17)
            (.reg false [⟨0, (some 18), .mv (.t 0), 0, none⟩, ⟨1, (some 19), .mv (.t 9), 0, none⟩, ⟨2, (some 20), .mv (.t 2), 0, none⟩, ⟨3, (some 21), .callv (.t 18) [.t 19, .t 20], 2, none⟩, ⟨4, (some 9), .mv (.t 21), 0, none⟩] [0, 2, 3, 9])
            (.skip)))
          (.reg false [⟨0, (some 22), .mv (.t 0), 0, none⟩, ⟨1, (some 23), .mv (.t 2), 0, none⟩, ⟨2, (some 24), .mv (.t 2), 0, none⟩, ⟨3, (some 25), .callv (.t 22) [.t 23, .t 24], 2, none⟩, ⟨4, (some 2), .mv (.t 25), 0, none⟩] [0, 2, 3, 9])))
        (.reg false [⟨0, (some 13), .mv (.t 3), 0, none⟩, ⟨1, (some 14), .bin .quo (.t 13) (.c (.int .i64 (2))), 0, none⟩, ⟨2, (some 3), .mv (.t 14), 0, none⟩] [0, 2, 3, 9])))))
    (.seq
     (.reg false [⟨0, (some 26), .mv (.t 9), 0, none⟩, ⟨1, (some 8), .mv (.t 26), 0, none⟩] [8])
     (.ret))))

theorem ok96 : okF Tryz.prog 96 4 c96 [.tmp 8] = true := by kernel_rfl

/-- (dauber/share.modulus).power$1 -/
def c97 : C :=
 .seq
  (.reg false [⟨0, (some 6), .mv (.c (.int .i64 (0))), 0, none⟩] [0, 1, 2, 3])
  (.seq
   (.reg false [⟨0, (some 7), .load none (.t 2), 0, none⟩, ⟨1, (some 8), .load none (.t 3), 0, none⟩, ⟨2, (some 9), .mv (.t 0), 0, none⟩, ⟨3, (some 10), .mv (.t 1), 0, none⟩, ⟨4, (some 11), .callv (.t 7) [.t 8, .t 9, .t 10], 2, none⟩, ⟨5, (some 6), .mv (.t 11), 0, none⟩] [6])
   (.ret))

theorem ok97 : okF Tryz.prog 97 4 c97 [.tmp 6] = true := by kernel_rfl

/-- dauber/code.decoded -/
def c98 : C :=
 .seq
  (.reg false [⟨0, (some 3), .box 3 (.t 0), 0, none⟩, ⟨1, (some 6), .mv (.c (.nils)), 0, none⟩, ⟨2, (some 7), .alloc [.nils, .nils] 2, 0, none⟩, ⟨3, (some 8), .mv (.c (.int .i64 (0))), 0, none⟩] [1, 2, 3, 7])
  (.seq
   (.reg false [⟨0, (some 15), .load (some 3) (.t 3), 0, none⟩, ⟨1, (some 16), .call 99 [.t 15], 2, none⟩, ⟨2, (some 14), .mv (.t 16), 0, none⟩, ⟨3, (some 17), .ext 0 (.t 14), 0, none⟩, ⟨4, (some 18), .ext 1 (.t 14), 0, none⟩, ⟨5, (some 9), .mv (.t 17), 0, none⟩, ⟨6, (some 8), .mv (.t 18), 0, none⟩] [1, 2, 7, 8, 9])
   (.seq
    (.seq
     (.reg false [⟨0, (some 19), .mv (.t 8), 0, none⟩, ⟨1, (some 20), .bin .neq (.t 19) (.c (.int .i64 (0))), 0, none⟩] [1, 2, 7, 8, 9, 20])
     (.cond (.t 20)
      (.seq
       (.reg false [⟨0, (some 21), .build [.nils, .nils] [], 0, none⟩, ⟨1, (some 22), .mv (.t 8), 0, none⟩, ⟨2, (some 6), .mv (.c (.nils)), 0, none⟩, ⟨3, none, .store 2 (.t 7) (.t 21), 0, none⟩, ⟨4, (some 8), .mv (.t 22), 0, none⟩] [6, 7, 8])
       (.ret))
      (.skip)))
    (.seq
     (.seq
      (.reg false [⟨0, (some 23), .mv (.t 9), 0, none⟩, ⟨1, (some 24), .mv (.t 1), 0, none⟩, ⟨2, (some 25), .mv (.t 2), 0, none⟩, ⟨3, (some 26), .call 121 [.t 23, .t 24, .t 25], 2, none⟩, ⟨4, (some 10), .mv (.t 26), 0, none⟩] [1, 2, 7, 9, 10])
      (.seq
       (.reg false [⟨0, (some 27), .mv (.t 10), 0, none⟩, ⟨1, (some 28), .bin .neq (.t 27) (.c (.int .i64 (0))), 0, none⟩] [1, 2, 7, 9, 10, 28])
       (.cond (.t 28)
        (.seq
         (.reg false [⟨0, (some 29), .build [.nils, .nils] [], 0, none⟩, ⟨1, (some 30), .mv (.t 10), 0, none⟩, ⟨2, (some 6), .mv (.c (.nils)), 0, none⟩, ⟨3, none, .store 2 (.t 7) (.t 29), 0, none⟩, ⟨4, (some 8), .mv (.t 30), 0, none⟩] [6, 7, 8])
         (.ret))
        (.skip))))
     (.seq
      (.reg false [⟨0, (some 32), .mv (.t 9), 0, none⟩, ⟨1, (some 33), .mv (.t 1), 0, none⟩, ⟨2, (some 34), .mv (.t 2), 0, none⟩, ⟨3, (some 35), .call 122 [.t 32, .t 33, .t 34], 2, none⟩, ⟨4, (some 31), .mv (.t 35), 0, none⟩, ⟨5, (some 36), .ext 0 (.t 31), 0, none⟩, ⟨6, (some 37), .ext 1 (.t 31), 0, none⟩, ⟨7, (some 11), .mv (.t 36), 0, none⟩, ⟨8, (some 12), .mv (.t 37), 0, none⟩] [1, 2, 7, 9, 11, 12])
      (.seq
       (.reg false [⟨0, (some 39), .mv (.t 9), 0, none⟩, ⟨1, (some 40), .mv (.t 1), 0, none⟩, ⟨2, (some 41), .mv (.t 2), 0, none⟩, ⟨3, (some 42), .mv (.t 11), 0, none⟩, ⟨4, (some 43), .mv (.t 12), 0, none⟩, ⟨5, (some 44), .call 123 [.t 39, .t 40, .t 41, .t 42, .t 43], 2, none⟩, ⟨6, (some 38), .mv (.t 44), 0, none⟩, ⟨7, (some 45), .ext 0 (.t 38), 0, none⟩, ⟨8, (some 46), .ext 1 (.t 38), 0, none⟩, ⟨9, (some 6), .mv (.t 45), 0, none⟩, ⟨10, (some 13), .mv (.t 46), 0, none⟩] [6, 7, 11, 12, 13])
       (.seq
        (.seq
         (.reg false [⟨0, (some 47), .mv (.t 13), 0, none⟩, ⟨1, (some 48), .un .not (.t 47), 0, none⟩] [6, 7, 11, 12, 48])
         (.cond (.t 48)
          (.seq
           (.reg false [⟨0, (some 49), .mv (.t 11), 0, none⟩, ⟨1, (some 50), .mv (.t 12), 0, none⟩, ⟨2, (some 51), .build [.nils, .nils] [(0, 1, .t 49), (1, 1, .t 50)], 0, none⟩, ⟨3, (some 6), .mv (.c (.nils)), 0, none⟩, ⟨4, none, .store 2 (.t 7) (.t 51), 0, none⟩, ⟨5, (some 8), .mv (.c (.int .i64 (30))), 0, none⟩] [6, 7, 8])
           (.ret))
          (.skip)))
        (.seq
         (.reg false [⟨0, (some 52), .mv (.t 6), 0, none⟩, ⟨1, (some 53), .build [.nils, .nils] [], 0, none⟩, ⟨2, (some 6), .mv (.t 52), 0, none⟩, ⟨3, none, .store 2 (.t 7) (.t 53), 0, none⟩, ⟨4, (some 8), .mv (.c (.int .i64 (0))), 0, none⟩] [6, 7, 8])
         (.ret))))))))

theorem ok98 : okF Tryz.prog 98 3 c98 [.tmp 6, .cell (some 2) 7, .tmp 8] = true := by kernel_rfl

/-- dauber/code.open -/
def c99 : C :=
 .seq
  (.reg false [⟨0, (some 1), .box 3 (.t 0), 0, none⟩, ⟨1, (some 2), .mv (.c (.nilp)), 0, none⟩, ⟨2, (some 3), .mv (.c (.int .i64 (0))), 0, none⟩] [1])
  (.seq
   (.reg false [⟨0, (some 7), .faddr 0 (.t 1), 0, none⟩, ⟨1, (some 8), .load none (.t 7), 0, none⟩, ⟨2, (some 9), .call 53 [.t 8], 2, none⟩, ⟨3, (some 6), .mv (.t 9), 0, none⟩, ⟨4, (some 10), .ext 0 (.t 6), 0, none⟩, ⟨5, (some 11), .ext 1 (.t 6), 0, none⟩, ⟨6, (some 4), .mv (.t 10), 0, none⟩, ⟨7, (some 5), .mv (.t 11), 0, none⟩] [1, 4, 5])
   (.seq
    (.seq
     (.reg false [⟨0, (some 12), .mv (.t 5), 0, none⟩, ⟨1, (some 13), .bin .neq (.t 12) (.c (.int .i64 (0))), 0, none⟩] [1, 4, 5, 13])
     (.cond (.t 13)
      (.seq
       (.reg false [⟨0, (some 14), .mv (.t 5), 0, none⟩, ⟨1, (some 2), .mv (.c (.nilp)), 0, none⟩, ⟨2, (some 3), .mv (.t 14), 0, none⟩] [2, 3])
       (.ret))
      (.skip)))
    (.seq
     (.seq
      (.reg false [⟨0, (some 15), .faddr 1 (.t 1), 0, none⟩, ⟨1, (some 16), .load none (.t 15), 0, none⟩, ⟨2, (some 17), .len none (.t 16), 0, none⟩, ⟨3, (some 18), .bin .gtr (.t 17) (.c (.int .i64 (64))), 0, none⟩] [1, 4, 18])
      (.cond (.t 18)
       (.seq
        (.reg false [⟨0, (some 2), .mv (.c (.nilp)), 0, none⟩, ⟨1, (some 3), .mv (.c (.int .i64 (2))), 0, none⟩] [2, 3])
        (.ret))
       (.skip)))
     (.seq
      (.seq
       (.reg false [⟨0, (some 19), .faddr 2 (.t 1), 0, none⟩, ⟨1, (some 20), .load none (.t 19), 0, none⟩, ⟨2, (some 21), .bin .lss (.t 20) (.c (.int .i64 (1))), 0, none⟩, ⟨3, (some 22), .mv (.t 21), 0, none⟩, ⟨4, (some 23), .faddr 2 (.t 1), 0, (some (22, false))⟩, ⟨5, (some 24), .load none (.t 23), 0, (some (22, false))⟩, ⟨6, (some 25), .faddr 1 (.t 1), 0, (some (22, false))⟩, ⟨7, (some 26), .load none (.t 25), 0, (some (22, false))⟩, ⟨8, (some 27), .len none (.t 26), 0, (some (22, false))⟩, ⟨9, (some 28), .bin .gtr (.t 24) (.t 27), 0, (some (22, false))⟩, ⟨10, (some 29), .pick (.t 22) (.c (.bool true)) (.t 28), 0, none⟩, ⟨11, (some 30), .mv (.t 29), 0, none⟩, ⟨12, (some 31), .faddr 0 (.t 1), 0, (some (30, false))⟩, ⟨13, (some 32), .load none (.t 31), 0, (some (30, false))⟩, ⟨14, (some 33), .faddr 1 (.t 1), 0, (some (30, false))⟩, ⟨15, (some 34), .load none (.t 33), 0, (some (30, false))⟩, ⟨16, (some 35), .call 124 [.t 32, .t 34], 2, (some (30, false))⟩, ⟨17, (some 36), .un .not (.t 35), 0, (some (30, false))⟩, ⟨18, (some 37), .pick (.t 30) (.c (.bool true)) (.t 36), 0, none⟩, ⟨19, (some 38), .mv (.t 37), 0, none⟩, ⟨20, (some 39), .faddr 1 (.t 1), 0, (some (38, false))⟩, ⟨21, (some 40), .load none (.t 39), 0, (some (38, false))⟩, ⟨22, (some 41), .call 125 [.t 40], 2, (some (38, false))⟩, ⟨23, (some 42), .un .not (.t 41), 0, (some (38, false))⟩, ⟨24, (some 43), .pick (.t 38) (.c (.bool true)) (.t 42), 0, none⟩] [1, 4, 43])
       (.cond (.t 43)
        (.seq
         (.reg false [⟨0, (some 2), .mv (.c (.nilp)), 0, none⟩, ⟨1, (some 3), .mv (.c (.int .i64 (1))), 0, none⟩] [2, 3])
         (.ret))
        (.skip)))
      (.seq
       (.reg false [⟨0, (some 44), .load (some 3) (.t 1), 0, none⟩, ⟨1, (some 45), .mv (.t 4), 0, none⟩, ⟨2, (some 46), .build [.int .i64 (0), .nils, .int .i64 (0), .nilp] [(0, 3, .t 44), (3, 1, .t 45)], 0, none⟩, ⟨3, (some 47), .box 4 (.t 46), 0, none⟩, ⟨4, (some 2), .mv (.t 47), 0, none⟩, ⟨5, (some 3), .mv (.c (.int .i64 (0))), 0, none⟩] [2, 3])
       (.ret))))))

theorem ok99 : okF Tryz.prog 99 1 c99 [.tmp 2, .tmp 3] = true := by kernel_rfl

/-- (*dauber/code.works).checkWord -/
def c100 : C :=
 .seq
  (.reg false [⟨0, (some 4), .mv (.c (.int .i64 (0))), 0, none⟩] [0, 1])
  (.seq
   (.seq
    (.reg false [⟨0, (some 5), .mv (.t 1), 0, none⟩, ⟨1, (some 6), .len none (.t 5), 0, none⟩, ⟨2, (some 7), .mv (.t 0), 0, none⟩, ⟨3, (some 8), .nilc (.t 7), 0, none⟩, ⟨4, (some 9), .faddr 0 (.t 8), 0, none⟩, ⟨5, (some 10), .faddr 1 (.t 9), 0, none⟩, ⟨6, (some 11), .load none (.t 10), 0, none⟩, ⟨7, (some 12), .len none (.t 11), 0, none⟩, ⟨8, (some 13), .bin .neq (.t 6) (.t 12), 0, none⟩] [0, 1, 13])
    (.cond (.t 13)
     (.seq
      (.reg false [⟨0, (some 4), .mv (.c (.int .i64 (7))), 0, none⟩] [4])
      (.ret))
     (.skip)))
   (.seq
    (.seq
     (.reg false [⟨0, (some 14), .mv (.t 0), 0, none⟩, ⟨1, (some 15), .nilc (.t 14), 0, none⟩, ⟨2, (some 16), .faddr 0 (.t 15), 0, none⟩, ⟨3, (some 17), .faddr 0 (.t 16), 0, none⟩, ⟨4, (some 18), .load none (.t 17), 0, none⟩, ⟨5, (some 19), .mv (.t 1), 0, none⟩, ⟨6, (some 20), .call 124 [.t 18, .t 19], 2, none⟩, ⟨7, (some 21), .un .not (.t 20), 0, none⟩] [21])
     (.cond (.t 21)
      (.seq
       (.reg false [⟨0, (some 4), .mv (.c (.int .i64 (1))), 0, none⟩] [4])
       (.ret))
      (.skip)))
    (.seq
     (.reg false [⟨0, (some 4), .mv (.c (.int .i64 (0))), 0, none⟩] [4])
     (.ret))))

theorem ok100 : okF Tryz.prog 100 2 c100 [.tmp 4] = true := by kernel_rfl

/-- (*dauber/code.works).message -/
def c101 : C :=
 .seq
  (.reg false [⟨0, (some 4), .mv (.c (.nils)), 0, none⟩, ⟨1, (some 5), .mv (.c (.bool false)), 0, none⟩] [0, 1])
  (.seq
   (.reg true [⟨0, (some 9), .mv (.t 0), 0, none⟩, ⟨1, (some 10), .nilc (.t 9), 0, none⟩, ⟨2, (some 11), .faddr 3 (.t 10), 0, none⟩, ⟨4, (some 13), .mv (.t 0), 0, none⟩, ⟨5, (some 14), .nilc (.t 13), 0, none⟩, ⟨6, (some 15), .faddr 0 (.t 14), 0, none⟩, ⟨7, (some 16), .faddr 1 (.t 15), 0, none⟩, ⟨9, (some 18), .mv (.t 1), 0, none⟩, ⟨3, (some 12), .load none (.t 11), 0, none⟩, ⟨8, (some 17), .load none (.t 16), 0, none⟩, ⟨10, (some 19), .call 54 [.t 12, .t 17, .t 18], 2, none⟩, ⟨11, (some 8), .mv (.t 19), 0, none⟩, ⟨12, (some 20), .ext 0 (.t 8), 0, none⟩, ⟨13, (some 21), .ext 1 (.t 8), 0, none⟩, ⟨14, (some 6), .mv (.t 20), 0, none⟩, ⟨15, (some 7), .mv (.t 21), 0, none⟩] [0, 6])
   (.seq
    (.seq
     (.reg false [⟨0, (some 22), .mv (.t 6), 0, none⟩, ⟨1, (some 23), .len none (.t 22), 0, none⟩, ⟨2, (some 24), .mv (.t 0), 0, none⟩, ⟨3, (some 25), .nilc (.t 24), 0, none⟩, ⟨4, (some 26), .faddr 0 (.t 25), 0, none⟩, ⟨5, (some 27), .faddr 2 (.t 26), 0, none⟩, ⟨6, (some 28), .load none (.t 27), 0, none⟩, ⟨7, (some 29), .bin .gtr (.t 23) (.t 28), 0, none⟩] [0, 6, 29])
     (.cond (.t 29)
      (.seq
       (.reg false [⟨0, (some 4), .mv (.c (.nils)), 0, none⟩, ⟨1, (some 5), .mv (.c (.bool false)), 0, none⟩] [4, 5])
       (.ret))
      (.skip)))
    (.seq
     (.reg false [⟨0, (some 30), .mv (.t 6), 0, none⟩, ⟨1, (some 31), .mv (.t 0), 0, none⟩, ⟨2, (some 32), .nilc (.t 31), 0, none⟩, ⟨3, (some 33), .faddr 0 (.t 32), 0, none⟩, ⟨4, (some 34), .faddr 2 (.t 33), 0, none⟩, ⟨5, (some 35), .load none (.t 34), 0, none⟩, ⟨6, (some 36), .mv (.t 6), 0, none⟩, ⟨7, (some 37), .len none (.t 36), 0, none⟩, ⟨8, (some 38), .bin .sub (.t 35) (.t 37), 0, none⟩, ⟨9, (some 39), .appz 1 8 [.int .i64 (0)] (.t 30) (.t 38), 0, none⟩, ⟨10, (some 4), .mv (.t 39), 0, none⟩, ⟨11, (some 5), .mv (.c (.bool true)), 0, none⟩] [4, 5])
     (.ret))))

theorem ok101 : okF Tryz.prog 101 2 c101 [.tmp 4, .tmp 5] = true := by kernel_rfl

/-- slices.ContainsFunc[[]int,int] -/
def c102 : C :=
 .seq
  (.reg false [⟨0, (some 4), .mv (.c (.bool false)), 0, none⟩] [0, 1])
  (.seq
   (.reg false [⟨0, (some 5), .mv (.t 0), 0, none⟩, ⟨1, (some 6), .mv (.t 1), 0, none⟩, ⟨2, (some 7), .call 126 [.t 5, .t 6], 2, none⟩, ⟨3, (some 8), .bin .geq (.t 7) (.c (.int .i64 (0))), 0, none⟩, ⟨4, (some 4), .mv (.t 8), 0, none⟩] [4])
   (.ret))

theorem ok102 : okF Tryz.prog 102 2 c102 [.tmp 4] = true := by kernel_rfl

/-- (*dauber/field.Field).first$1 -/
def c103 : C :=
 .seq
  (.reg false [⟨0, (some 5), .mv (.c (.bool false)), 0, none⟩] [0, 1, 2, 3])
  (.seq
   (.reg true [⟨7, (some 13), .mv (.t 0), 0, none⟩, ⟨0, (some 6), .load none (.t 1), 0, none⟩, ⟨1, (some 7), .load none (.t 2), 0, none⟩, ⟨2, (some 8), .load none (.t 3), 0, none⟩, ⟨3, (some 9), .nilc (.t 8), 0, none⟩, ⟨4, (some 10), .faddr 1 (.t 9), 0, none⟩, ⟨5, (some 11), .load none (.t 10), 0, none⟩, ⟨6, (some 12), .bin .sub (.t 11) (.c (.int .i64 (1))), 0, none⟩, ⟨8, (some 14), .bin .quo (.t 12) (.t 13), 0, none⟩, ⟨9, (some 15), .call 104 [.t 6, .t 7, .t 14], 2, none⟩, ⟨10, (some 16), .bin .eql (.t 15) (.c (.int .i64 (1))), 0, none⟩, ⟨11, (some 5), .mv (.t 16), 0, none⟩] [5])
   (.ret))

theorem ok103 : okF Tryz.prog 103 4 c103 [.tmp 5] = true := by kernel_rfl

/-- dauber/field.power -/
def c104 : C :=
 .seq
  (.reg false [⟨0, (some 6), .mv (.c (.int .i64 (0))), 0, none⟩] [0, 1, 2])
  (.seq
   (.reg false [⟨0, (some 7), .mv (.c (.int .i64 (1))), 0, none⟩] [0, 1, 2, 7])
   (.seq
    (.blk 0
     (.loop [0, 1, 2, 7]
      (.seq
       (.seq
        (.reg false [⟨0, (some 8), .mv (.t 2), 0, none⟩, ⟨1, (some 9), .bin .gtr (.t 8) (.c (.int .i64 (0))), 0, none⟩] [0, 1, 2, 7, 9])
        (.cond (.t 9)
         (.skip)
         (.exit 0)))
       (.seq
        (.blk 1
         (.seq
          (.seq
           (.reg false [⟨0, (some 12), .mv (.t 2), 0, none⟩, ⟨1, (some 13), .bin .rem (.t 12) (.c (.int .i64 (2))), 0, none⟩, ⟨2, (some 14), .bin .eql (.t 13) (.c (.int .i64 (1))), 0, none⟩] [0, 1, 2, 7, 14])
           (.cond (.t 14)
            (.reg false [⟨0, (some 15), .mv (.t 0), 0, none⟩, ⟨1, (some 16), .mv (.t 7), 0, none⟩, ⟨2, (some 17), .mv (.t 1), 0, none⟩, ⟨3, (some 18), .inv "dauber/field.product" (.t 15) [.t 16, .t 17], 2, none⟩, ⟨4, (some 7), .mv (.t 18), 0, none⟩] [0, 1, 2, 7])
            (.skip)))
          (.reg false [⟨0, (some 19), .mv (.t 0), 0, none⟩, ⟨1, (some 20), .mv (.t 1), 0, none⟩, ⟨2, (some 21), .mv (.t 1), 0, none⟩, ⟨3, (some 22), .inv "dauber/field.product" (.t 19) [.t 20, .t 21], 2, none⟩, ⟨4, (some 1), .mv (.t 22), 0, none⟩] [0, 1, 2, 7])))
        (.reg false [⟨0, (some 10), .mv (.t 2), 0, none⟩, ⟨1, (some 11), .bin .quo (.t 10) (.c (.int .i64 (2))), 0, none⟩, ⟨2, (some 2), .mv (.t 11), 0, none⟩] [0, 1, 2, 7])))))
    (.seq
     (.reg false [⟨0, (some 23), .mv (.t 7), 0, none⟩, ⟨1, (some 6), .mv (.t 23), 0, none⟩] [6])
     (.ret))))

theorem ok104 : okF Tryz.prog 104 3 c104 [.tmp 6] = true := by kernel_rfl

/-- dauber/field.digits -/
def c105 : C :=
 .seq
  (.reg false [⟨0, (some 4), .mv (.c (.nils)), 0, none⟩] [0, 1])
  (.seq
   (.reg false [⟨0, (some 5), .nilo 1, 0, none⟩] [0, 1, 5])
   (.seq
    (.blk 0
     (.loop [0, 1, 5]
      (.seq
       (.seq
        (.reg false [⟨0, (some 6), .mv (.t 0), 0, none⟩, ⟨1, (some 7), .bin .gtr (.t 6) (.c (.int .i64 (0))), 0, none⟩] [0, 1, 5, 7])
        (.cond (.t 7)
         (.skip)
         (.exit 0)))
       (.seq
        (.blk 1
         (.reg false [⟨0, (some 11), .mv (.t 5), 0, none⟩, ⟨1, (some 12), .mv (.t 0), 0, none⟩, ⟨2, (some 13), .mv (.t 1), 0, none⟩, ⟨3, (some 14), .bin .rem (.t 12) (.t 13), 0, none⟩, ⟨4, (some 15), .bsl 1 1 [.int .i64 (0)] [(0, 1, .t 14)], 0, none⟩, ⟨5, (some 16), .app 1 8 (.t 11) (.t 15), 0, none⟩, ⟨6, (some 5), .mv (.t 16), 0, none⟩] [0, 1, 5]))
        (.reg false [⟨0, (some 8), .mv (.t 0), 0, none⟩, ⟨1, (some 9), .mv (.t 1), 0, none⟩, ⟨2, (some 10), .bin .quo (.t 8) (.t 9), 0, none⟩, ⟨3, (some 0), .mv (.t 10), 0, none⟩] [0, 1, 5])))))
    (.seq
     (.reg false [⟨0, (some 17), .mv (.t 5), 0, none⟩, ⟨1, (some 4), .mv (.t 17), 0, none⟩] [4])
     (.ret))))

theorem ok105 : okF Tryz.prog 105 2 c105 [.tmp 4] = true := by kernel_rfl

/-- dauber/field.raise -/
def c106 : C :=
 .seq
  (.reg false [⟨0, (some 4), .mv (.c (.int .i64 (0))), 0, none⟩] [0, 1])
  (.seq
   (.reg false [⟨0, (some 5), .mv (.c (.int .i64 (1))), 0, none⟩] [0, 1, 5])
   (.seq
    (.seq
     (.reg false [⟨0, (some 6), .mv (.t 1), 0, none⟩, ⟨1, (some 7), .mv (.c (.int .i64 (0))), 0, none⟩] [0, 5, 6, 7])
     (.blk 0
      (.loop [0, 5, 6, 7]
       (.seq
        (.reg false [⟨0, (some 8), .bin .lss (.t 7) (.t 6), 0, none⟩] [0, 5, 6, 7, 8])
        (.seq
         (.cond (.t 8)
          (.skip)
          (.exit 0))
         (.seq
          (.blk 1
           (.reg false [⟨0, (some 9), .mv (.t 5), 0, none⟩, ⟨1, (some 10), .mv (.t 0), 0, none⟩, ⟨2, (some 11), .bin .mul (.t 9) (.t 10), 0, none⟩, ⟨3, (some 5), .mv (.t 11), 0, none⟩] [0, 5, 6, 7]))
          (.reg false [⟨0, (some 12), .bin .add (.t 7) (.c (.int .i64 (1))), 0, none⟩, ⟨1, (some 7), .mv (.t 12), 0, none⟩] [0, 5, 6, 7])))))))
    (.seq
     (.reg false [⟨0, (some 13), .mv (.t 5), 0, none⟩, ⟨1, (some 4), .mv (.t 13), 0, none⟩] [4])
     (.ret))))

theorem ok106 : okF Tryz.prog 106 2 c106 [.tmp 4] = true := by kernel_rfl

/-- dauber/field.reduced -/
def c107 : C :=
 .seq
  (.reg false [⟨0, (some 6), .mv (.c (.nils)), 0, none⟩] [0, 1, 2])
  (.seq
   (.reg false [⟨0, (some 12), .mv (.t 0), 0, none⟩, ⟨1, (some 13), .call 127 [.t 12], 2, none⟩, ⟨2, (some 0), .mv (.t 13), 0, none⟩] [0, 1, 2])
   (.seq
    (.reg false [⟨0, (some 14), .mv (.t 1), 0, none⟩, ⟨1, (some 15), .len none (.t 14), 0, none⟩, ⟨2, (some 16), .bin .sub (.t 15) (.c (.int .i64 (1))), 0, none⟩, ⟨3, (some 7), .mv (.t 16), 0, none⟩] [0, 1, 2, 7])
    (.seq
     (.seq
      (.reg false [⟨0, (some 17), .mv (.t 0), 0, none⟩, ⟨1, (some 18), .len none (.t 17), 0, none⟩, ⟨2, (some 19), .bin .sub (.t 18) (.c (.int .i64 (1))), 0, none⟩, ⟨3, (some 8), .mv (.t 19), 0, none⟩] [0, 1, 2, 7, 8])
      (.blk 0
       (.loop [0, 1, 2, 7, 8]
        (.seq
         (.seq
          (.reg false [⟨0, (some 20), .mv (.t 8), 0, none⟩, ⟨1, (some 21), .mv (.t 7), 0, none⟩, ⟨2, (some 22), .bin .geq (.t 20) (.t 21), 0, none⟩] [0, 1, 2, 7, 8, 22])
          (.cond (.t 22)
           (.skip)
           (.exit 0)))
         (.seq
          (.blk 1
           (.seq
            (.reg false [⟨0, (some 25), .mv (.t 0), 0, none⟩, ⟨1, (some 26), .mv (.t 8), 0, none⟩, ⟨2, (some 27), .iaddr none 1 (.t 25) (.t 26), 0, none⟩, ⟨3, (some 28), .load none (.t 27), 0, none⟩, ⟨4, (some 9), .mv (.t 28), 0, none⟩] [0, 1, 2, 7, 8, 9])
            (.seq
             (.reg false [⟨0, (some 29), .mv (.t 1), 0, none⟩, ⟨1, (some 30), .len none (.t 29), 0, none⟩, ⟨2, (some 31), .mv (.c (.int .i64 (0))), 0, none⟩] [0, 1, 2, 7, 8, 9, 29, 30, 31])
             (.blk 2
              (.loop [0, 1, 2, 7, 8, 9, 29, 30, 31]
               (.seq
                (.reg false [⟨0, (some 32), .bin .lss (.t 31) (.t 30), 0, none⟩] [0, 1, 2, 7, 8, 9, 29, 30, 31, 32])
                (.seq
                 (.cond (.t 32)
                  (.skip)
                  (.exit 2))
                 (.seq
                  (.blk 3
                   (.seq
                    (.reg false [⟨0, (some 33), .mv (.t 31), 0, none⟩, ⟨1, (some 34), .iaddr none 1 (.t 29) (.t 31), 0, none⟩, ⟨2, (some 35), .load none (.t 34), 0, none⟩, ⟨3, (some 10), .mv (.t 33), 0, none⟩, ⟨4, (some 11), .mv (.t 35), 0, none⟩] [0, 1, 2, 7, 8, 9, 10, 11, 29, 30, 31])
                    (.reg false [⟨0, (some 36), .mv (.t 0), 0, none⟩, ⟨1, (some 37), .mv (.t 8), 0, none⟩, ⟨2, (some 38), .mv (.t 7), 0, none⟩, ⟨3, (some 39), .bin .sub (.t 37) (.t 38), 0, none⟩, ⟨4, (some 40), .mv (.t 10), 0, none⟩, ⟨5, (some 41), .bin .add (.t 39) (.t 40), 0, none⟩, ⟨6, (some 42), .mv (.t 0), 0, none⟩, ⟨7, (some 43), .mv (.t 8), 0, none⟩, ⟨8, (some 44), .mv (.t 7), 0, none⟩, ⟨9, (some 45), .bin .sub (.t 43) (.t 44), 0, none⟩, ⟨10, (some 46), .mv (.t 10), 0, none⟩, ⟨11, (some 47), .bin .add (.t 45) (.t 46), 0, none⟩, ⟨12, (some 48), .iaddr none 1 (.t 42) (.t 47), 0, none⟩, ⟨13, (some 49), .load none (.t 48), 0, none⟩, ⟨14, (some 50), .mv (.t 2), 0, none⟩, ⟨15, (some 51), .mv (.t 9), 0, none⟩, ⟨16, (some 52), .bin .sub (.t 50) (.t 51), 0, none⟩, ⟨17, (some 53), .mv (.t 11), 0, none⟩, ⟨18, (some 54), .bin .mul (.t 52) (.t 53), 0, none⟩, ⟨19, (some 55), .bin .add (.t 49) (.t 54), 0, none⟩, ⟨20, (some 56), .mv (.t 2), 0, none⟩, ⟨21, (some 57), .bin .rem (.t 55) (.t 56), 0, none⟩, ⟨22, (some 58), .iaddr none 1 (.t 36) (.t 41), 0, none⟩, ⟨23, none, .store 1 (.t 58) (.t 57), 0, none⟩] [0, 1, 2, 7, 8, 9, 29, 30, 31])))
                  (.reg false [⟨0, (some 59), .bin .add (.t 31) (.c (.int .i64 (1))), 0, none⟩, ⟨1, (some 31), .mv (.t 59), 0, none⟩] [0, 1, 2, 7, 8, 9, 29, 30, 31])))))))))
          (.reg false [⟨0, (some 23), .mv (.t 8), 0, none⟩, ⟨1, (some 24), .bin .sub (.t 23) (.c (.int .i64 (1))), 0, none⟩, ⟨2, (some 8), .mv (.t 24), 0, none⟩] [0, 1, 2, 7, 8]))))))
     (.seq
      (.reg false [⟨0, (some 60), .mv (.t 0), 0, none⟩, ⟨1, (some 61), .mv (.t 7), 0, none⟩, ⟨2, (some 62), .mv (.t 0), 0, none⟩, ⟨3, (some 63), .len none (.t 62), 0, none⟩, ⟨4, (some 64), .mn [.t 61, .t 63], 0, none⟩, ⟨5, (some 65), .slc none 1 (.t 60) none (some (.t 64)) none, 0, none⟩, ⟨6, (some 6), .mv (.t 65), 0, none⟩] [6])
      (.ret)))))

theorem ok107 : okF Tryz.prog 107 3 c107 [.tmp 6] = true := by kernel_rfl

/-- dauber/field.least$1 -/
def c108 : C :=
 .seq
  (.reg false [⟨0, (some 2), .mv (.c (.bool false)), 0, none⟩] [0])
  (.seq
   (.reg false [⟨0, (some 3), .mv (.t 0), 0, none⟩, ⟨1, (some 4), .bin .neq (.t 3) (.c (.int .i64 (0))), 0, none⟩, ⟨2, (some 2), .mv (.t 4), 0, none⟩] [2])
   (.ret))

theorem ok108 : okF Tryz.prog 108 1 c108 [.tmp 2] = true := by kernel_rfl

/-- dauber/field.newTables$1 -/
def c109 : C :=
 .seq
  (.reg false [⟨0, (some 3), .mv (.c (.int .i64 (0))), 0, none⟩] [0, 1, 2])
  (.seq
   (.reg false [⟨0, (some 5), .load none (.t 0), 0, none⟩, ⟨1, (some 4), .mv (.t 5), 0, none⟩] [0, 1, 2, 4])
   (.seq
    (.reg false [⟨0, (some 6), .load (some 3) (.t 1), 0, none⟩, ⟨1, (some 7), .load none (.t 0), 0, none⟩, ⟨2, (some 8), .load none (.t 2), 0, none⟩, ⟨3, (some 9), .call 110 [.t 6, .t 7, .t 8], 2, none⟩, ⟨4, none, .store 1 (.t 0) (.t 9), 0, none⟩] [4])
    (.seq
     (.reg false [⟨0, (some 10), .mv (.t 4), 0, none⟩, ⟨1, (some 3), .mv (.t 10), 0, none⟩] [3])
     (.ret))))

theorem ok109 : okF Tryz.prog 109 3 c109 [.tmp 3] = true := by kernel_rfl

/-- (dauber/field.slow).product -/
def c110 : C :=
 .seq
  (.reg false [⟨0, (some 3), .box 3 (.t 0), 0, none⟩, ⟨1, (some 6), .mv (.c (.int .i64 (0))), 0, none⟩] [1, 2, 3])
  (.seq
   (.reg true [⟨0, (some 14), .mv (.t 1), 0, none⟩, ⟨1, (some 15), .faddr 0 (.t 3), 0, none⟩, ⟨2, (some 16), .faddr 0 (.t 15), 0, none⟩, ⟨5, (some 19), .mv (.t 2), 0, none⟩, ⟨6, (some 20), .faddr 0 (.t 3), 0, none⟩, ⟨7, (some 21), .faddr 0 (.t 20), 0, none⟩, ⟨3, (some 17), .load none (.t 16), 0, none⟩, ⟨8, (some 22), .load none (.t 21), 0, none⟩, ⟨4, (some 18), .call 105 [.t 14, .t 17], 1, none⟩, ⟨9, (some 23), .call 105 [.t 19, .t 22], 1, none⟩, ⟨10, (some 7), .mv (.t 18), 0, none⟩, ⟨11, (some 8), .mv (.t 23), 0, none⟩] [3, 7, 8])
   (.seq
    (.seq
     (.reg false [⟨0, (some 24), .mv (.t 7), 0, none⟩, ⟨1, (some 25), .len none (.t 24), 0, none⟩, ⟨2, (some 26), .bin .eql (.t 25) (.c (.int .i64 (0))), 0, none⟩, ⟨3, (some 27), .mv (.t 26), 0, none⟩, ⟨4, (some 28), .mv (.t 8), 0, (some (27, false))⟩, ⟨5, (some 29), .len none (.t 28), 0, (some (27, false))⟩, ⟨6, (some 30), .bin .eql (.t 29) (.c (.int .i64 (0))), 0, (some (27, false))⟩, ⟨7, (some 31), .pick (.t 27) (.c (.bool true)) (.t 30), 0, none⟩] [3, 7, 8, 31])
     (.cond (.t 31)
      (.seq
       (.reg false [⟨0, (some 6), .mv (.c (.int .i64 (0))), 0, none⟩] [6])
       (.ret))
      (.skip)))
    (.seq
     (.reg false [⟨0, (some 32), .mv (.t 7), 0, none⟩, ⟨1, (some 33), .len none (.t 32), 0, none⟩, ⟨2, (some 34), .mv (.t 8), 0, none⟩, ⟨3, (some 35), .len none (.t 34), 0, none⟩, ⟨4, (some 36), .bin .add (.t 33) (.t 35), 0, none⟩, ⟨5, (some 37), .bin .sub (.t 36) (.c (.int .i64 (1))), 0, none⟩, ⟨6, (some 38), .mksl 1 8 [.int .i64 (0)] (.t 37) (.t 37), 0, none⟩, ⟨7, (some 9), .mv (.t 38), 0, none⟩] [3, 7, 8, 9])
     (.seq
      (.seq
       (.reg false [⟨0, (some 39), .mv (.t 7), 0, none⟩, ⟨1, (some 40), .len none (.t 39), 0, none⟩, ⟨2, (some 41), .mv (.c (.int .i64 (0))), 0, none⟩] [3, 8, 9, 39, 40, 41])
       (.blk 0
        (.loop [3, 8, 9, 39, 40, 41]
         (.seq
          (.reg false [⟨0, (some 42), .bin .lss (.t 41) (.t 40), 0, none⟩] [3, 8, 9, 39, 40, 41, 42])
          (.seq
           (.cond (.t 42)
            (.skip)
            (.exit 0))
           (.seq
            (.blk 1
             (.seq
              (.reg false [⟨0, (some 43), .mv (.t 41), 0, none⟩, ⟨1, (some 44), .iaddr none 1 (.t 39) (.t 41), 0, none⟩, ⟨2, (some 45), .load none (.t 44), 0, none⟩, ⟨3, (some 10), .mv (.t 43), 0, none⟩, ⟨4, (some 11), .mv (.t 45), 0, none⟩] [3, 8, 9, 10, 11, 39, 40, 41])
              (.seq
               (.reg false [⟨0, (some 46), .mv (.t 8), 0, none⟩, ⟨1, (some 47), .len none (.t 46), 0, none⟩, ⟨2, (some 48), .mv (.c (.int .i64 (0))), 0, none⟩] [3, 8, 9, 10, 11, 39, 40, 41, 46, 47, 48])
               (.blk 2
                (.loop [3, 8, 9, 10, 11, 39, 40, 41, 46, 47, 48]
                 (.seq
                  (.reg false [⟨0, (some 49), .bin .lss (.t 48) (.t 47), 0, none⟩] [3, 8, 9, 10, 11, 39, 40, 41, 46, 47, 48, 49])
                  (.seq
                   (.cond (.t 49)
                    (.skip)
                    (.exit 2))
                   (.seq
                    (.blk 3
                     (.seq
                      (.reg false [⟨0, (some 50), .mv (.t 48), 0, none⟩, ⟨1, (some 51), .iaddr none 1 (.t 46) (.t 48), 0, none⟩, ⟨2, (some 52), .load none (.t 51), 0, none⟩, ⟨3, (some 12), .mv (.t 50), 0, none⟩, ⟨4, (some 13), .mv (.t 52), 0, none⟩] [3, 8, 9, 10, 11, 12, 13, 39, 40, 41, 46, 47, 48])
                      (.reg true [⟨0, (some 53), .mv (.t 9), 0, none⟩, ⟨1, (some 54), .mv (.t 10), 0, none⟩, ⟨2, (some 55), .mv (.t 12), 0, none⟩, ⟨3, (some 56), .bin .add (.t 54) (.t 55), 0, none⟩, ⟨4, (some 57), .mv (.t 9), 0, none⟩, ⟨5, (some 58), .mv (.t 10), 0, none⟩, ⟨6, (some 59), .mv (.t 12), 0, none⟩, ⟨7, (some 60), .bin .add (.t 58) (.t 59), 0, none⟩, ⟨8, (some 61), .iaddr none 1 (.t 57) (.t 60), 0, none⟩, ⟨10, (some 63), .mv (.t 11), 0, none⟩, ⟨11, (some 64), .mv (.t 13), 0, none⟩, ⟨12, (some 65), .bin .mul (.t 63) (.t 64), 0, none⟩, ⟨14, (some 67), .faddr 0 (.t 3), 0, none⟩, ⟨15, (some 68), .faddr 0 (.t 67), 0, none⟩, ⟨9, (some 62), .load none (.t 61), 0, none⟩, ⟨13, (some 66), .bin .add (.t 62) (.t 65), 0, none⟩, ⟨16, (some 69), .load none (.t 68), 0, none⟩, ⟨17, (some 70), .bin .rem (.t 66) (.t 69), 0, none⟩, ⟨18, (some 71), .iaddr none 1 (.t 53) (.t 56), 0, none⟩, ⟨19, none, .store 1 (.t 71) (.t 70), 0, none⟩] [3, 8, 9, 10, 11, 39, 40, 41, 46, 47, 48])))
                    (.reg false [⟨0, (some 72), .bin .add (.t 48) (.c (.int .i64 (1))), 0, none⟩, ⟨1, (some 48), .mv (.t 72), 0, none⟩] [3, 8, 9, 10, 11, 39, 40, 41, 46, 47, 48])))))))))
            (.reg false [⟨0, (some 73), .bin .add (.t 41) (.c (.int .i64 (1))), 0, none⟩, ⟨1, (some 41), .mv (.t 73), 0, none⟩] [3, 8, 9, 39, 40, 41])))))))
      (.seq
       (.reg true [⟨0, (some 74), .mv (.t 9), 0, none⟩, ⟨1, (some 75), .faddr 1 (.t 3), 0, none⟩, ⟨3, (some 77), .faddr 0 (.t 3), 0, none⟩, ⟨4, (some 78), .faddr 0 (.t 77), 0, none⟩, ⟨7, (some 81), .faddr 0 (.t 3), 0, none⟩, ⟨8, (some 82), .faddr 0 (.t 81), 0, none⟩, ⟨2, (some 76), .load none (.t 75), 0, none⟩, ⟨5, (some 79), .load none (.t 78), 0, none⟩, ⟨9, (some 83), .load none (.t 82), 0, none⟩, ⟨6, (some 80), .call 107 [.t 74, .t 76, .t 79], 1, none⟩, ⟨10, (some 84), .call 128 [.t 80, .t 83], 1, none⟩, ⟨11, (some 6), .mv (.t 84), 0, none⟩] [6])
       (.ret))))))

theorem ok110 : okF Tryz.prog 110 3 c110 [.tmp 6] = true := by kernel_rfl

/-- (*dauber/field.Field).areElements$1 -/
def c111 : C :=
 .seq
  (.reg false [⟨0, (some 3), .mv (.c (.bool false)), 0, none⟩] [0, 1])
  (.seq
   (.reg false [⟨0, (some 4), .mv (.t 0), 0, none⟩, ⟨1, (some 5), .bin .lss (.t 4) (.c (.int .i64 (0))), 0, none⟩, ⟨2, (some 6), .mv (.t 5), 0, none⟩, ⟨3, (some 7), .mv (.t 0), 0, (some (6, false))⟩, ⟨4, (some 8), .load none (.t 1), 0, (some (6, false))⟩, ⟨5, (some 9), .nilc (.t 8), 0, (some (6, false))⟩, ⟨6, (some 10), .faddr 1 (.t 9), 0, (some (6, false))⟩, ⟨7, (some 11), .load none (.t 10), 0, (some (6, false))⟩, ⟨8, (some 12), .bin .geq (.t 7) (.t 11), 0, (some (6, false))⟩, ⟨9, (some 13), .pick (.t 6) (.c (.bool true)) (.t 12), 0, none⟩, ⟨10, (some 3), .mv (.t 13), 0, none⟩] [3])
   (.ret))

theorem ok111 : okF Tryz.prog 111 2 c111 [.tmp 3] = true := by kernel_rfl

/-- (*dauber/field.Field).at -/
def c112 : C :=
 .seq
  (.reg false [⟨0, (some 6), .mv (.c (.int .i64 (0))), 0, none⟩] [0, 1, 2])
  (.seq
   (.reg true [⟨0, (some 7), .mv (.t 1), 0, none⟩, ⟨1, (some 8), .mv (.t 2), 0, none⟩, ⟨2, (some 9), .mv (.t 0), 0, none⟩, ⟨3, (some 10), .nilc (.t 9), 0, none⟩, ⟨4, (some 11), .faddr 0 (.t 10), 0, none⟩, ⟨8, (some 15), .mv (.t 0), 0, none⟩, ⟨9, (some 16), .nilc (.t 15), 0, none⟩, ⟨10, (some 17), .faddr 0 (.t 16), 0, none⟩, ⟨5, (some 12), .load none (.t 11), 0, none⟩, ⟨6, (some 13), .nilc (.t 12), 0, none⟩, ⟨7, (some 14), .mkfn (.method "dauber/field.sum") [.t 13] [], 0, none⟩, ⟨11, (some 18), .load none (.t 17), 0, none⟩, ⟨12, (some 19), .nilc (.t 18), 0, none⟩, ⟨13, (some 20), .mkfn (.method "dauber/field.product") [.t 19] [], 0, none⟩, ⟨14, (some 21), .call 129 [.t 7, .t 8, .c (.int .i64 (0)), .t 14, .t 20], 2, none⟩, ⟨15, (some 6), .mv (.t 21), 0, none⟩] [6])
   (.ret))

theorem ok112 : okF Tryz.prog 112 3 c112 [.tmp 6] = true := by kernel_rfl

/-- (*dauber/field.Field).plus -/
def c113 : C :=
 .seq
  (.reg false [⟨0, (some 8), .mv (.c (.nils)), 0, none⟩] [0, 1, 2, 3])
  (.seq
   (.reg false [⟨0, (some 12), .mv (.t 1), 0, none⟩, ⟨1, (some 13), .len none (.t 12), 0, none⟩, ⟨2, (some 14), .mv (.t 3), 0, none⟩, ⟨3, (some 15), .len none (.t 14), 0, none⟩, ⟨4, (some 16), .mx [.t 13, .t 15], 0, none⟩, ⟨5, (some 17), .mksl 1 8 [.int .i64 (0)] (.t 16) (.t 16), 0, none⟩, ⟨6, (some 9), .mv (.t 17), 0, none⟩] [0, 1, 2, 3, 9])
   (.seq
    (.reg false [⟨0, (some 18), .mv (.t 9), 0, none⟩, ⟨1, (some 19), .mv (.t 1), 0, none⟩, ⟨2, (some 20), .cpy 1 (.t 18) (.t 19), 0, none⟩] [0, 2, 3, 9])
    (.seq
     (.seq
      (.reg false [⟨0, (some 21), .mv (.t 3), 0, none⟩, ⟨1, (some 22), .len none (.t 21), 0, none⟩, ⟨2, (some 23), .mv (.c (.int .i64 (0))), 0, none⟩] [0, 2, 9, 21, 22, 23])
      (.blk 0
       (.loop [0, 2, 9, 21, 22, 23]
        (.seq
         (.reg false [⟨0, (some 24), .bin .lss (.t 23) (.t 22), 0, none⟩] [0, 2, 9, 21, 22, 23, 24])
         (.seq
          (.cond (.t 24)
           (.skip)
           (.exit 0))
          (.seq
           (.blk 1
            (.seq
             (.reg false [⟨0, (some 25), .mv (.t 23), 0, none⟩, ⟨1, (some 26), .iaddr none 1 (.t 21) (.t 23), 0, none⟩, ⟨2, (some 27), .load none (.t 26), 0, none⟩, ⟨3, (some 10), .mv (.t 25), 0, none⟩, ⟨4, (some 11), .mv (.t 27), 0, none⟩] [0, 2, 9, 10, 11, 21, 22, 23])
             (.reg true [⟨0, (some 28), .mv (.t 9), 0, none⟩, ⟨1, (some 29), .mv (.t 10), 0, none⟩, ⟨2, (some 30), .mv (.t 0), 0, none⟩, ⟨3, (some 31), .nilc (.t 30), 0, none⟩, ⟨4, (some 32), .faddr 0 (.t 31), 0, none⟩, ⟨6, (some 34), .mv (.t 9), 0, none⟩, ⟨7, (some 35), .mv (.t 10), 0, none⟩, ⟨8, (some 36), .iaddr none 1 (.t 34) (.t 35), 0, none⟩, ⟨10, (some 38), .mv (.t 0), 0, none⟩, ⟨11, (some 39), .nilc (.t 38), 0, none⟩, ⟨12, (some 40), .faddr 0 (.t 39), 0, none⟩, ⟨14, (some 42), .mv (.t 2), 0, none⟩, ⟨15, (some 43), .mv (.t 11), 0, none⟩, ⟨5, (some 33), .load none (.t 32), 0, none⟩, ⟨17, (some 45), .nilc (.t 33), 0, none⟩, ⟨18, (some 46), .mv (.t 33), 0, none⟩, ⟨9, (some 37), .load none (.t 36), 0, none⟩, ⟨13, (some 41), .load none (.t 40), 0, none⟩, ⟨16, (some 44), .inv "dauber/field.product" (.t 41) [.t 42, .t 43], 1, none⟩, ⟨19, (some 47), .inv "dauber/field.sum" (.t 46) [.t 37, .t 44], 1, none⟩, ⟨20, (some 48), .iaddr none 1 (.t 28) (.t 29), 0, none⟩, ⟨21, none, .store 1 (.t 48) (.t 47), 0, none⟩] [0, 2, 9, 21, 22, 23])))
           (.reg false [⟨0, (some 49), .bin .add (.t 23) (.c (.int .i64 (1))), 0, none⟩, ⟨1, (some 23), .mv (.t 49), 0, none⟩] [0, 2, 9, 21, 22, 23])))))))
     (.seq
      (.reg false [⟨0, (some 50), .mv (.t 9), 0, none⟩, ⟨1, (some 51), .call 130 [.t 50], 2, none⟩, ⟨2, (some 8), .mv (.t 51), 0, none⟩] [8])
      (.ret)))))

theorem ok113 : okF Tryz.prog 113 4 c113 [.tmp 8] = true := by kernel_rfl

/-- (*dauber/field.Field).times -/
def c114 : C :=
 .seq
  (.reg false [⟨0, (some 6), .mv (.c (.nils)), 0, none⟩] [0, 1, 2])
  (.seq
   (.seq
    (.reg false [⟨0, (some 12), .mv (.t 1), 0, none⟩, ⟨1, (some 13), .len none (.t 12), 0, none⟩, ⟨2, (some 14), .bin .eql (.t 13) (.c (.int .i64 (0))), 0, none⟩, ⟨3, (some 15), .mv (.t 14), 0, none⟩, ⟨4, (some 16), .mv (.t 2), 0, (some (15, false))⟩, ⟨5, (some 17), .len none (.t 16), 0, (some (15, false))⟩, ⟨6, (some 18), .bin .eql (.t 17) (.c (.int .i64 (0))), 0, (some (15, false))⟩, ⟨7, (some 19), .pick (.t 15) (.c (.bool true)) (.t 18), 0, none⟩] [0, 1, 2, 19])
    (.cond (.t 19)
     (.seq
      (.reg false [⟨0, (some 6), .mv (.c (.nils)), 0, none⟩] [6])
      (.ret))
     (.skip)))
   (.seq
    (.reg false [⟨0, (some 20), .mv (.t 1), 0, none⟩, ⟨1, (some 21), .len none (.t 20), 0, none⟩, ⟨2, (some 22), .mv (.t 2), 0, none⟩, ⟨3, (some 23), .len none (.t 22), 0, none⟩, ⟨4, (some 24), .bin .add (.t 21) (.t 23), 0, none⟩, ⟨5, (some 25), .bin .sub (.t 24) (.c (.int .i64 (1))), 0, none⟩, ⟨6, (some 26), .mksl 1 8 [.int .i64 (0)] (.t 25) (.t 25), 0, none⟩, ⟨7, (some 7), .mv (.t 26), 0, none⟩] [0, 1, 2, 7])
    (.seq
     (.seq
      (.reg false [⟨0, (some 27), .mv (.t 1), 0, none⟩, ⟨1, (some 28), .len none (.t 27), 0, none⟩, ⟨2, (some 29), .mv (.c (.int .i64 (0))), 0, none⟩] [0, 2, 7, 27, 28, 29])
      (.blk 0
       (.loop [0, 2, 7, 27, 28, 29]
        (.seq
         (.reg false [⟨0, (some 30), .bin .lss (.t 29) (.t 28), 0, none⟩] [0, 2, 7, 27, 28, 29, 30])
         (.seq
          (.cond (.t 30)
           (.skip)
           (.exit 0))
          (.seq
           (.blk 1
            (.seq
             (.reg false [⟨0, (some 31), .mv (.t 29), 0, none⟩, ⟨1, (some 32), .iaddr none 1 (.t 27) (.t 29), 0, none⟩, ⟨2, (some 33), .load none (.t 32), 0, none⟩, ⟨3, (some 8), .mv (.t 31), 0, none⟩, ⟨4, (some 9), .mv (.t 33), 0, none⟩] [0, 2, 7, 8, 9, 27, 28, 29])
             (.seq
              (.reg false [⟨0, (some 34), .mv (.t 2), 0, none⟩, ⟨1, (some 35), .len none (.t 34), 0, none⟩, ⟨2, (some 36), .mv (.c (.int .i64 (0))), 0, none⟩] [0, 2, 7, 8, 9, 27, 28, 29, 34, 35, 36])
              (.blk 2
               (.loop [0, 2, 7, 8, 9, 27, 28, 29, 34, 35, 36]
                (.seq
                 (.reg false [⟨0, (some 37), .bin .lss (.t 36) (.t 35), 0, none⟩] [0, 2, 7, 8, 9, 27, 28, 29, 34, 35, 36, 37])
                 (.seq
                  (.cond (.t 37)
                   (.skip)
                   (.exit 2))
                  (.seq
                   (.blk 3
                    (.seq
                     (.reg false [⟨0, (some 38), .mv (.t 36), 0, none⟩, ⟨1, (some 39), .iaddr none 1 (.t 34) (.t 36), 0, none⟩, ⟨2, (some 40), .load none (.t 39), 0, none⟩, ⟨3, (some 10), .mv (.t 38), 0, none⟩, ⟨4, (some 11), .mv (.t 40), 0, none⟩] [0, 2, 7, 8, 9, 10, 11, 27, 28, 29, 34, 35, 36])
                     (.reg true [⟨0, (some 41), .mv (.t 7), 0, none⟩, ⟨1, (some 42), .mv (.t 8), 0, none⟩, ⟨2, (some 43), .mv (.t 10), 0, none⟩, ⟨3, (some 44), .bin .add (.t 42) (.t 43), 0, none⟩, ⟨4, (some 45), .mv (.t 0), 0, none⟩, ⟨5, (some 46), .nilc (.t 45), 0, none⟩, ⟨6, (some 47), .faddr 0 (.t 46), 0, none⟩, ⟨8, (some 49), .mv (.t 7), 0, none⟩, ⟨9, (some 50), .mv (.t 8), 0, none⟩, ⟨10, (some 51), .mv (.t 10), 0, none⟩, ⟨11, (some 52), .bin .add (.t 50) (.t 51), 0, none⟩, ⟨12, (some 53), .iaddr none 1 (.t 49) (.t 52), 0, none⟩, ⟨14, (some 55), .mv (.t 0), 0, none⟩, ⟨15, (some 56), .nilc (.t 55), 0, none⟩, ⟨16, (some 57), .faddr 0 (.t 56), 0, none⟩, ⟨18, (some 59), .mv (.t 9), 0, none⟩, ⟨19, (some 60), .mv (.t 11), 0, none⟩, ⟨7, (some 48), .load none (.t 47), 0, none⟩, ⟨21, (some 62), .nilc (.t 48), 0, none⟩, ⟨22, (some 63), .mv (.t 48), 0, none⟩, ⟨13, (some 54), .load none (.t 53), 0, none⟩, ⟨17, (some 58), .load none (.t 57), 0, none⟩, ⟨20, (some 61), .inv "dauber/field.product" (.t 58) [.t 59, .t 60], 1, none⟩, ⟨23, (some 64), .inv "dauber/field.sum" (.t 63) [.t 54, .t 61], 1, none⟩, ⟨24, (some 65), .iaddr none 1 (.t 41) (.t 44), 0, none⟩, ⟨25, none, .store 1 (.t 65) (.t 64), 0, none⟩] [0, 2, 7, 8, 9, 27, 28, 29, 34, 35, 36])))
                   (.reg false [⟨0, (some 66), .bin .add (.t 36) (.c (.int .i64 (1))), 0, none⟩, ⟨1, (some 36), .mv (.t 66), 0, none⟩] [0, 2, 7, 8, 9, 27, 28, 29, 34, 35, 36])))))))))
           (.reg false [⟨0, (some 67), .bin .add (.t 29) (.c (.int .i64 (1))), 0, none⟩, ⟨1, (some 29), .mv (.t 67), 0, none⟩] [0, 2, 7, 27, 28, 29])))))))
     (.seq
      (.reg false [⟨0, (some 68), .mv (.t 7), 0, none⟩, ⟨1, (some 69), .call 130 [.t 68], 2, none⟩, ⟨2, (some 6), .mv (.t 69), 0, none⟩] [6])
      (.ret)))))

theorem ok114 : okF Tryz.prog 114 3 c114 [.tmp 6] = true := by kernel_rfl

/-- dauber/dauberref02.digits -/
def c115 : C :=
 .seq
  (.reg false [⟨0, (some 4), .mv (.c (.nils)), 0, none⟩] [0, 1])
  (.seq
   (.reg false [⟨0, (some 5), .nilo 1, 0, none⟩] [0, 1, 5])
   (.seq
    (.blk 0
     (.loop [0, 1, 5]
      (.seq
       (.seq
        (.reg false [⟨0, (some 6), .mv (.t 0), 0, none⟩, ⟨1, (some 7), .bin .gtr (.t 6) (.c (.int .i64 (0))), 0, none⟩] [0, 1, 5, 7])
        (.cond (.t 7)
         (.skip)
         (.exit 0)))
       (.seq
        (.blk 1
         (.reg false [⟨0, (some 11), .mv (.t 5), 0, none⟩, ⟨1, (some 12), .mv (.t 0), 0, none⟩, ⟨2, (some 13), .mv (.t 1), 0, none⟩, ⟨3, (some 14), .bin .rem (.t 12) (.t 13), 0, none⟩, ⟨4, (some 15), .bsl 1 1 [.int .i64 (0)] [(0, 1, .t 14)], 0, none⟩, ⟨5, (some 16), .app 1 8 (.t 11) (.t 15), 0, none⟩, ⟨6, (some 5), .mv (.t 16), 0, none⟩] [0, 1, 5]))
        (.reg false [⟨0, (some 8), .mv (.t 0), 0, none⟩, ⟨1, (some 9), .mv (.t 1), 0, none⟩, ⟨2, (some 10), .bin .quo (.t 8) (.t 9), 0, none⟩, ⟨3, (some 0), .mv (.t 10), 0, none⟩] [0, 1, 5])))))
    (.seq
     (.reg false [⟨0, (some 17), .mv (.t 5), 0, none⟩, ⟨1, (some 4), .mv (.t 17), 0, none⟩] [4])
     (.ret))))

theorem ok115 : okF Tryz.prog 115 2 c115 [.tmp 4] = true := by kernel_rfl

/-- dauber/dauberref02.number -/
def c116 : C :=
 .seq
  (.reg false [⟨0, (some 4), .mv (.c (.int .i64 (0))), 0, none⟩] [0, 1])
  (.seq
   (.reg false [⟨0, (some 5), .mv (.c (.int .i64 (0))), 0, none⟩] [0, 1, 5])
   (.seq
    (.seq
     (.reg false [⟨0, (some 7), .mv (.t 0), 0, none⟩, ⟨1, (some 8), .len none (.t 7), 0, none⟩, ⟨2, (some 9), .bin .sub (.t 8) (.c (.int .i64 (1))), 0, none⟩, ⟨3, (some 6), .mv (.t 9), 0, none⟩] [0, 1, 5, 6])
     (.blk 0
      (.loop [0, 1, 5, 6]
       (.seq
        (.seq
         (.reg false [⟨0, (some 10), .mv (.t 6), 0, none⟩, ⟨1, (some 11), .bin .geq (.t 10) (.c (.int .i64 (0))), 0, none⟩] [0, 1, 5, 6, 11])
         (.cond (.t 11)
          (.skip)
          (.exit 0)))
        (.seq
         (.blk 1
          (.reg false [⟨0, (some 14), .mv (.t 5), 0, none⟩, ⟨1, (some 15), .mv (.t 1), 0, none⟩, ⟨2, (some 16), .bin .mul (.t 14) (.t 15), 0, none⟩, ⟨3, (some 17), .mv (.t 0), 0, none⟩, ⟨4, (some 18), .mv (.t 6), 0, none⟩, ⟨5, (some 19), .iaddr none 1 (.t 17) (.t 18), 0, none⟩, ⟨6, (some 20), .load none (.t 19), 0, none⟩, ⟨7, (some 21), .bin .add (.t 16) (.t 20), 0, none⟩, ⟨8, (some 5), .mv (.t 21), 0, none⟩] [0, 1, 5, 6]))
         (.reg false [⟨0, (some 12), .mv (.t 6), 0, none⟩, ⟨1, (some 13), .bin .sub (.t 12) (.c (.int .i64 (1))), 0, none⟩, ⟨2, (some 6), .mv (.t 13), 0, none⟩] [0, 1, 5, 6]))))))
    (.seq
     (.reg false [⟨0, (some 22), .mv (.t 5), 0, none⟩, ⟨1, (some 4), .mv (.t 22), 0, none⟩] [4])
     (.ret))))

theorem ok116 : okF Tryz.prog 116 2 c116 [.tmp 4] = true := by kernel_rfl

/-- (dauber/dauberref02.Field).Mul -/
def c117 : C :=
 .seq
  (.reg false [⟨0, (some 3), .box 4 (.t 0), 0, none⟩, ⟨1, (some 6), .mv (.c (.int .i64 (0))), 0, none⟩] [1, 2, 3])
  (.seq
   (.seq
    (.reg false [⟨0, (some 7), .faddr 2 (.t 3), 0, none⟩, ⟨1, (some 8), .load none (.t 7), 0, none⟩, ⟨2, (some 9), .bin .eql (.t 8) (.c (.int .i64 (1))), 0, none⟩] [1, 2, 3, 9])
    (.cond (.t 9)
     (.seq
      (.reg false [⟨0, (some 10), .mv (.t 1), 0, none⟩, ⟨1, (some 11), .mv (.t 2), 0, none⟩, ⟨2, (some 12), .bin .mul (.t 10) (.t 11), 0, none⟩, ⟨3, (some 13), .faddr 1 (.t 3), 0, none⟩, ⟨4, (some 14), .load none (.t 13), 0, none⟩, ⟨5, (some 15), .bin .rem (.t 12) (.t 14), 0, none⟩, ⟨6, (some 6), .mv (.t 15), 0, none⟩] [6])
      (.ret))
     (.skip)))
   (.seq
    (.reg true [⟨0, (some 16), .mv (.t 1), 0, none⟩, ⟨1, (some 17), .mv (.t 2), 0, none⟩, ⟨2, (some 18), .faddr 1 (.t 3), 0, none⟩, ⟨5, (some 21), .faddr 3 (.t 3), 0, none⟩, ⟨7, (some 23), .faddr 1 (.t 3), 0, none⟩, ⟨3, (some 19), .load none (.t 18), 0, none⟩, ⟨6, (some 22), .load none (.t 21), 0, none⟩, ⟨8, (some 24), .load none (.t 23), 0, none⟩, ⟨4, (some 20), .call 131 [.t 16, .t 17, .t 19], 1, none⟩, ⟨9, (some 25), .call 85 [.t 20, .t 22, .t 24], 1, none⟩, ⟨10, (some 6), .mv (.t 25), 0, none⟩] [6])
    (.ret)))

theorem ok117 : okF Tryz.prog 117 3 c117 [.tmp 6] = true := by kernel_rfl

/-- (dauber/dauberref02.Field).Add -/
def c118 : C :=
 .seq
  (.reg false [⟨0, (some 3), .box 4 (.t 0), 0, none⟩, ⟨1, (some 6), .mv (.c (.int .i64 (0))), 0, none⟩] [1, 2, 3])
  (.seq
   (.reg false [⟨0, (some 7), .mv (.c (.int .i64 (0))), 0, none⟩, ⟨1, (some 8), .mv (.c (.int .i64 (1))), 0, none⟩] [1, 2, 3, 7, 8])
   (.seq
    (.blk 0
     (.loop [1, 2, 3, 7, 8]
      (.seq
       (.seq
        (.reg false [⟨0, (some 9), .mv (.t 1), 0, none⟩, ⟨1, (some 10), .bin .gtr (.t 9) (.c (.int .i64 (0))), 0, none⟩, ⟨2, (some 11), .mv (.t 10), 0, none⟩, ⟨3, (some 12), .mv (.t 2), 0, (some (11, false))⟩, ⟨4, (some 13), .bin .gtr (.t 12) (.c (.int .i64 (0))), 0, (some (11, false))⟩, ⟨5, (some 14), .pick (.t 11) (.c (.bool true)) (.t 13), 0, none⟩] [1, 2, 3, 7, 8, 14])
        (.cond (.t 14)
         (.skip)
         (.exit 0)))
       (.seq
        (.blk 1
         (.seq
          (.reg true [⟨0, (some 19), .mv (.t 7), 0, none⟩, ⟨1, (some 20), .mv (.t 1), 0, none⟩, ⟨2, (some 21), .faddr 1 (.t 3), 0, none⟩, ⟨5, (some 24), .mv (.t 2), 0, none⟩, ⟨6, (some 25), .faddr 1 (.t 3), 0, none⟩, ⟨10, (some 29), .faddr 1 (.t 3), 0, none⟩, ⟨13, (some 32), .mv (.t 8), 0, none⟩, ⟨3, (some 22), .load none (.t 21), 0, none⟩, ⟨4, (some 23), .bin .rem (.t 20) (.t 22), 0, none⟩, ⟨7, (some 26), .load none (.t 25), 0, none⟩, ⟨8, (some 27), .bin .rem (.t 24) (.t 26), 0, none⟩, ⟨9, (some 28), .bin .add (.t 23) (.t 27), 0, none⟩, ⟨11, (some 30), .load none (.t 29), 0, none⟩, ⟨12, (some 31), .bin .rem (.t 28) (.t 30), 0, none⟩, ⟨14, (some 33), .bin .mul (.t 31) (.t 32), 0, none⟩, ⟨15, (some 34), .bin .add (.t 19) (.t 33), 0, none⟩, ⟨16, (some 7), .mv (.t 34), 0, none⟩] [1, 2, 3, 7, 8])
          (.reg true [⟨0, (some 35), .mv (.t 1), 0, none⟩, ⟨1, (some 36), .faddr 1 (.t 3), 0, none⟩, ⟨4, (some 39), .mv (.t 2), 0, none⟩, ⟨5, (some 40), .faddr 1 (.t 3), 0, none⟩, ⟨2, (some 37), .load none (.t 36), 0, none⟩, ⟨3, (some 38), .bin .quo (.t 35) (.t 37), 0, none⟩, ⟨8, (some 1), .mv (.t 38), 0, none⟩, ⟨6, (some 41), .load none (.t 40), 0, none⟩, ⟨7, (some 42), .bin .quo (.t 39) (.t 41), 0, none⟩, ⟨9, (some 2), .mv (.t 42), 0, none⟩] [1, 2, 3, 7, 8])))
        (.reg false [⟨0, (some 15), .mv (.t 8), 0, none⟩, ⟨1, (some 16), .faddr 1 (.t 3), 0, none⟩, ⟨2, (some 17), .load none (.t 16), 0, none⟩, ⟨3, (some 18), .bin .mul (.t 15) (.t 17), 0, none⟩, ⟨4, (some 8), .mv (.t 18), 0, none⟩] [1, 2, 3, 7, 8])))))
    (.seq
     (.reg false [⟨0, (some 43), .mv (.t 7), 0, none⟩, ⟨1, (some 6), .mv (.t 43), 0, none⟩] [6])
     (.ret))))

theorem ok118 : okF Tryz.prog 118 3 c118 [.tmp 6] = true := by kernel_rfl

/-- (dauber/dauberref02.Field).Pow -/
def c119 : C :=
 .seq
  (.reg false [⟨0, (some 3), .box 4 (.t 0), 0, none⟩, ⟨1, (some 6), .mv (.c (.int .i64 (0))), 0, none⟩] [1, 2, 3])
  (.seq
   (.reg false [⟨0, (some 7), .mv (.c (.int .i64 (1))), 0, none⟩] [1, 2, 3, 7])
   (.seq
    (.blk 0
     (.loop [1, 2, 3, 7]
      (.seq
       (.seq
        (.reg false [⟨0, (some 8), .mv (.t 2), 0, none⟩, ⟨1, (some 9), .bin .gtr (.t 8) (.c (.int .i64 (0))), 0, none⟩] [1, 2, 3, 7, 9])
        (.cond (.t 9)
         (.skip)
         (.exit 0)))
       (.seq
        (.blk 1
         (.seq
          (.seq
           (.reg false [⟨0, (some 12), .mv (.t 2), 0, none⟩, ⟨1, (some 13), .bin .rem (.t 12) (.c (.int .i64 (2))), 0, none⟩, ⟨2, (some 14), .bin .eql (.t 13) (.c (.int .i64 (1))), 0, none⟩] [1, 2, 3, 7, 14])
           (.cond (.t 14)
            (.reg false [⟨0, (some 15), .load (some 4) (.t 3), 0, none⟩, ⟨1, (some 16), .mv (.t 7), 0, none⟩, ⟨2, (some 17), .mv (.t 1), 0, none⟩, ⟨3, (some 18), .call 117 [.t 15, .t 16, .t 17], 2, none⟩, ⟨4, (some 7), .mv (.t 18), 0, none⟩] [1, 2, 3, 7])
            (.skip)))
          (.reg false [⟨0, (some 19), .load (some 4) (.t 3), 0, none⟩, ⟨1, (some 20), .mv (.t 1), 0, none⟩, ⟨2, (some 21), .mv (.t 1), 0, none⟩, ⟨3, (some 22), .call 117 [.t 19, .t 20, .t 21], 2, none⟩, ⟨4, (some 1), .mv (.t 22), 0, none⟩] [1, 2, 3, 7])))
        (.reg false [⟨0, (some 10), .mv (.t 2), 0, none⟩, ⟨1, (some 11), .bin .quo (.t 10) (.c (.int .i64 (2))), 0, none⟩, ⟨2, (some 2), .mv (.t 11), 0, none⟩] [1, 2, 3, 7])))))
    (.seq
     (.reg false [⟨0, (some 23), .mv (.t 7), 0, none⟩, ⟨1, (some 6), .mv (.t 23), 0, none⟩] [6])
     (.ret))))

theorem ok119 : okF Tryz.prog 119 3 c119 [.tmp 6] = true := by kernel_rfl

/-- slices.IndexFunc[[]int64,int64] -/
def c120 : C :=
 .seq
  (.reg false [⟨0, (some 4), .mv (.c (.int .i64 (0))), 0, none⟩] [0, 1])
  (.seq
   (.seq
    (.reg false [⟨0, (some 6), .mv (.t 0), 0, none⟩, ⟨1, (some 7), .len none (.t 6), 0, none⟩, ⟨2, (some 8), .mv (.c (.int .i64 (0))), 0, none⟩] [0, 1, 7, 8])
    (.blk 0
     (.loop [0, 1, 7, 8]
      (.seq
       (.reg false [⟨0, (some 9), .bin .lss (.t 8) (.t 7), 0, none⟩] [0, 1, 7, 8, 9])
       (.seq
        (.cond (.t 9)
         (.skip)
         (.exit 0))
        (.seq
         (.blk 1
          (.seq
           (.reg false [⟨0, (some 10), .mv (.t 8), 0, none⟩, ⟨1, (some 5), .mv (.t 10), 0, none⟩] [0, 1, 5, 7, 8])
           (.seq
            (.reg false [⟨0, (some 11), .mv (.t 1), 0, none⟩, ⟨1, (some 12), .mv (.t 0), 0, none⟩, ⟨2, (some 13), .mv (.t 5), 0, none⟩, ⟨3, (some 14), .iaddr none 1 (.t 12) (.t 13), 0, none⟩, ⟨4, (some 15), .load none (.t 14), 0, none⟩, ⟨5, (some 16), .callv (.t 11) [.t 15], 2, none⟩] [0, 1, 5, 7, 8, 16])
            (.cond (.t 16)
             (.seq
              (.reg false [⟨0, (some 17), .mv (.t 5), 0, none⟩, ⟨1, (some 4), .mv (.t 17), 0, none⟩] [4])
              (.ret))
             (.skip)))))
         (.reg false [⟨0, (some 18), .bin .add (.t 8) (.c (.int .i64 (1))), 0, none⟩, ⟨1, (some 8), .mv (.t 18), 0, none⟩] [0, 1, 7, 8])))))))
   (.seq
    (.reg false [⟨0, (some 4), .mv (.c (.int .i64 (-1))), 0, none⟩] [4])
    (.ret)))

theorem ok120 : okF Tryz.prog 120 2 c120 [.tmp 4] = true := by kernel_rfl

/-- (*dauber/code.works).checkErased -/
def c121 : C :=
 .seq
  (.reg false [⟨0, (some 6), .mv (.c (.int .i64 (0))), 0, none⟩] [0, 1, 2])
  (.seq
   (.seq
    (.reg true [⟨0, (some 7), .mv (.t 1), 0, none⟩, ⟨1, (some 8), .len none (.t 7), 0, none⟩, ⟨2, (some 9), .mv (.t 0), 0, none⟩, ⟨3, (some 10), .nilc (.t 9), 0, none⟩, ⟨4, (some 11), .faddr 0 (.t 10), 0, none⟩, ⟨5, (some 12), .faddr 1 (.t 11), 0, none⟩, ⟨6, (some 13), .load none (.t 12), 0, none⟩, ⟨7, (some 14), .len none (.t 13), 0, none⟩, ⟨8, (some 15), .bin .neq (.t 8) (.t 14), 0, none⟩, ⟨9, (some 16), .mv (.t 15), 0, none⟩, ⟨10, (some 17), .mv (.t 2), 0, (some (16, false))⟩, ⟨11, (some 18), .len none (.t 17), 0, (some (16, false))⟩, ⟨12, (some 19), .mv (.t 0), 0, (some (16, false))⟩, ⟨13, (some 20), .nilc (.t 19), 0, (some (16, false))⟩, ⟨14, (some 21), .faddr 0 (.t 20), 0, (some (16, false))⟩, ⟨15, (some 22), .faddr 1 (.t 21), 0, (some (16, false))⟩, ⟨18, (some 25), .mv (.t 0), 0, (some (16, false))⟩, ⟨19, (some 26), .nilc (.t 25), 0, (some (16, false))⟩, ⟨20, (some 27), .faddr 0 (.t 26), 0, (some (16, false))⟩, ⟨21, (some 28), .faddr 2 (.t 27), 0, (some (16, false))⟩, ⟨16, (some 23), .load none (.t 22), 0, (some (16, false))⟩, ⟨17, (some 24), .len none (.t 23), 0, (some (16, false))⟩, ⟨22, (some 29), .load none (.t 28), 0, (some (16, false))⟩, ⟨23, (some 30), .bin .sub (.t 24) (.t 29), 0, (some (16, false))⟩, ⟨24, (some 31), .bin .gtr (.t 18) (.t 30), 0, (some (16, false))⟩, ⟨25, (some 32), .pick (.t 16) (.c (.bool true)) (.t 31), 0, none⟩] [0, 1, 2, 32])
    (.cond (.t 32)
     (.seq
      (.reg false [⟨0, (some 6), .mv (.c (.int .i64 (7))), 0, none⟩] [6])
      (.ret))
     (.skip)))
   (.seq
    (.seq
     (.reg false [⟨0, (some 33), .mv (.t 0), 0, none⟩, ⟨1, (some 34), .nilc (.t 33), 0, none⟩, ⟨2, (some 35), .faddr 0 (.t 34), 0, none⟩, ⟨3, (some 36), .faddr 0 (.t 35), 0, none⟩, ⟨4, (some 37), .load none (.t 36), 0, none⟩, ⟨5, (some 38), .mv (.t 1), 0, none⟩, ⟨6, (some 39), .call 124 [.t 37, .t 38], 2, none⟩, ⟨7, (some 40), .un .not (.t 39), 0, none⟩, ⟨8, (some 41), .mv (.t 40), 0, none⟩, ⟨9, (some 42), .mv (.t 0), 0, (some (41, false))⟩, ⟨10, (some 43), .nilc (.t 42), 0, (some (41, false))⟩, ⟨11, (some 44), .faddr 0 (.t 43), 0, (some (41, false))⟩, ⟨12, (some 45), .faddr 1 (.t 44), 0, (some (41, false))⟩, ⟨13, (some 46), .load none (.t 45), 0, (some (41, false))⟩, ⟨14, (some 47), .len none (.t 46), 0, (some (41, false))⟩, ⟨15, (some 48), .mv (.t 2), 0, (some (41, false))⟩, ⟨16, (some 49), .call 124 [.t 47, .t 48], 2, (some (41, false))⟩, ⟨17, (some 50), .un .not (.t 49), 0, (some (41, false))⟩, ⟨18, (some 51), .pick (.t 41) (.c (.bool true)) (.t 50), 0, none⟩, ⟨19, (some 52), .mv (.t 51), 0, none⟩, ⟨20, (some 53), .mv (.t 2), 0, (some (52, false))⟩, ⟨21, (some 54), .call 125 [.t 53], 2, (some (52, false))⟩, ⟨22, (some 55), .un .not (.t 54), 0, (some (52, false))⟩, ⟨23, (some 56), .pick (.t 52) (.c (.bool true)) (.t 55), 0, none⟩] [56])
     (.cond (.t 56)
      (.seq
       (.reg false [⟨0, (some 6), .mv (.c (.int .i64 (1))), 0, none⟩] [6])
       (.ret))
      (.skip)))
    (.seq
     (.reg false [⟨0, (some 6), .mv (.c (.int .i64 (0))), 0, none⟩] [6])
     (.ret))))

theorem ok121 : okF Tryz.prog 121 3 c121 [.tmp 6] = true := by kernel_rfl

/-- (*dauber/code.works).pair -/
def c122 : C :=
 .seq
  (.reg false [⟨0, (some 6), .mv (.c (.nils)), 0, none⟩, ⟨1, (some 7), .mv (.c (.nils)), 0, none⟩] [0, 1, 2])
  (.seq
   (.reg false [⟨0, (some 8), .nilo 1, 0, none⟩, ⟨1, (some 9), .nilo 1, 0, none⟩] [0, 1, 2, 8, 9])
   (.seq
    (.reg false [⟨0, (some 25), .bsl 1 1 [.int .i64 (0)] [(0, 1, .c (.int .i64 (1)))], 0, none⟩, ⟨1, (some 10), .mv (.t 25), 0, none⟩] [0, 1, 2, 8, 9, 10])
    (.seq
     (.seq
      (.reg false [⟨0, (some 26), .mv (.t 0), 0, none⟩, ⟨1, (some 27), .mv (.t 2), 0, none⟩, ⟨2, (some 28), .call 132 [.t 26, .t 27], 2, none⟩, ⟨3, (some 29), .len none (.t 28), 0, none⟩, ⟨4, (some 30), .mv (.c (.int .i64 (0))), 0, none⟩] [0, 1, 2, 8, 9, 10, 28, 29, 30])
      (.blk 0
       (.loop [0, 1, 2, 8, 9, 10, 28, 29, 30]
        (.seq
         (.reg false [⟨0, (some 31), .bin .lss (.t 30) (.t 29), 0, none⟩] [0, 1, 2, 8, 9, 10, 28, 29, 30, 31])
         (.seq
          (.cond (.t 31)
           (.skip)
           (.exit 0))
          (.seq
           (.blk 1
            (.seq
             (.reg false [⟨0, (some 32), .iaddr none 1 (.t 28) (.t 30), 0, none⟩, ⟨1, (some 33), .load none (.t 32), 0, none⟩, ⟨2, (some 12), .mv (.t 33), 0, none⟩] [0, 1, 2, 8, 9, 10, 12, 28, 29, 30])
             (.seq
              (.reg true [⟨0, (some 34), .mv (.t 0), 0, none⟩, ⟨1, (some 35), .nilc (.t 34), 0, none⟩, ⟨2, (some 36), .faddr 3 (.t 35), 0, none⟩, ⟨4, (some 38), .mv (.t 0), 0, none⟩, ⟨5, (some 39), .nilc (.t 38), 0, none⟩, ⟨6, (some 40), .faddr 0 (.t 39), 0, none⟩, ⟨7, (some 41), .faddr 1 (.t 40), 0, none⟩, ⟨9, (some 43), .mv (.t 12), 0, none⟩, ⟨3, (some 37), .load none (.t 36), 0, none⟩, ⟨8, (some 42), .load none (.t 41), 0, none⟩, ⟨10, (some 44), .iaddr none 1 (.t 42) (.t 43), 0, none⟩, ⟨11, (some 45), .load none (.t 44), 0, none⟩, ⟨12, (some 46), .call 133 [.t 37, .c (.int .i64 (0)), .t 45], 2, none⟩, ⟨13, (some 13), .mv (.t 46), 0, none⟩] [0, 1, 2, 8, 9, 10, 12, 13, 28, 29, 30])
              (.seq
               (.reg false [⟨0, (some 48), .mv (.t 0), 0, none⟩, ⟨1, (some 49), .nilc (.t 48), 0, none⟩, ⟨2, (some 50), .faddr 3 (.t 49), 0, none⟩, ⟨3, (some 51), .load none (.t 50), 0, none⟩, ⟨4, (some 52), .mv (.t 10), 0, none⟩, ⟨5, (some 53), .mv (.t 13), 0, none⟩, ⟨6, (some 54), .bsl 1 2 [.int .i64 (0), .int .i64 (0)] [(0, 1, .t 53), (1, 1, .c (.int .i64 (1)))], 0, none⟩, ⟨7, (some 55), .call 134 [.t 51, .t 52, .t 54], 2, none⟩, ⟨8, (some 47), .mv (.t 55), 0, none⟩, ⟨9, (some 56), .ext 0 (.t 47), 0, none⟩, ⟨10, (some 57), .ext 1 (.t 47), 0, none⟩, ⟨11, (some 10), .mv (.t 56), 0, none⟩] [0, 1, 2, 8, 9, 10, 12, 28, 29, 30])
               (.reg true [⟨0, (some 58), .mv (.t 8), 0, none⟩, ⟨1, (some 59), .mv (.t 0), 0, none⟩, ⟨2, (some 60), .nilc (.t 59), 0, none⟩, ⟨3, (some 61), .faddr 0 (.t 60), 0, none⟩, ⟨4, (some 62), .faddr 1 (.t 61), 0, none⟩, ⟨6, (some 64), .mv (.t 12), 0, none⟩, ⟨11, (some 69), .mv (.t 9), 0, none⟩, ⟨12, (some 70), .mv (.t 1), 0, none⟩, ⟨13, (some 71), .mv (.t 12), 0, none⟩, ⟨14, (some 72), .iaddr none 1 (.t 70) (.t 71), 0, none⟩, ⟨5, (some 63), .load none (.t 62), 0, none⟩, ⟨7, (some 65), .iaddr none 1 (.t 63) (.t 64), 0, none⟩, ⟨8, (some 66), .load none (.t 65), 0, none⟩, ⟨15, (some 73), .loadx none (.t 72) [8], 0, none⟩, ⟨9, (some 67), .bsl 1 1 [.int .i64 (0)] [(0, 1, .t 66)], 0, none⟩, ⟨10, (some 68), .appx 8 1 8 (.t 58) (.t 67), 0, none⟩, ⟨16, (some 74), .bsl 1 1 [.int .i64 (0)] [(0, 1, .t 73)], 0, none⟩, ⟨17, (some 75), .app 1 8 (.t 69) (.t 74), 0, none⟩, ⟨18, (some 8), .mv (.t 68), 0, none⟩, ⟨19, (some 9), .mv (.t 75), 0, none⟩] [0, 1, 2, 8, 9, 10, 28, 29, 30])))))
           (.reg false [⟨0, (some 76), .bin .add (.t 30) (.c (.int .i64 (1))), 0, none⟩, ⟨1, (some 30), .mv (.t 76), 0, none⟩] [0, 1, 2, 8, 9, 10, 28, 29, 30])))))))
     (.seq
      (.reg false [⟨0, (some 78), .mv (.t 0), 0, none⟩, ⟨1, (some 79), .nilc (.t 78), 0, none⟩, ⟨2, (some 80), .faddr 3 (.t 79), 0, none⟩, ⟨3, (some 81), .load none (.t 80), 0, none⟩, ⟨4, (some 82), .mv (.t 8), 0, none⟩, ⟨5, (some 83), .mv (.t 9), 0, none⟩, ⟨6, (some 84), .call 54 [.t 81, .t 82, .t 83], 2, none⟩, ⟨7, (some 77), .mv (.t 84), 0, none⟩, ⟨8, (some 85), .ext 0 (.t 77), 0, none⟩, ⟨9, (some 86), .ext 1 (.t 77), 0, none⟩, ⟨10, (some 14), .mv (.t 85), 0, none⟩, ⟨11, (some 15), .mv (.t 86), 0, none⟩] [0, 2, 8, 10, 14])
      (.seq
       (.reg false [⟨0, (some 87), .mv (.t 10), 0, none⟩, ⟨1, (some 88), .mv (.t 14), 0, none⟩, ⟨2, (some 89), .bsl 1 1 [.int .i64 (0)] [(0, 1, .c (.int .i64 (1)))], 0, none⟩, ⟨3, (some 16), .mv (.t 87), 0, none⟩, ⟨4, (some 17), .mv (.t 88), 0, none⟩, ⟨5, (some 18), .mv (.c (.nils)), 0, none⟩, ⟨6, (some 19), .mv (.t 89), 0, none⟩] [0, 2, 8, 16, 17, 18, 19])
       (.seq
        (.blk 2
         (.loop [0, 2, 8, 16, 17, 18, 19]
          (.seq
           (.seq
            (.reg false [⟨0, (some 90), .mv (.t 17), 0, none⟩, ⟨1, (some 91), .len none (.t 90), 0, none⟩, ⟨2, (some 92), .mv (.t 8), 0, none⟩, ⟨3, (some 93), .len none (.t 92), 0, none⟩, ⟨4, (some 94), .mv (.t 0), 0, none⟩, ⟨5, (some 95), .mv (.t 2), 0, none⟩, ⟨6, (some 96), .call 135 [.t 94, .t 95], 2, none⟩, ⟨7, (some 97), .bin .sub (.t 93) (.t 96), 0, none⟩, ⟨8, (some 98), .bin .gtr (.t 91) (.t 97), 0, none⟩] [0, 2, 8, 16, 17, 18, 19, 98])
            (.cond (.t 98)
             (.skip)
             (.exit 2)))
           (.blk 3
            (.seq
             (.reg false [⟨0, (some 100), .mv (.t 0), 0, none⟩, ⟨1, (some 101), .nilc (.t 100), 0, none⟩, ⟨2, (some 102), .faddr 3 (.t 101), 0, none⟩, ⟨3, (some 103), .load none (.t 102), 0, none⟩, ⟨4, (some 104), .mv (.t 16), 0, none⟩, ⟨5, (some 105), .mv (.t 17), 0, none⟩, ⟨6, (some 106), .call 136 [.t 103, .t 104, .t 105], 2, none⟩, ⟨7, (some 99), .mv (.t 106), 0, none⟩, ⟨8, (some 107), .ext 0 (.t 99), 0, none⟩, ⟨9, (some 108), .ext 1 (.t 99), 0, none⟩, ⟨10, (some 109), .ext 2 (.t 99), 0, none⟩, ⟨11, (some 20), .mv (.t 107), 0, none⟩, ⟨12, (some 21), .mv (.t 108), 0, none⟩, ⟨13, (some 22), .mv (.t 109), 0, none⟩] [0, 2, 8, 17, 18, 19, 20, 21])
             (.seq
              (.reg false [⟨0, (some 111), .mv (.t 0), 0, none⟩, ⟨1, (some 112), .nilc (.t 111), 0, none⟩, ⟨2, (some 113), .faddr 3 (.t 112), 0, none⟩, ⟨3, (some 114), .load none (.t 113), 0, none⟩, ⟨4, (some 115), .mv (.t 20), 0, none⟩, ⟨5, (some 116), .mv (.t 19), 0, none⟩, ⟨6, (some 117), .call 134 [.t 114, .t 115, .t 116], 2, none⟩, ⟨7, (some 110), .mv (.t 117), 0, none⟩, ⟨8, (some 118), .ext 0 (.t 110), 0, none⟩, ⟨9, (some 119), .ext 1 (.t 110), 0, none⟩, ⟨10, (some 23), .mv (.t 118), 0, none⟩, ⟨11, (some 24), .mv (.t 119), 0, none⟩] [0, 2, 8, 17, 18, 19, 21, 23])
              (.reg false [⟨0, (some 120), .mv (.t 17), 0, none⟩, ⟨1, (some 121), .mv (.t 21), 0, none⟩, ⟨2, (some 122), .mv (.t 19), 0, none⟩, ⟨3, (some 123), .mv (.t 0), 0, none⟩, ⟨4, (some 124), .mv (.t 18), 0, none⟩, ⟨5, (some 125), .mv (.t 23), 0, none⟩, ⟨6, (some 126), .call 137 [.t 123, .t 124, .t 125], 2, none⟩, ⟨7, (some 16), .mv (.t 120), 0, none⟩, ⟨8, (some 17), .mv (.t 121), 0, none⟩, ⟨9, (some 18), .mv (.t 122), 0, none⟩, ⟨10, (some 19), .mv (.t 126), 0, none⟩] [0, 2, 8, 16, 17, 18, 19])))))))
        (.seq
         (.reg false [⟨0, (some 127), .mv (.t 17), 0, none⟩, ⟨1, (some 128), .mv (.t 19), 0, none⟩, ⟨2, (some 6), .mv (.t 127), 0, none⟩, ⟨3, (some 7), .mv (.t 128), 0, none⟩] [6, 7])
         (.ret))))))))

theorem ok122 : okF Tryz.prog 122 3 c122 [.tmp 6, .tmp 7] = true := by kernel_rfl

/-- (*dauber/code.works).near -/
def c123 : C :=
 .seq
  (.reg false [⟨0, (some 10), .mv (.c (.nils)), 0, none⟩, ⟨1, (some 11), .mv (.c (.bool false)), 0, none⟩] [0, 1, 2, 3, 4])
  (.seq
   (.seq
    (.reg false [⟨0, (some 16), .mv (.t 4), 0, none⟩, ⟨1, (some 17), .len none (.t 16), 0, none⟩, ⟨2, (some 18), .bin .eql (.t 17) (.c (.int .i64 (0))), 0, none⟩] [0, 1, 2, 3, 4, 18])
    (.cond (.t 18)
     (.seq
      (.reg false [⟨0, (some 10), .mv (.c (.nils)), 0, none⟩, ⟨1, (some 11), .mv (.c (.bool false)), 0, none⟩] [10, 11])
      (.ret))
     (.skip)))
   (.seq
    (.reg false [⟨0, (some 20), .mv (.t 0), 0, none⟩, ⟨1, (some 21), .nilc (.t 20), 0, none⟩, ⟨2, (some 22), .faddr 3 (.t 21), 0, none⟩, ⟨3, (some 23), .load none (.t 22), 0, none⟩, ⟨4, (some 24), .mv (.t 3), 0, none⟩, ⟨5, (some 25), .mv (.t 4), 0, none⟩, ⟨6, (some 26), .call 136 [.t 23, .t 24, .t 25], 2, none⟩, ⟨7, (some 19), .mv (.t 26), 0, none⟩, ⟨8, (some 27), .ext 0 (.t 19), 0, none⟩, ⟨9, (some 28), .ext 1 (.t 19), 0, none⟩, ⟨10, (some 29), .ext 2 (.t 19), 0, none⟩, ⟨11, (some 12), .mv (.t 27), 0, none⟩, ⟨12, (some 13), .mv (.t 28), 0, none⟩, ⟨13, (some 14), .mv (.t 29), 0, none⟩] [0, 1, 2, 12, 13])
    (.seq
     (.seq
      (.reg false [⟨0, (some 30), .mv (.t 13), 0, none⟩, ⟨1, (some 31), .len none (.t 30), 0, none⟩, ⟨2, (some 32), .bin .gtr (.t 31) (.c (.int .i64 (0))), 0, none⟩, ⟨3, (some 33), .mv (.t 32), 0, none⟩, ⟨4, (some 34), .mv (.t 12), 0, (some (33, false))⟩, ⟨5, (some 35), .len none (.t 34), 0, (some (33, false))⟩, ⟨6, (some 36), .mv (.t 0), 0, (some (33, false))⟩, ⟨7, (some 37), .nilc (.t 36), 0, (some (33, false))⟩, ⟨8, (some 38), .faddr 0 (.t 37), 0, (some (33, false))⟩, ⟨9, (some 39), .faddr 2 (.t 38), 0, (some (33, false))⟩, ⟨10, (some 40), .load none (.t 39), 0, (some (33, false))⟩, ⟨11, (some 41), .bin .gtr (.t 35) (.t 40), 0, (some (33, false))⟩, ⟨12, (some 42), .pick (.t 33) (.c (.bool true)) (.t 41), 0, none⟩] [0, 1, 2, 12, 42])
      (.cond (.t 42)
       (.seq
        (.reg false [⟨0, (some 10), .mv (.c (.nils)), 0, none⟩, ⟨1, (some 11), .mv (.c (.bool false)), 0, none⟩] [10, 11])
        (.ret))
       (.skip)))
     (.seq
      (.reg false [⟨0, (some 43), .mv (.t 0), 0, none⟩, ⟨1, (some 44), .mv (.t 12), 0, none⟩, ⟨2, (some 45), .call 138 [.t 43, .t 44], 2, none⟩, ⟨3, (some 15), .mv (.t 45), 0, none⟩] [0, 1, 2, 15])
      (.seq
       (.reg false [⟨0, (some 46), .mv (.t 15), 0, none⟩, ⟨1, (some 47), .mv (.t 15), 0, none⟩, ⟨2, (some 48), .mv (.t 1), 0, none⟩, ⟨3, (some 49), .mv (.t 0), 0, none⟩, ⟨4, (some 50), .mv (.t 2), 0, none⟩, ⟨5, (some 51), .call 132 [.t 49, .t 50], 2, none⟩, ⟨6, (some 52), .call 139 [.t 47, .t 48, .t 51], 2, none⟩, ⟨7, (some 53), .mv (.t 0), 0, none⟩, ⟨8, (some 54), .mv (.t 2), 0, none⟩, ⟨9, (some 55), .call 135 [.t 53, .t 54], 2, none⟩, ⟨10, (some 56), .bin .leq (.t 52) (.t 55), 0, none⟩, ⟨11, (some 10), .mv (.t 46), 0, none⟩, ⟨12, (some 11), .mv (.t 56), 0, none⟩] [10, 11])
       (.ret))))))

theorem ok123 : okF Tryz.prog 123 5 c123 [.tmp 10, .tmp 11] = true := by kernel_rfl

/-- dauber/code.areElements -/
def c124 : C :=
 .seq
  (.reg false [⟨0, (some 2), .box 1 (.t 0), 0, none⟩, ⟨1, (some 4), .mv (.c (.bool false)), 0, none⟩] [1, 2])
  (.seq
   (.reg false [⟨0, (some 5), .mv (.t 1), 0, none⟩, ⟨1, (some 6), .mkfn (.func 140) [] [.t 2], 0, none⟩, ⟨2, (some 7), .call 102 [.t 5, .t 6], 2, none⟩, ⟨3, (some 8), .un .not (.t 7), 0, none⟩, ⟨4, (some 4), .mv (.t 8), 0, none⟩] [4])
   (.ret))

theorem ok124 : okF Tryz.prog 124 2 c124 [.tmp 4] = true := by kernel_rfl

/-- dauber/code.different -/
def c125 : C :=
 .seq
  (.reg false [⟨0, (some 2), .mv (.c (.bool false)), 0, none⟩] [0])
  (.seq
   (.reg false [⟨0, (some 3), .mv (.t 0), 0, none⟩, ⟨1, (some 4), .call 142 [.t 3], 2, none⟩, ⟨2, (some 5), .call 141 [.t 4], 2, none⟩, ⟨3, (some 0), .mv (.t 5), 0, none⟩] [0])
   (.seq
    (.reg false [⟨0, (some 6), .mv (.t 0), 0, none⟩, ⟨1, (some 7), .call 143 [.t 6], 2, none⟩, ⟨2, (some 8), .len none (.t 7), 0, none⟩, ⟨3, (some 9), .mv (.t 0), 0, none⟩, ⟨4, (some 10), .len none (.t 9), 0, none⟩, ⟨5, (some 11), .bin .eql (.t 8) (.t 10), 0, none⟩, ⟨6, (some 2), .mv (.t 11), 0, none⟩] [2])
    (.ret)))

theorem ok125 : okF Tryz.prog 125 1 c125 [.tmp 2] = true := by kernel_rfl

/-- slices.IndexFunc[[]int,int] -/
def c126 : C :=
 .seq
  (.reg false [⟨0, (some 4), .mv (.c (.int .i64 (0))), 0, none⟩] [0, 1])
  (.seq
   (.seq
    (.reg false [⟨0, (some 6), .mv (.t 0), 0, none⟩, ⟨1, (some 7), .len none (.t 6), 0, none⟩, ⟨2, (some 8), .mv (.c (.int .i64 (0))), 0, none⟩] [0, 1, 7, 8])
    (.blk 0
     (.loop [0, 1, 7, 8]
      (.seq
       (.reg false [⟨0, (some 9), .bin .lss (.t 8) (.t 7), 0, none⟩] [0, 1, 7, 8, 9])
       (.seq
        (.cond (.t 9)
         (.skip)
         (.exit 0))
        (.seq
         (.blk 1
          (.seq
           (.reg false [⟨0, (some 10), .mv (.t 8), 0, none⟩, ⟨1, (some 5), .mv (.t 10), 0, none⟩] [0, 1, 5, 7, 8])
           (.seq
            (.reg false [⟨0, (some 11), .mv (.t 1), 0, none⟩, ⟨1, (some 12), .mv (.t 0), 0, none⟩, ⟨2, (some 13), .mv (.t 5), 0, none⟩, ⟨3, (some 14), .iaddr none 1 (.t 12) (.t 13), 0, none⟩, ⟨4, (some 15), .load none (.t 14), 0, none⟩, ⟨5, (some 16), .callv (.t 11) [.t 15], 2, none⟩] [0, 1, 5, 7, 8, 16])
            (.cond (.t 16)
             (.seq
              (.reg false [⟨0, (some 17), .mv (.t 5), 0, none⟩, ⟨1, (some 4), .mv (.t 17), 0, none⟩] [4])
              (.ret))
             (.skip)))))
         (.reg false [⟨0, (some 18), .bin .add (.t 8) (.c (.int .i64 (1))), 0, none⟩, ⟨1, (some 8), .mv (.t 18), 0, none⟩] [0, 1, 7, 8])))))))
   (.seq
    (.reg false [⟨0, (some 4), .mv (.c (.int .i64 (-1))), 0, none⟩] [4])
    (.ret)))

theorem ok126 : okF Tryz.prog 126 2 c126 [.tmp 4] = true := by kernel_rfl

/-- slices.Clone[[]int,int] -/
def c127 : C :=
 .seq
  (.reg false [⟨0, (some 2), .mv (.c (.nils)), 0, none⟩] [0])
  (.seq
   (.seq
    (.reg false [⟨0, (some 3), .mv (.t 0), 0, none⟩, ⟨1, (some 4), .eqa false (.t 3) (.c (.nils)), 0, none⟩] [0, 4])
    (.cond (.t 4)
     (.seq
      (.reg false [⟨0, (some 2), .mv (.c (.nils)), 0, none⟩] [2])
      (.ret))
     (.skip)))
   (.seq
    (.reg false [⟨0, (some 5), .bsl 1 0 [] [], 0, none⟩, ⟨1, (some 6), .mv (.t 0), 0, none⟩, ⟨2, (some 7), .app 1 8 (.t 5) (.t 6), 0, none⟩, ⟨3, (some 2), .mv (.t 7), 0, none⟩] [2])
    (.ret)))

theorem ok127 : okF Tryz.prog 127 1 c127 [.tmp 2] = true := by kernel_rfl

/-- dauber/field.number -/
def c128 : C :=
 .seq
  (.reg false [⟨0, (some 4), .mv (.c (.int .i64 (0))), 0, none⟩] [0, 1])
  (.seq
   (.reg false [⟨0, (some 5), .mv (.c (.int .i64 (0))), 0, none⟩] [0, 1, 5])
   (.seq
    (.seq
     (.reg false [⟨0, (some 7), .mv (.t 0), 0, none⟩, ⟨1, (some 8), .len none (.t 7), 0, none⟩, ⟨2, (some 9), .bin .sub (.t 8) (.c (.int .i64 (1))), 0, none⟩, ⟨3, (some 6), .mv (.t 9), 0, none⟩] [0, 1, 5, 6])
     (.blk 0
      (.loop [0, 1, 5, 6]
       (.seq
        (.seq
         (.reg false [⟨0, (some 10), .mv (.t 6), 0, none⟩, ⟨1, (some 11), .bin .geq (.t 10) (.c (.int .i64 (0))), 0, none⟩] [0, 1, 5, 6, 11])
         (.cond (.t 11)
          (.skip)
          (.exit 0)))
        (.seq
         (.blk 1
          (.reg false [⟨0, (some 14), .mv (.t 5), 0, none⟩, ⟨1, (some 15), .mv (.t 1), 0, none⟩, ⟨2, (some 16), .bin .mul (.t 14) (.t 15), 0, none⟩, ⟨3, (some 17), .mv (.t 0), 0, none⟩, ⟨4, (some 18), .mv (.t 6), 0, none⟩, ⟨5, (some 19), .iaddr none 1 (.t 17) (.t 18), 0, none⟩, ⟨6, (some 20), .load none (.t 19), 0, none⟩, ⟨7, (some 21), .bin .add (.t 16) (.t 20), 0, none⟩, ⟨8, (some 5), .mv (.t 21), 0, none⟩] [0, 1, 5, 6]))
         (.reg false [⟨0, (some 12), .mv (.t 6), 0, none⟩, ⟨1, (some 13), .bin .sub (.t 12) (.c (.int .i64 (1))), 0, none⟩, ⟨2, (some 6), .mv (.t 13), 0, none⟩] [0, 1, 5, 6]))))))
    (.seq
     (.reg false [⟨0, (some 22), .mv (.t 5), 0, none⟩, ⟨1, (some 4), .mv (.t 22), 0, none⟩] [4])
     (.ret))))

theorem ok128 : okF Tryz.prog 128 2 c128 [.tmp 4] = true := by kernel_rfl

/-- dauber/field.value[int] -/
def c129 : C :=
 .seq
  (.reg false [⟨0, (some 10), .mv (.c (.int .i64 (0))), 0, none⟩] [0, 1, 2, 3, 4])
  (.seq
   (.reg false [⟨0, (some 13), .mv (.t 2), 0, none⟩, ⟨1, (some 11), .mv (.t 13), 0, none⟩] [0, 1, 3, 4, 11])
   (.seq
    (.seq
     (.reg false [⟨0, (some 14), .mv (.t 0), 0, none⟩, ⟨1, (some 15), .len none (.t 14), 0, none⟩, ⟨2, (some 16), .bin .sub (.t 15) (.c (.int .i64 (1))), 0, none⟩, ⟨3, (some 12), .mv (.t 16), 0, none⟩] [0, 1, 3, 4, 11, 12])
     (.blk 0
      (.loop [0, 1, 3, 4, 11, 12]
       (.seq
        (.seq
         (.reg false [⟨0, (some 17), .mv (.t 12), 0, none⟩, ⟨1, (some 18), .bin .geq (.t 17) (.c (.int .i64 (0))), 0, none⟩] [0, 1, 3, 4, 11, 12, 18])
         (.cond (.t 18)
          (.skip)
          (.exit 0)))
        (.seq
         (.blk 1
          (.reg true [⟨0, (some 21), .mv (.t 3), 0, none⟩, ⟨1, (some 22), .mv (.t 4), 0, none⟩, ⟨2, (some 23), .mv (.t 11), 0, none⟩, ⟨3, (some 24), .mv (.t 1), 0, none⟩, ⟨5, (some 26), .mv (.t 0), 0, none⟩, ⟨6, (some 27), .mv (.t 12), 0, none⟩, ⟨7, (some 28), .iaddr none 1 (.t 26) (.t 27), 0, none⟩, ⟨8, (some 29), .load none (.t 28), 0, none⟩, ⟨4, (some 25), .callv (.t 22) [.t 23, .t 24], 1, none⟩, ⟨9, (some 30), .callv (.t 21) [.t 25, .t 29], 1, none⟩, ⟨10, (some 11), .mv (.t 30), 0, none⟩] [0, 1, 3, 4, 11, 12]))
         (.reg false [⟨0, (some 19), .mv (.t 12), 0, none⟩, ⟨1, (some 20), .bin .sub (.t 19) (.c (.int .i64 (1))), 0, none⟩, ⟨2, (some 12), .mv (.t 20), 0, none⟩] [0, 1, 3, 4, 11, 12]))))))
    (.seq
     (.reg false [⟨0, (some 31), .mv (.t 11), 0, none⟩, ⟨1, (some 10), .mv (.t 31), 0, none⟩] [10])
     (.ret))))

theorem ok129 : okF Tryz.prog 129 5 c129 [.tmp 10] = true := by kernel_rfl

/-- dauber/field.trim -/
def c130 : C :=
 .seq
  (.reg false [⟨0, (some 2), .mv (.c (.nils)), 0, none⟩] [0])
  (.seq
   (.reg false [⟨0, (some 4), .mv (.t 0), 0, none⟩, ⟨1, (some 5), .len none (.t 4), 0, none⟩, ⟨2, (some 3), .mv (.t 5), 0, none⟩] [0, 3])
   (.seq
    (.blk 0
     (.loop [0, 3]
      (.seq
       (.seq
        (.reg false [⟨0, (some 6), .mv (.t 3), 0, none⟩, ⟨1, (some 7), .bin .gtr (.t 6) (.c (.int .i64 (0))), 0, none⟩, ⟨2, (some 8), .mv (.t 7), 0, none⟩, ⟨3, (some 9), .mv (.t 0), 0, (some (8, true))⟩, ⟨4, (some 10), .mv (.t 3), 0, (some (8, true))⟩, ⟨5, (some 11), .bin .sub (.t 10) (.c (.int .i64 (1))), 0, (some (8, true))⟩, ⟨6, (some 12), .iaddr none 1 (.t 9) (.t 11), 0, (some (8, true))⟩, ⟨7, (some 13), .load none (.t 12), 0, (some (8, true))⟩, ⟨8, (some 14), .bin .eql (.t 13) (.c (.int .i64 (0))), 0, (some (8, true))⟩, ⟨9, (some 15), .pick (.t 8) (.t 14) (.c (.bool false)), 0, none⟩] [0, 3, 15])
        (.cond (.t 15)
         (.skip)
         (.exit 0)))
       (.blk 1
        (.reg false [⟨0, (some 16), .mv (.t 3), 0, none⟩, ⟨1, (some 17), .bin .sub (.t 16) (.c (.int .i64 (1))), 0, none⟩, ⟨2, (some 3), .mv (.t 17), 0, none⟩] [0, 3])))))
    (.seq
     (.reg false [⟨0, (some 18), .mv (.t 0), 0, none⟩, ⟨1, (some 19), .mv (.t 3), 0, none⟩, ⟨2, (some 20), .mv (.t 3), 0, none⟩, ⟨3, (some 21), .slc none 1 (.t 18) none (some (.t 19)) (some (.t 20)), 0, none⟩, ⟨4, (some 2), .mv (.t 21), 0, none⟩] [2])
     (.ret))))

theorem ok130 : okF Tryz.prog 130 1 c130 [.tmp 2] = true := by kernel_rfl

/-- dauber/dauberref02.times -/
def c131 : C :=
 .seq
  (.reg false [⟨0, (some 6), .mv (.c (.int .i64 (0))), 0, none⟩] [0, 1, 2])
  (.seq
   (.reg false [⟨0, (some 12), .mv (.t 0), 0, none⟩, ⟨1, (some 13), .mv (.t 2), 0, none⟩, ⟨2, (some 14), .call 115 [.t 12, .t 13], 2, none⟩, ⟨3, (some 15), .mv (.t 1), 0, none⟩, ⟨4, (some 16), .mv (.t 2), 0, none⟩, ⟨5, (some 17), .call 115 [.t 15, .t 16], 2, none⟩, ⟨6, (some 7), .mv (.t 14), 0, none⟩, ⟨7, (some 8), .mv (.t 17), 0, none⟩] [2, 7, 8])
   (.seq
    (.seq
     (.reg false [⟨0, (some 18), .mv (.t 7), 0, none⟩, ⟨1, (some 19), .len none (.t 18), 0, none⟩, ⟨2, (some 20), .bin .eql (.t 19) (.c (.int .i64 (0))), 0, none⟩, ⟨3, (some 21), .mv (.t 20), 0, none⟩, ⟨4, (some 22), .mv (.t 8), 0, (some (21, false))⟩, ⟨5, (some 23), .len none (.t 22), 0, (some (21, false))⟩, ⟨6, (some 24), .bin .eql (.t 23) (.c (.int .i64 (0))), 0, (some (21, false))⟩, ⟨7, (some 25), .pick (.t 21) (.c (.bool true)) (.t 24), 0, none⟩] [2, 7, 8, 25])
     (.cond (.t 25)
      (.seq
       (.reg false [⟨0, (some 6), .mv (.c (.int .i64 (0))), 0, none⟩] [6])
       (.ret))
      (.skip)))
    (.seq
     (.reg false [⟨0, (some 26), .mv (.t 7), 0, none⟩, ⟨1, (some 27), .len none (.t 26), 0, none⟩, ⟨2, (some 28), .mv (.t 8), 0, none⟩, ⟨3, (some 29), .len none (.t 28), 0, none⟩, ⟨4, (some 30), .bin .add (.t 27) (.t 29), 0, none⟩, ⟨5, (some 31), .bin .sub (.t 30) (.c (.int .i64 (1))), 0, none⟩, ⟨6, (some 32), .mksl 1 8 [.int .i64 (0)] (.t 31) (.t 31), 0, none⟩, ⟨7, (some 9), .mv (.t 32), 0, none⟩] [2, 7, 8, 9])
     (.seq
      (.seq
       (.reg false [⟨0, (some 10), .mv (.c (.int .i64 (0))), 0, none⟩] [2, 7, 8, 9, 10])
       (.blk 0
        (.loop [2, 7, 8, 9, 10]
         (.seq
          (.seq
           (.reg false [⟨0, (some 33), .mv (.t 10), 0, none⟩, ⟨1, (some 34), .mv (.t 7), 0, none⟩, ⟨2, (some 35), .len none (.t 34), 0, none⟩, ⟨3, (some 36), .bin .lss (.t 33) (.t 35), 0, none⟩] [2, 7, 8, 9, 10, 36])
           (.cond (.t 36)
            (.skip)
            (.exit 0)))
          (.seq
           (.blk 1
            (.seq
             (.reg false [⟨0, (some 11), .mv (.c (.int .i64 (0))), 0, none⟩] [2, 7, 8, 9, 10, 11])
             (.blk 2
              (.loop [2, 7, 8, 9, 10, 11]
               (.seq
                (.seq
                 (.reg false [⟨0, (some 39), .mv (.t 11), 0, none⟩, ⟨1, (some 40), .mv (.t 8), 0, none⟩, ⟨2, (some 41), .len none (.t 40), 0, none⟩, ⟨3, (some 42), .bin .lss (.t 39) (.t 41), 0, none⟩] [2, 7, 8, 9, 10, 11, 42])
                 (.cond (.t 42)
                  (.skip)
                  (.exit 2)))
                (.seq
                 (.blk 3
                  (.reg true [⟨0, (some 45), .mv (.t 9), 0, none⟩, ⟨1, (some 46), .mv (.t 10), 0, none⟩, ⟨2, (some 47), .mv (.t 11), 0, none⟩, ⟨3, (some 48), .bin .add (.t 46) (.t 47), 0, none⟩, ⟨4, (some 49), .mv (.t 9), 0, none⟩, ⟨5, (some 50), .mv (.t 10), 0, none⟩, ⟨6, (some 51), .mv (.t 11), 0, none⟩, ⟨7, (some 52), .bin .add (.t 50) (.t 51), 0, none⟩, ⟨8, (some 53), .iaddr none 1 (.t 49) (.t 52), 0, none⟩, ⟨10, (some 55), .mv (.t 7), 0, none⟩, ⟨11, (some 56), .mv (.t 10), 0, none⟩, ⟨12, (some 57), .iaddr none 1 (.t 55) (.t 56), 0, none⟩, ⟨14, (some 59), .mv (.t 8), 0, none⟩, ⟨15, (some 60), .mv (.t 11), 0, none⟩, ⟨16, (some 61), .iaddr none 1 (.t 59) (.t 60), 0, none⟩, ⟨20, (some 65), .mv (.t 2), 0, none⟩, ⟨9, (some 54), .load none (.t 53), 0, none⟩, ⟨13, (some 58), .load none (.t 57), 0, none⟩, ⟨17, (some 62), .load none (.t 61), 0, none⟩, ⟨18, (some 63), .bin .mul (.t 58) (.t 62), 0, none⟩, ⟨19, (some 64), .bin .add (.t 54) (.t 63), 0, none⟩, ⟨21, (some 66), .bin .rem (.t 64) (.t 65), 0, none⟩, ⟨22, (some 67), .iaddr none 1 (.t 45) (.t 48), 0, none⟩, ⟨23, none, .store 1 (.t 67) (.t 66), 0, none⟩] [2, 7, 8, 9, 10, 11]))
                 (.reg false [⟨0, (some 43), .mv (.t 11), 0, none⟩, ⟨1, (some 44), .bin .add (.t 43) (.c (.int .i64 (1))), 0, none⟩, ⟨2, (some 11), .mv (.t 44), 0, none⟩] [2, 7, 8, 9, 10, 11])))))))
           (.reg false [⟨0, (some 37), .mv (.t 10), 0, none⟩, ⟨1, (some 38), .bin .add (.t 37) (.c (.int .i64 (1))), 0, none⟩, ⟨2, (some 10), .mv (.t 38), 0, none⟩] [2, 7, 8, 9, 10]))))))
      (.seq
       (.reg false [⟨0, (some 68), .mv (.t 9), 0, none⟩, ⟨1, (some 69), .mv (.t 2), 0, none⟩, ⟨2, (some 70), .call 116 [.t 68, .t 69], 2, none⟩, ⟨3, (some 6), .mv (.t 70), 0, none⟩] [6])
       (.ret))))))

theorem ok131 : okF Tryz.prog 131 3 c131 [.tmp 6] = true := by kernel_rfl

/-- (*dauber/code.works).left -/
def c132 : C :=
 .seq
  (.reg false [⟨0, (some 4), .mv (.c (.nils)), 0, none⟩] [0, 1])
  (.seq
   (.reg false [⟨0, (some 5), .nilo 1, 0, none⟩] [0, 1, 5])
   (.seq
    (.seq
     (.reg false [⟨0, (some 7), .mv (.t 0), 0, none⟩, ⟨1, (some 8), .nilc (.t 7), 0, none⟩, ⟨2, (some 9), .faddr 0 (.t 8), 0, none⟩, ⟨3, (some 10), .faddr 1 (.t 9), 0, none⟩, ⟨4, (some 11), .load none (.t 10), 0, none⟩, ⟨5, (some 12), .len none (.t 11), 0, none⟩, ⟨6, (some 13), .mv (.c (.int .i64 (0))), 0, none⟩] [1, 5, 12, 13])
     (.blk 0
      (.loop [1, 5, 12, 13]
       (.seq
        (.reg false [⟨0, (some 14), .bin .lss (.t 13) (.t 12), 0, none⟩] [1, 5, 12, 13, 14])
        (.seq
         (.cond (.t 14)
          (.skip)
          (.exit 0))
         (.seq
          (.blk 1
           (.seq
            (.reg false [⟨0, (some 15), .mv (.t 13), 0, none⟩, ⟨1, (some 6), .mv (.t 15), 0, none⟩] [1, 5, 6, 12, 13])
            (.seq
             (.reg false [⟨0, (some 16), .mv (.t 1), 0, none⟩, ⟨1, (some 17), .mv (.t 6), 0, none⟩, ⟨2, (some 18), .call 144 [.t 16, .t 17], 2, none⟩, ⟨3, (some 19), .un .not (.t 18), 0, none⟩] [1, 5, 6, 12, 13, 19])
             (.cond (.t 19)
              (.reg false [⟨0, (some 20), .mv (.t 5), 0, none⟩, ⟨1, (some 21), .mv (.t 6), 0, none⟩, ⟨2, (some 22), .bsl 1 1 [.int .i64 (0)] [(0, 1, .t 21)], 0, none⟩, ⟨3, (some 23), .app 1 8 (.t 20) (.t 22), 0, none⟩, ⟨4, (some 5), .mv (.t 23), 0, none⟩] [1, 5, 12, 13])
              (.skip)))))
          (.reg false [⟨0, (some 24), .bin .add (.t 13) (.c (.int .i64 (1))), 0, none⟩, ⟨1, (some 13), .mv (.t 24), 0, none⟩] [1, 5, 12, 13])))))))
    (.seq
     (.reg false [⟨0, (some 25), .mv (.t 5), 0, none⟩, ⟨1, (some 4), .mv (.t 25), 0, none⟩] [4])
     (.ret))))

theorem ok132 : okF Tryz.prog 132 2 c132 [.tmp 4] = true := by kernel_rfl

/-- (*dauber/field.Field).Sub -/
def c133 : C :=
 .seq
  (.reg false [⟨0, (some 6), .mv (.c (.int .i64 (0))), 0, none⟩] [0, 1, 2])
  (.seq
   (.seq
    (.reg false [⟨0, (some 7), .mv (.t 0), 0, none⟩, ⟨1, (some 8), .eqn 0 false (.t 7) (.c (.nilp)), 0, none⟩] [0, 1, 2, 8])
    (.cond (.t 8)
     (.seq
      (.reg false [⟨0, (some 6), .mv (.c (.int .i64 (0))), 0, none⟩] [6])
      (.ret))
     (.skip)))
   (.seq
    (.reg true [⟨0, (some 9), .mv (.t 0), 0, none⟩, ⟨1, (some 10), .nilc (.t 9), 0, none⟩, ⟨2, (some 11), .faddr 0 (.t 10), 0, none⟩, ⟨4, (some 13), .mv (.t 0), 0, none⟩, ⟨5, (some 14), .mv (.t 1), 0, none⟩, ⟨7, (some 16), .mv (.t 0), 0, none⟩, ⟨8, (some 17), .mv (.t 2), 0, none⟩, ⟨3, (some 12), .load none (.t 11), 0, none⟩, ⟨10, (some 19), .nilc (.t 12), 0, none⟩, ⟨11, (some 20), .mv (.t 12), 0, none⟩, ⟨6, (some 15), .call 145 [.t 13, .t 14], 1, none⟩, ⟨9, (some 18), .call 145 [.t 16, .t 17], 1, none⟩, ⟨12, (some 21), .inv "dauber/field.difference" (.t 20) [.t 15, .t 18], 1, none⟩, ⟨13, (some 6), .mv (.t 21), 0, none⟩] [6])
    (.ret)))

theorem ok133 : okF Tryz.prog 133 3 c133 [.tmp 6] = true := by kernel_rfl

/-- (*dauber/field.Field).Product -/
def c134 : C :=
 .seq
  (.reg false [⟨0, (some 6), .mv (.c (.nils)), 0, none⟩, ⟨1, (some 7), .mv (.c (.int .i64 (0))), 0, none⟩] [0, 1, 2])
  (.seq
   (.seq
    (.reg false [⟨0, (some 9), .mv (.t 0), 0, none⟩, ⟨1, (some 10), .mv (.t 1), 0, none⟩, ⟨2, (some 11), .mv (.t 2), 0, none⟩, ⟨3, (some 12), .call 146 [.t 9, .t 10, .t 11], 2, none⟩, ⟨4, (some 8), .mv (.t 12), 0, none⟩] [0, 1, 2, 8])
    (.seq
     (.reg false [⟨0, (some 13), .mv (.t 8), 0, none⟩, ⟨1, (some 14), .bin .neq (.t 13) (.c (.int .i64 (0))), 0, none⟩] [0, 1, 2, 8, 14])
     (.cond (.t 14)
      (.seq
       (.reg false [⟨0, (some 15), .mv (.t 8), 0, none⟩, ⟨1, (some 6), .mv (.c (.nils)), 0, none⟩, ⟨2, (some 7), .mv (.t 15), 0, none⟩] [6, 7])
       (.ret))
      (.skip))))
   (.seq
    (.reg false [⟨0, (some 16), .mv (.t 0), 0, none⟩, ⟨1, (some 17), .mv (.t 1), 0, none⟩, ⟨2, (some 18), .mv (.t 2), 0, none⟩, ⟨3, (some 19), .call 114 [.t 16, .t 17, .t 18], 2, none⟩, ⟨4, (some 6), .mv (.t 19), 0, none⟩, ⟨5, (some 7), .mv (.c (.int .i64 (0))), 0, none⟩] [6, 7])
    (.ret)))

theorem ok134 : okF Tryz.prog 134 3 c134 [.tmp 6, .tmp 7] = true := by kernel_rfl

/-- (*dauber/code.works).radius -/
def c135 : C :=
 .seq
  (.reg false [⟨0, (some 4), .mv (.c (.int .i64 (0))), 0, none⟩] [0, 1])
  (.seq
   (.reg true [⟨0, (some 5), .mv (.t 0), 0, none⟩, ⟨1, (some 6), .nilc (.t 5), 0, none⟩, ⟨2, (some 7), .faddr 0 (.t 6), 0, none⟩, ⟨3, (some 8), .faddr 1 (.t 7), 0, none⟩, ⟨6, (some 11), .mv (.t 1), 0, none⟩, ⟨7, (some 12), .len none (.t 11), 0, none⟩, ⟨9, (some 14), .mv (.t 0), 0, none⟩, ⟨10, (some 15), .nilc (.t 14), 0, none⟩, ⟨11, (some 16), .faddr 0 (.t 15), 0, none⟩, ⟨12, (some 17), .faddr 2 (.t 16), 0, none⟩, ⟨4, (some 9), .load none (.t 8), 0, none⟩, ⟨5, (some 10), .len none (.t 9), 0, none⟩, ⟨8, (some 13), .bin .sub (.t 10) (.t 12), 0, none⟩, ⟨13, (some 18), .load none (.t 17), 0, none⟩, ⟨14, (some 19), .bin .sub (.t 13) (.t 18), 0, none⟩, ⟨15, (some 20), .bin .quo (.t 19) (.c (.int .i64 (2))), 0, none⟩, ⟨16, (some 4), .mv (.t 20), 0, none⟩] [4])
   (.ret))

theorem ok135 : okF Tryz.prog 135 2 c135 [.tmp 4] = true := by kernel_rfl

/-- (*dauber/field.Field).Divide -/
def c136 : C :=
 .seq
  (.reg false [⟨0, (some 6), .mv (.c (.nils)), 0, none⟩, ⟨1, (some 7), .mv (.c (.nils)), 0, none⟩, ⟨2, (some 8), .mv (.c (.int .i64 (0))), 0, none⟩] [0, 1, 2])
  (.seq
   (.seq
    (.reg false [⟨0, (some 10), .mv (.t 0), 0, none⟩, ⟨1, (some 11), .mv (.t 1), 0, none⟩, ⟨2, (some 12), .mv (.t 2), 0, none⟩, ⟨3, (some 13), .call 146 [.t 10, .t 11, .t 12], 2, none⟩, ⟨4, (some 9), .mv (.t 13), 0, none⟩] [0, 1, 2, 9])
    (.seq
     (.reg false [⟨0, (some 14), .mv (.t 9), 0, none⟩, ⟨1, (some 15), .bin .neq (.t 14) (.c (.int .i64 (0))), 0, none⟩] [0, 1, 2, 9, 15])
     (.cond (.t 15)
      (.seq
       (.reg false [⟨0, (some 16), .mv (.t 9), 0, none⟩, ⟨1, (some 6), .mv (.c (.nils)), 0, none⟩, ⟨2, (some 7), .mv (.c (.nils)), 0, none⟩, ⟨3, (some 8), .mv (.t 16), 0, none⟩] [6, 7, 8])
       (.ret))
      (.skip))))
   (.seq
    (.seq
     (.reg false [⟨0, (some 17), .mv (.t 2), 0, none⟩, ⟨1, (some 18), .len none (.t 17), 0, none⟩, ⟨2, (some 19), .bin .eql (.t 18) (.c (.int .i64 (0))), 0, none⟩] [0, 1, 2, 19])
     (.cond (.t 19)
      (.seq
       (.reg false [⟨0, (some 6), .mv (.c (.nils)), 0, none⟩, ⟨1, (some 7), .mv (.c (.nils)), 0, none⟩, ⟨2, (some 8), .mv (.c (.int .i64 (6))), 0, none⟩] [6, 7, 8])
       (.ret))
      (.skip)))
    (.seq
     (.reg false [⟨0, (some 21), .mv (.t 0), 0, none⟩, ⟨1, (some 22), .mv (.t 1), 0, none⟩, ⟨2, (some 23), .mv (.t 2), 0, none⟩, ⟨3, (some 24), .call 147 [.t 21, .t 22, .t 23], 2, none⟩, ⟨4, (some 20), .mv (.t 24), 0, none⟩, ⟨5, (some 25), .ext 0 (.t 20), 0, none⟩, ⟨6, (some 26), .ext 1 (.t 20), 0, none⟩, ⟨7, (some 6), .mv (.t 25), 0, none⟩, ⟨8, (some 7), .mv (.t 26), 0, none⟩] [6, 7])
     (.seq
      (.reg false [⟨0, (some 27), .mv (.t 6), 0, none⟩, ⟨1, (some 28), .mv (.t 7), 0, none⟩, ⟨2, (some 6), .mv (.t 27), 0, none⟩, ⟨3, (some 7), .mv (.t 28), 0, none⟩, ⟨4, (some 8), .mv (.c (.int .i64 (0))), 0, none⟩] [6, 7, 8])
      (.ret)))))

theorem ok136 : okF Tryz.prog 136 3 c136 [.tmp 6, .tmp 7, .tmp 8] = true := by kernel_rfl

/-- (*dauber/code.works).less -/
def c137 : C :=
 .seq
  (.reg false [⟨0, (some 6), .mv (.c (.nils)), 0, none⟩] [0, 1, 2])
  (.seq
   (.reg false [⟨0, (some 10), .mv (.t 1), 0, none⟩, ⟨1, (some 11), .len none (.t 10), 0, none⟩, ⟨2, (some 12), .mv (.t 2), 0, none⟩, ⟨3, (some 13), .len none (.t 12), 0, none⟩, ⟨4, (some 14), .mx [.t 11, .t 13], 0, none⟩, ⟨5, (some 15), .mksl 1 8 [.int .i64 (0)] (.t 14) (.t 14), 0, none⟩, ⟨6, (some 7), .mv (.t 15), 0, none⟩] [0, 1, 2, 7])
   (.seq
    (.reg false [⟨0, (some 16), .mv (.t 7), 0, none⟩, ⟨1, (some 17), .mv (.t 1), 0, none⟩, ⟨2, (some 18), .cpy 1 (.t 16) (.t 17), 0, none⟩] [0, 2, 7])
    (.seq
     (.seq
      (.reg false [⟨0, (some 19), .mv (.t 2), 0, none⟩, ⟨1, (some 20), .len none (.t 19), 0, none⟩, ⟨2, (some 21), .mv (.c (.int .i64 (0))), 0, none⟩] [0, 7, 19, 20, 21])
      (.blk 0
       (.loop [0, 7, 19, 20, 21]
        (.seq
         (.reg false [⟨0, (some 22), .bin .lss (.t 21) (.t 20), 0, none⟩] [0, 7, 19, 20, 21, 22])
         (.seq
          (.cond (.t 22)
           (.skip)
           (.exit 0))
          (.seq
           (.blk 1
            (.seq
             (.reg false [⟨0, (some 23), .mv (.t 21), 0, none⟩, ⟨1, (some 24), .iaddr none 1 (.t 19) (.t 21), 0, none⟩, ⟨2, (some 25), .load none (.t 24), 0, none⟩, ⟨3, (some 8), .mv (.t 23), 0, none⟩, ⟨4, (some 9), .mv (.t 25), 0, none⟩] [0, 7, 8, 9, 19, 20, 21])
             (.reg true [⟨0, (some 26), .mv (.t 7), 0, none⟩, ⟨1, (some 27), .mv (.t 8), 0, none⟩, ⟨2, (some 28), .mv (.t 0), 0, none⟩, ⟨3, (some 29), .nilc (.t 28), 0, none⟩, ⟨4, (some 30), .faddr 3 (.t 29), 0, none⟩, ⟨6, (some 32), .mv (.t 7), 0, none⟩, ⟨7, (some 33), .mv (.t 8), 0, none⟩, ⟨8, (some 34), .iaddr none 1 (.t 32) (.t 33), 0, none⟩, ⟨10, (some 36), .mv (.t 9), 0, none⟩, ⟨5, (some 31), .load none (.t 30), 0, none⟩, ⟨9, (some 35), .load none (.t 34), 0, none⟩, ⟨11, (some 37), .call 133 [.t 31, .t 35, .t 36], 2, none⟩, ⟨12, (some 38), .iaddr none 1 (.t 26) (.t 27), 0, none⟩, ⟨13, none, .store 1 (.t 38) (.t 37), 0, none⟩] [0, 7, 19, 20, 21])))
           (.reg false [⟨0, (some 39), .bin .add (.t 21) (.c (.int .i64 (1))), 0, none⟩, ⟨1, (some 21), .mv (.t 39), 0, none⟩] [0, 7, 19, 20, 21])))))))
     (.seq
      (.reg false [⟨0, (some 40), .mv (.t 7), 0, none⟩, ⟨1, (some 41), .call 148 [.t 40], 2, none⟩, ⟨2, (some 6), .mv (.t 41), 0, none⟩] [6])
      (.ret)))))

theorem ok137 : okF Tryz.prog 137 3 c137 [.tmp 6] = true := by kernel_rfl

/-- (*dauber/code.works).word -/
def c138 : C :=
 .seq
  (.reg false [⟨0, (some 4), .mv (.c (.nils)), 0, none⟩] [0, 1])
  (.seq
   (.reg false [⟨0, (some 5), .nilo 1, 0, none⟩] [0, 1, 5])
   (.seq
    (.seq
     (.reg false [⟨0, (some 10), .mv (.t 0), 0, none⟩, ⟨1, (some 11), .nilc (.t 10), 0, none⟩, ⟨2, (some 12), .faddr 0 (.t 11), 0, none⟩, ⟨3, (some 13), .faddr 1 (.t 12), 0, none⟩, ⟨4, (some 14), .load none (.t 13), 0, none⟩, ⟨5, (some 15), .len none (.t 14), 0, none⟩, ⟨6, (some 16), .mv (.c (.int .i64 (0))), 0, none⟩] [0, 1, 5, 14, 15, 16])
     (.blk 0
      (.loop [0, 1, 5, 14, 15, 16]
       (.seq
        (.reg false [⟨0, (some 17), .bin .lss (.t 16) (.t 15), 0, none⟩] [0, 1, 5, 14, 15, 16, 17])
        (.seq
         (.cond (.t 17)
          (.skip)
          (.exit 0))
         (.seq
          (.blk 1
           (.seq
            (.reg false [⟨0, (some 18), .iaddr none 1 (.t 14) (.t 16), 0, none⟩, ⟨1, (some 19), .load none (.t 18), 0, none⟩, ⟨2, (some 7), .mv (.t 19), 0, none⟩] [0, 1, 5, 7, 14, 15, 16])
            (.seq
             (.reg false [⟨0, (some 21), .mv (.t 0), 0, none⟩, ⟨1, (some 22), .nilc (.t 21), 0, none⟩, ⟨2, (some 23), .faddr 3 (.t 22), 0, none⟩, ⟨3, (some 24), .load none (.t 23), 0, none⟩, ⟨4, (some 25), .mv (.t 1), 0, none⟩, ⟨5, (some 26), .mv (.t 7), 0, none⟩, ⟨6, (some 27), .call 149 [.t 24, .t 25, .t 26], 2, none⟩, ⟨7, (some 20), .mv (.t 27), 0, none⟩, ⟨8, (some 28), .ext 0 (.t 20), 0, none⟩, ⟨9, (some 29), .ext 1 (.t 20), 0, none⟩, ⟨10, (some 8), .mv (.t 28), 0, none⟩, ⟨11, (some 9), .mv (.t 29), 0, none⟩] [0, 1, 5, 8, 14, 15, 16])
             (.reg false [⟨0, (some 30), .mv (.t 5), 0, none⟩, ⟨1, (some 31), .mv (.t 8), 0, none⟩, ⟨2, (some 32), .bsl 1 1 [.int .i64 (0)] [(0, 1, .t 31)], 0, none⟩, ⟨3, (some 33), .app 1 8 (.t 30) (.t 32), 0, none⟩, ⟨4, (some 5), .mv (.t 33), 0, none⟩] [0, 1, 5, 14, 15, 16]))))
          (.reg false [⟨0, (some 34), .bin .add (.t 16) (.c (.int .i64 (1))), 0, none⟩, ⟨1, (some 16), .mv (.t 34), 0, none⟩] [0, 1, 5, 14, 15, 16])))))))
    (.seq
     (.reg false [⟨0, (some 35), .mv (.t 5), 0, none⟩, ⟨1, (some 4), .mv (.t 35), 0, none⟩] [4])
     (.ret))))

theorem ok138 : okF Tryz.prog 138 2 c138 [.tmp 4] = true := by kernel_rfl

/-- dauber/code.differ -/
def c139 : C :=
 .seq
  (.reg false [⟨0, (some 6), .mv (.c (.int .i64 (0))), 0, none⟩] [0, 1, 2])
  (.seq
   (.reg false [⟨0, (some 7), .mv (.c (.int .i64 (0))), 0, none⟩] [0, 1, 2, 7])
   (.seq
    (.seq
     (.reg false [⟨0, (some 10), .mv (.t 2), 0, none⟩, ⟨1, (some 11), .len none (.t 10), 0, none⟩, ⟨2, (some 12), .mv (.c (.int .i64 (0))), 0, none⟩] [0, 1, 7, 10, 11, 12])
     (.blk 0
      (.loop [0, 1, 7, 10, 11, 12]
       (.seq
        (.reg false [⟨0, (some 13), .bin .lss (.t 12) (.t 11), 0, none⟩] [0, 1, 7, 10, 11, 12, 13])
        (.seq
         (.cond (.t 13)
          (.skip)
          (.exit 0))
         (.seq
          (.blk 1
           (.seq
            (.reg false [⟨0, (some 14), .iaddr none 1 (.t 10) (.t 12), 0, none⟩, ⟨1, (some 15), .load none (.t 14), 0, none⟩, ⟨2, (some 9), .mv (.t 15), 0, none⟩] [0, 1, 7, 9, 10, 11, 12])
            (.seq
             (.reg true [⟨0, (some 16), .mv (.t 0), 0, none⟩, ⟨1, (some 17), .mv (.t 9), 0, none⟩, ⟨2, (some 18), .iaddr none 1 (.t 16) (.t 17), 0, none⟩, ⟨4, (some 20), .mv (.t 1), 0, none⟩, ⟨5, (some 21), .mv (.t 9), 0, none⟩, ⟨6, (some 22), .iaddr none 1 (.t 20) (.t 21), 0, none⟩, ⟨3, (some 19), .load none (.t 18), 0, none⟩, ⟨7, (some 23), .load none (.t 22), 0, none⟩, ⟨8, (some 24), .bin .neq (.t 19) (.t 23), 0, none⟩] [0, 1, 7, 10, 11, 12, 24])
             (.cond (.t 24)
              (.reg false [⟨0, (some 25), .mv (.t 7), 0, none⟩, ⟨1, (some 26), .bin .add (.t 25) (.c (.int .i64 (1))), 0, none⟩, ⟨2, (some 7), .mv (.t 26), 0, none⟩] [0, 1, 7, 10, 11, 12])
              (.skip)))))
          (.reg false [⟨0, (some 27), .bin .add (.t 12) (.c (.int .i64 (1))), 0, none⟩, ⟨1, (some 12), .mv (.t 27), 0, none⟩] [0, 1, 7, 10, 11, 12])))))))
    (.seq
     (.reg false [⟨0, (some 28), .mv (.t 7), 0, none⟩, ⟨1, (some 6), .mv (.t 28), 0, none⟩] [6])
     (.ret))))

theorem ok139 : okF Tryz.prog 139 3 c139 [.tmp 6] = true := by kernel_rfl

/-- dauber/code.areElements$1 -/
def c140 : C :=
 .seq
  (.reg false [⟨0, (some 3), .mv (.c (.bool false)), 0, none⟩] [0, 1])
  (.seq
   (.reg false [⟨0, (some 4), .mv (.t 0), 0, none⟩, ⟨1, (some 5), .bin .lss (.t 4) (.c (.int .i64 (0))), 0, none⟩, ⟨2, (some 6), .mv (.t 5), 0, none⟩, ⟨3, (some 7), .mv (.t 0), 0, (some (6, false))⟩, ⟨4, (some 8), .load none (.t 1), 0, (some (6, false))⟩, ⟨5, (some 9), .bin .geq (.t 7) (.t 8), 0, (some (6, false))⟩, ⟨6, (some 10), .pick (.t 6) (.c (.bool true)) (.t 9), 0, none⟩, ⟨7, (some 3), .mv (.t 10), 0, none⟩] [3])
   (.ret))

theorem ok140 : okF Tryz.prog 140 2 c140 [.tmp 3] = true := by kernel_rfl

/-- slices.Sorted[int] -/
def c141 : C :=
 .seq
  (.reg false [⟨0, (some 2), .mv (.c (.nils)), 0, none⟩] [0])
  (.seq
   (.reg false [⟨0, (some 4), .mv (.t 0), 0, none⟩, ⟨1, (some 5), .call 150 [.t 4], 2, none⟩, ⟨2, (some 3), .mv (.t 5), 0, none⟩] [3])
   (.seq
    (.reg false [⟨0, (some 6), .mv (.t 3), 0, none⟩, ⟨1, (some 7), .call 151 [.t 6], 2, none⟩] [3])
    (.seq
     (.reg false [⟨0, (some 8), .mv (.t 3), 0, none⟩, ⟨1, (some 2), .mv (.t 8), 0, none⟩] [2])
     (.ret))))

theorem ok141 : okF Tryz.prog 141 1 c141 [.tmp 2] = true := by kernel_rfl

/-- slices.Values[[]int,int] -/
def c142 : C :=
 .seq
  (.reg false [⟨0, (some 1), .box 1 (.t 0), 0, none⟩, ⟨1, (some 2), .mv (.c (.nilf)), 0, none⟩] [1])
  (.seq
   (.reg false [⟨0, (some 3), .mkfn (.func 152) [] [.t 1], 0, none⟩, ⟨1, (some 2), .mv (.t 3), 0, none⟩] [2])
   (.ret))

theorem ok142 : okF Tryz.prog 142 1 c142 [.tmp 2] = true := by kernel_rfl

/-- slices.Compact[[]int,int] -/
def c143 : C :=
 .seq
  (.reg false [⟨0, (some 2), .mv (.c (.nils)), 0, none⟩] [0])
  (.seq
   (.seq
    (.reg false [⟨0, (some 6), .mv (.t 0), 0, none⟩, ⟨1, (some 7), .len none (.t 6), 0, none⟩, ⟨2, (some 8), .bin .lss (.t 7) (.c (.int .i64 (2))), 0, none⟩] [0, 8])
    (.cond (.t 8)
     (.seq
      (.reg false [⟨0, (some 9), .mv (.t 0), 0, none⟩, ⟨1, (some 2), .mv (.t 9), 0, none⟩] [2])
      (.ret))
     (.skip)))
   (.seq
    (.seq
     (.reg false [⟨0, (some 3), .mv (.c (.int .i64 (1))), 0, none⟩] [0, 3])
     (.blk 0
      (.loop [0, 3]
       (.seq
        (.seq
         (.reg false [⟨0, (some 10), .mv (.t 3), 0, none⟩, ⟨1, (some 11), .mv (.t 0), 0, none⟩, ⟨2, (some 12), .len none (.t 11), 0, none⟩, ⟨3, (some 13), .bin .lss (.t 10) (.t 12), 0, none⟩] [0, 3, 13])
         (.cond (.t 13)
          (.skip)
          (.exit 0)))
        (.seq
         (.blk 1
          (.seq
           (.reg true [⟨0, (some 16), .mv (.t 0), 0, none⟩, ⟨1, (some 17), .mv (.t 3), 0, none⟩, ⟨2, (some 18), .iaddr none 1 (.t 16) (.t 17), 0, none⟩, ⟨4, (some 20), .mv (.t 0), 0, none⟩, ⟨5, (some 21), .mv (.t 3), 0, none⟩, ⟨6, (some 22), .bin .sub (.t 21) (.c (.int .i64 (1))), 0, none⟩, ⟨7, (some 23), .iaddr none 1 (.t 20) (.t 22), 0, none⟩, ⟨3, (some 19), .load none (.t 18), 0, none⟩, ⟨8, (some 24), .load none (.t 23), 0, none⟩, ⟨9, (some 25), .bin .eql (.t 19) (.t 24), 0, none⟩] [0, 3, 25])
           (.cond (.t 25)
            (.seq
             (.reg false [⟨0, (some 26), .mv (.t 0), 0, none⟩, ⟨1, (some 27), .mv (.t 3), 0, none⟩, ⟨2, (some 28), .slc none 1 (.t 26) (some (.t 27)) none none, 0, none⟩, ⟨3, (some 4), .mv (.t 28), 0, none⟩] [0, 3, 4])
             (.seq
              (.seq
               (.reg false [⟨0, (some 5), .mv (.c (.int .i64 (1))), 0, none⟩] [0, 3, 4, 5])
               (.blk 2
                (.loop [0, 3, 4, 5]
                 (.seq
                  (.seq
                   (.reg false [⟨0, (some 29), .mv (.t 5), 0, none⟩, ⟨1, (some 30), .mv (.t 4), 0, none⟩, ⟨2, (some 31), .len none (.t 30), 0, none⟩, ⟨3, (some 32), .bin .lss (.t 29) (.t 31), 0, none⟩] [0, 3, 4, 5, 32])
                   (.cond (.t 32)
                    (.skip)
                    (.exit 2)))
                  (.seq
                   (.blk 3
                    (.seq
                     (.reg true [⟨0, (some 35), .mv (.t 4), 0, none⟩, ⟨1, (some 36), .mv (.t 5), 0, none⟩, ⟨2, (some 37), .iaddr none 1 (.t 35) (.t 36), 0, none⟩, ⟨4, (some 39), .mv (.t 4), 0, none⟩, ⟨5, (some 40), .mv (.t 5), 0, none⟩, ⟨6, (some 41), .bin .sub (.t 40) (.c (.int .i64 (1))), 0, none⟩, ⟨7, (some 42), .iaddr none 1 (.t 39) (.t 41), 0, none⟩, ⟨3, (some 38), .load none (.t 37), 0, none⟩, ⟨8, (some 43), .load none (.t 42), 0, none⟩, ⟨9, (some 44), .bin .neq (.t 38) (.t 43), 0, none⟩] [0, 3, 4, 5, 44])
                     (.cond (.t 44)
                      (.seq
                       (.reg false [⟨0, (some 45), .mv (.t 0), 0, none⟩, ⟨1, (some 46), .mv (.t 3), 0, none⟩, ⟨2, (some 47), .mv (.t 4), 0, none⟩, ⟨3, (some 48), .mv (.t 5), 0, none⟩, ⟨4, (some 49), .iaddr none 1 (.t 47) (.t 48), 0, none⟩, ⟨5, (some 50), .load none (.t 49), 0, none⟩, ⟨6, (some 51), .iaddr none 1 (.t 45) (.t 46), 0, none⟩, ⟨7, none, .store 1 (.t 51) (.t 50), 0, none⟩] [0, 3, 4, 5])
                       (.reg false [⟨0, (some 52), .mv (.t 3), 0, none⟩, ⟨1, (some 53), .bin .add (.t 52) (.c (.int .i64 (1))), 0, none⟩, ⟨2, (some 3), .mv (.t 53), 0, none⟩] [0, 3, 4, 5]))
                      (.skip))))
                   (.reg false [⟨0, (some 33), .mv (.t 5), 0, none⟩, ⟨1, (some 34), .bin .add (.t 33) (.c (.int .i64 (1))), 0, none⟩, ⟨2, (some 5), .mv (.t 34), 0, none⟩] [0, 3, 4, 5]))))))
              (.seq
               (.reg false [⟨0, (some 54), .mv (.t 0), 0, none⟩, ⟨1, (some 55), .mv (.t 3), 0, none⟩, ⟨2, (some 56), .slc none 1 (.t 54) (some (.t 55)) none none, 0, none⟩, ⟨3, none, .bad, 2, none⟩] [0, 3])
               (.seq
                (.reg false [⟨0, (some 57), .mv (.t 0), 0, none⟩, ⟨1, (some 58), .mv (.t 3), 0, none⟩, ⟨2, (some 59), .slc none 1 (.t 57) none (some (.t 58)) none, 0, none⟩, ⟨3, (some 2), .mv (.t 59), 0, none⟩] [2])
                (.ret)))))
            (.skip))))
         (.reg false [⟨0, (some 14), .mv (.t 3), 0, none⟩, ⟨1, (some 15), .bin .add (.t 14) (.c (.int .i64 (1))), 0, none⟩, ⟨2, (some 3), .mv (.t 15), 0, none⟩] [0, 3]))))))
    (.seq
     (.reg false [⟨0, (some 60), .mv (.t 0), 0, none⟩, ⟨1, (some 2), .mv (.t 60), 0, none⟩] [2])
     (.ret))))

theorem ok143 : okF Tryz.prog 143 1 c143 [.tmp 2] = true := by kernel_rfl

/-- slices.Contains[[]int,int] -/
def c144 : C :=
 .seq
  (.reg false [⟨0, (some 4), .mv (.c (.bool false)), 0, none⟩] [0, 1])
  (.seq
   (.reg false [⟨0, (some 5), .mv (.t 0), 0, none⟩, ⟨1, (some 6), .mv (.t 1), 0, none⟩, ⟨2, (some 7), .call 153 [.t 5, .t 6], 2, none⟩, ⟨3, (some 8), .bin .geq (.t 7) (.c (.int .i64 (0))), 0, none⟩, ⟨4, (some 4), .mv (.t 8), 0, none⟩] [4])
   (.ret))

theorem ok144 : okF Tryz.prog 144 2 c144 [.tmp 4] = true := by kernel_rfl

/-- (*dauber/field.Field).in -/
def c145 : C :=
 .seq
  (.reg false [⟨0, (some 4), .mv (.c (.int .i64 (0))), 0, none⟩] [0, 1])
  (.seq
   (.reg true [⟨0, (some 5), .mv (.t 1), 0, none⟩, ⟨1, (some 6), .mv (.t 0), 0, none⟩, ⟨2, (some 7), .nilc (.t 6), 0, none⟩, ⟨3, (some 8), .faddr 1 (.t 7), 0, none⟩, ⟨6, (some 11), .mv (.t 0), 0, none⟩, ⟨7, (some 12), .nilc (.t 11), 0, none⟩, ⟨8, (some 13), .faddr 1 (.t 12), 0, none⟩, ⟨11, (some 16), .mv (.t 0), 0, none⟩, ⟨12, (some 17), .nilc (.t 16), 0, none⟩, ⟨13, (some 18), .faddr 1 (.t 17), 0, none⟩, ⟨4, (some 9), .load none (.t 8), 0, none⟩, ⟨5, (some 10), .bin .rem (.t 5) (.t 9), 0, none⟩, ⟨9, (some 14), .load none (.t 13), 0, none⟩, ⟨10, (some 15), .bin .add (.t 10) (.t 14), 0, none⟩, ⟨14, (some 19), .load none (.t 18), 0, none⟩, ⟨15, (some 20), .bin .rem (.t 15) (.t 19), 0, none⟩, ⟨16, (some 4), .mv (.t 20), 0, none⟩] [4])
   (.ret))

theorem ok145 : okF Tryz.prog 145 2 c145 [.tmp 4] = true := by kernel_rfl

/-- (*dauber/field.Field).both -/
def c146 : C :=
 .seq
  (.reg false [⟨0, (some 6), .mv (.c (.int .i64 (0))), 0, none⟩] [0, 1, 2])
  (.seq
   (.seq
    (.reg false [⟨0, (some 8), .mv (.t 0), 0, none⟩, ⟨1, (some 9), .mv (.t 1), 0, none⟩, ⟨2, (some 10), .call 154 [.t 8, .t 9], 2, none⟩, ⟨3, (some 7), .mv (.t 10), 0, none⟩] [0, 2, 7])
    (.seq
     (.reg false [⟨0, (some 11), .mv (.t 7), 0, none⟩, ⟨1, (some 12), .bin .neq (.t 11) (.c (.int .i64 (0))), 0, none⟩] [0, 2, 7, 12])
     (.cond (.t 12)
      (.seq
       (.reg false [⟨0, (some 13), .mv (.t 7), 0, none⟩, ⟨1, (some 6), .mv (.t 13), 0, none⟩] [6])
       (.ret))
      (.skip))))
   (.seq
    (.reg false [⟨0, (some 14), .mv (.t 0), 0, none⟩, ⟨1, (some 15), .mv (.t 2), 0, none⟩, ⟨2, (some 16), .call 154 [.t 14, .t 15], 2, none⟩, ⟨3, (some 6), .mv (.t 16), 0, none⟩] [6])
    (.ret)))

theorem ok146 : okF Tryz.prog 146 3 c146 [.tmp 6] = true := by kernel_rfl

/-- (*dauber/field.Field).over -/
def c147 : C :=
 .seq
  (.reg false [⟨0, (some 6), .mv (.c (.nils)), 0, none⟩, ⟨1, (some 7), .mv (.c (.nils)), 0, none⟩] [0, 1, 2])
  (.seq
   (.reg false [⟨0, (some 13), .mv (.t 1), 0, none⟩, ⟨1, (some 14), .call 127 [.t 13], 2, none⟩, ⟨2, (some 7), .mv (.t 14), 0, none⟩] [0, 1, 2, 7])
   (.seq
    (.seq
     (.reg false [⟨0, (some 15), .mv (.t 1), 0, none⟩, ⟨1, (some 16), .len none (.t 15), 0, none⟩, ⟨2, (some 17), .mv (.t 2), 0, none⟩, ⟨3, (some 18), .len none (.t 17), 0, none⟩, ⟨4, (some 19), .bin .lss (.t 16) (.t 18), 0, none⟩] [0, 1, 2, 7, 19])
     (.cond (.t 19)
      (.seq
       (.reg false [⟨0, (some 20), .mv (.t 7), 0, none⟩, ⟨1, (some 6), .mv (.c (.nils)), 0, none⟩, ⟨2, (some 7), .mv (.t 20), 0, none⟩] [6, 7])
       (.ret))
      (.skip)))
    (.seq
     (.reg false [⟨0, (some 21), .mv (.t 1), 0, none⟩, ⟨1, (some 22), .len none (.t 21), 0, none⟩, ⟨2, (some 23), .mv (.t 2), 0, none⟩, ⟨3, (some 24), .len none (.t 23), 0, none⟩, ⟨4, (some 25), .bin .sub (.t 22) (.t 24), 0, none⟩, ⟨5, (some 26), .bin .add (.t 25) (.c (.int .i64 (1))), 0, none⟩, ⟨6, (some 27), .mksl 1 8 [.int .i64 (0)] (.t 26) (.t 26), 0, none⟩, ⟨7, (some 6), .mv (.t 27), 0, none⟩] [0, 2, 6, 7])
     (.seq
      (.reg true [⟨0, (some 28), .mv (.t 0), 0, none⟩, ⟨1, (some 29), .nilc (.t 28), 0, none⟩, ⟨2, (some 30), .faddr 0 (.t 29), 0, none⟩, ⟨4, (some 32), .mv (.t 2), 0, none⟩, ⟨5, (some 33), .mv (.t 2), 0, none⟩, ⟨6, (some 34), .len none (.t 33), 0, none⟩, ⟨7, (some 35), .bin .sub (.t 34) (.c (.int .i64 (1))), 0, none⟩, ⟨8, (some 36), .iaddr none 1 (.t 32) (.t 35), 0, none⟩, ⟨3, (some 31), .load none (.t 30), 0, none⟩, ⟨10, (some 38), .nilc (.t 31), 0, none⟩, ⟨11, (some 39), .mv (.t 31), 0, none⟩, ⟨9, (some 37), .load none (.t 36), 0, none⟩, ⟨12, (some 40), .inv "dauber/field.inverse" (.t 39) [.t 37], 2, none⟩, ⟨13, (some 8), .mv (.t 40), 0, none⟩] [0, 2, 6, 7, 8])
      (.seq
       (.seq
        (.reg false [⟨0, (some 41), .mv (.t 6), 0, none⟩, ⟨1, (some 42), .len none (.t 41), 0, none⟩, ⟨2, (some 43), .bin .sub (.t 42) (.c (.int .i64 (1))), 0, none⟩, ⟨3, (some 9), .mv (.t 43), 0, none⟩] [0, 2, 6, 7, 8, 9])
        (.blk 0
         (.loop [0, 2, 6, 7, 8, 9]
          (.seq
           (.seq
            (.reg false [⟨0, (some 44), .mv (.t 9), 0, none⟩, ⟨1, (some 45), .bin .geq (.t 44) (.c (.int .i64 (0))), 0, none⟩] [0, 2, 6, 7, 8, 9, 45])
            (.cond (.t 45)
             (.skip)
             (.exit 0)))
           (.seq
            (.blk 1
             (.seq
              (.reg true [⟨0, (some 48), .mv (.t 0), 0, none⟩, ⟨1, (some 49), .nilc (.t 48), 0, none⟩, ⟨2, (some 50), .faddr 0 (.t 49), 0, none⟩, ⟨4, (some 52), .mv (.t 7), 0, none⟩, ⟨5, (some 53), .mv (.t 9), 0, none⟩, ⟨6, (some 54), .mv (.t 2), 0, none⟩, ⟨7, (some 55), .len none (.t 54), 0, none⟩, ⟨8, (some 56), .bin .add (.t 53) (.t 55), 0, none⟩, ⟨9, (some 57), .bin .sub (.t 56) (.c (.int .i64 (1))), 0, none⟩, ⟨10, (some 58), .iaddr none 1 (.t 52) (.t 57), 0, none⟩, ⟨12, (some 60), .mv (.t 8), 0, none⟩, ⟨3, (some 51), .load none (.t 50), 0, none⟩, ⟨13, (some 61), .nilc (.t 51), 0, none⟩, ⟨14, (some 62), .mv (.t 51), 0, none⟩, ⟨11, (some 59), .load none (.t 58), 0, none⟩, ⟨15, (some 63), .inv "dauber/field.product" (.t 62) [.t 59, .t 60], 2, none⟩, ⟨16, (some 10), .mv (.t 63), 0, none⟩] [0, 2, 6, 7, 8, 9, 10])
              (.seq
               (.reg false [⟨0, (some 64), .mv (.t 6), 0, none⟩, ⟨1, (some 65), .mv (.t 9), 0, none⟩, ⟨2, (some 66), .mv (.t 10), 0, none⟩, ⟨3, (some 67), .iaddr none 1 (.t 64) (.t 65), 0, none⟩, ⟨4, none, .store 1 (.t 67) (.t 66), 0, none⟩] [0, 2, 6, 7, 8, 9, 10])
               (.seq
                (.reg false [⟨0, (some 68), .mv (.t 2), 0, none⟩, ⟨1, (some 69), .len none (.t 68), 0, none⟩, ⟨2, (some 70), .mv (.c (.int .i64 (0))), 0, none⟩] [0, 2, 6, 7, 8, 9, 10, 68, 69, 70])
                (.blk 2
                 (.loop [0, 2, 6, 7, 8, 9, 10, 68, 69, 70]
                  (.seq
                   (.reg false [⟨0, (some 71), .bin .lss (.t 70) (.t 69), 0, none⟩] [0, 2, 6, 7, 8, 9, 10, 68, 69, 70, 71])
                   (.seq
                    (.cond (.t 71)
                     (.skip)
                     (.exit 2))
                    (.seq
                     (.blk 3
                      (.seq
                       (.reg false [⟨0, (some 72), .mv (.t 70), 0, none⟩, ⟨1, (some 73), .iaddr none 1 (.t 68) (.t 70), 0, none⟩, ⟨2, (some 74), .load none (.t 73), 0, none⟩, ⟨3, (some 11), .mv (.t 72), 0, none⟩, ⟨4, (some 12), .mv (.t 74), 0, none⟩] [0, 2, 6, 7, 8, 9, 10, 11, 12, 68, 69, 70])
                       (.reg true [⟨0, (some 75), .mv (.t 7), 0, none⟩, ⟨1, (some 76), .mv (.t 9), 0, none⟩, ⟨2, (some 77), .mv (.t 11), 0, none⟩, ⟨3, (some 78), .bin .add (.t 76) (.t 77), 0, none⟩, ⟨4, (some 79), .mv (.t 0), 0, none⟩, ⟨5, (some 80), .nilc (.t 79), 0, none⟩, ⟨6, (some 81), .faddr 0 (.t 80), 0, none⟩, ⟨8, (some 83), .mv (.t 7), 0, none⟩, ⟨9, (some 84), .mv (.t 9), 0, none⟩, ⟨10, (some 85), .mv (.t 11), 0, none⟩, ⟨11, (some 86), .bin .add (.t 84) (.t 85), 0, none⟩, ⟨12, (some 87), .iaddr none 1 (.t 83) (.t 86), 0, none⟩, ⟨14, (some 89), .mv (.t 0), 0, none⟩, ⟨15, (some 90), .nilc (.t 89), 0, none⟩, ⟨16, (some 91), .faddr 0 (.t 90), 0, none⟩, ⟨18, (some 93), .mv (.t 10), 0, none⟩, ⟨19, (some 94), .mv (.t 12), 0, none⟩, ⟨7, (some 82), .load none (.t 81), 0, none⟩, ⟨21, (some 96), .nilc (.t 82), 0, none⟩, ⟨22, (some 97), .mv (.t 82), 0, none⟩, ⟨13, (some 88), .load none (.t 87), 0, none⟩, ⟨17, (some 92), .load none (.t 91), 0, none⟩, ⟨20, (some 95), .inv "dauber/field.product" (.t 92) [.t 93, .t 94], 1, none⟩, ⟨23, (some 98), .inv "dauber/field.difference" (.t 97) [.t 88, .t 95], 1, none⟩, ⟨24, (some 99), .iaddr none 1 (.t 75) (.t 78), 0, none⟩, ⟨25, none, .store 1 (.t 99) (.t 98), 0, none⟩] [0, 2, 6, 7, 8, 9, 10, 68, 69, 70])))
                     (.reg false [⟨0, (some 100), .bin .add (.t 70) (.c (.int .i64 (1))), 0, none⟩, ⟨1, (some 70), .mv (.t 100), 0, none⟩] [0, 2, 6, 7, 8, 9, 10, 68, 69, 70]))))))))))
            (.reg false [⟨0, (some 46), .mv (.t 9), 0, none⟩, ⟨1, (some 47), .bin .sub (.t 46) (.c (.int .i64 (1))), 0, none⟩, ⟨2, (some 9), .mv (.t 47), 0, none⟩] [0, 2, 6, 7, 8, 9]))))))
       (.seq
        (.reg false [⟨0, (some 101), .mv (.t 6), 0, none⟩, ⟨1, (some 102), .call 130 [.t 101], 2, none⟩, ⟨2, (some 103), .mv (.t 7), 0, none⟩, ⟨3, (some 104), .call 130 [.t 103], 2, none⟩, ⟨4, (some 6), .mv (.t 102), 0, none⟩, ⟨5, (some 7), .mv (.t 104), 0, none⟩] [6, 7])
        (.ret)))))))

theorem ok147 : okF Tryz.prog 147 3 c147 [.tmp 6, .tmp 7] = true := by kernel_rfl

/-- dauber/code.trim -/
def c148 : C :=
 .seq
  (.reg false [⟨0, (some 2), .mv (.c (.nils)), 0, none⟩] [0])
  (.seq
   (.reg false [⟨0, (some 4), .mv (.t 0), 0, none⟩, ⟨1, (some 5), .len none (.t 4), 0, none⟩, ⟨2, (some 3), .mv (.t 5), 0, none⟩] [0, 3])
   (.seq
    (.blk 0
     (.loop [0, 3]
      (.seq
       (.seq
        (.reg false [⟨0, (some 6), .mv (.t 3), 0, none⟩, ⟨1, (some 7), .bin .gtr (.t 6) (.c (.int .i64 (0))), 0, none⟩, ⟨2, (some 8), .mv (.t 7), 0, none⟩, ⟨3, (some 9), .mv (.t 0), 0, (some (8, true))⟩, ⟨4, (some 10), .mv (.t 3), 0, (some (8, true))⟩, ⟨5, (some 11), .bin .sub (.t 10) (.c (.int .i64 (1))), 0, (some (8, true))⟩, ⟨6, (some 12), .iaddr none 1 (.t 9) (.t 11), 0, (some (8, true))⟩, ⟨7, (some 13), .load none (.t 12), 0, (some (8, true))⟩, ⟨8, (some 14), .bin .eql (.t 13) (.c (.int .i64 (0))), 0, (some (8, true))⟩, ⟨9, (some 15), .pick (.t 8) (.t 14) (.c (.bool false)), 0, none⟩] [0, 3, 15])
        (.cond (.t 15)
         (.skip)
         (.exit 0)))
       (.blk 1
        (.reg false [⟨0, (some 16), .mv (.t 3), 0, none⟩, ⟨1, (some 17), .bin .sub (.t 16) (.c (.int .i64 (1))), 0, none⟩, ⟨2, (some 3), .mv (.t 17), 0, none⟩] [0, 3])))))
    (.seq
     (.reg false [⟨0, (some 18), .mv (.t 0), 0, none⟩, ⟨1, (some 19), .mv (.t 3), 0, none⟩, ⟨2, (some 20), .slc none 1 (.t 18) none (some (.t 19)) none, 0, none⟩, ⟨3, (some 21), .call 127 [.t 20], 2, none⟩, ⟨4, (some 2), .mv (.t 21), 0, none⟩] [2])
     (.ret))))

theorem ok148 : okF Tryz.prog 148 1 c148 [.tmp 2] = true := by kernel_rfl

/-- (*dauber/field.Field).Value -/
def c149 : C :=
 .seq
  (.reg false [⟨0, (some 6), .mv (.c (.int .i64 (0))), 0, none⟩, ⟨1, (some 7), .mv (.c (.int .i64 (0))), 0, none⟩] [0, 1, 2])
  (.seq
   (.seq
    (.reg false [⟨0, (some 9), .mv (.t 0), 0, none⟩, ⟨1, (some 10), .mv (.t 1), 0, none⟩, ⟨2, (some 11), .call 154 [.t 9, .t 10], 2, none⟩, ⟨3, (some 8), .mv (.t 11), 0, none⟩] [0, 1, 2, 8])
    (.seq
     (.reg false [⟨0, (some 12), .mv (.t 8), 0, none⟩, ⟨1, (some 13), .bin .neq (.t 12) (.c (.int .i64 (0))), 0, none⟩] [0, 1, 2, 8, 13])
     (.cond (.t 13)
      (.seq
       (.reg false [⟨0, (some 14), .mv (.t 8), 0, none⟩, ⟨1, (some 6), .mv (.c (.int .i64 (0))), 0, none⟩, ⟨2, (some 7), .mv (.t 14), 0, none⟩] [6, 7])
       (.ret))
      (.skip))))
   (.seq
    (.reg false [⟨0, (some 15), .mv (.t 0), 0, none⟩, ⟨1, (some 16), .mv (.t 1), 0, none⟩, ⟨2, (some 17), .mv (.t 0), 0, none⟩, ⟨3, (some 18), .mv (.t 2), 0, none⟩, ⟨4, (some 19), .call 145 [.t 17, .t 18], 2, none⟩, ⟨5, (some 20), .call 112 [.t 15, .t 16, .t 19], 2, none⟩, ⟨6, (some 6), .mv (.t 20), 0, none⟩, ⟨7, (some 7), .mv (.c (.int .i64 (0))), 0, none⟩] [6, 7])
    (.ret)))

theorem ok149 : okF Tryz.prog 149 3 c149 [.tmp 6, .tmp 7] = true := by kernel_rfl

/-- slices.Collect[int] -/
def c150 : C :=
 .seq
  (.reg false [⟨0, (some 2), .mv (.c (.nils)), 0, none⟩] [0])
  (.seq
   (.reg false [⟨0, (some 3), .mv (.t 0), 0, none⟩, ⟨1, (some 4), .call 155 [.c (.nils), .t 3], 2, none⟩, ⟨2, (some 2), .mv (.t 4), 0, none⟩] [2])
   (.ret))

theorem ok150 : okF Tryz.prog 150 1 c150 [.tmp 2] = true := by kernel_rfl

/-- slices.Sort[[]int,int] -/
def c151 : C :=
 .seq
  (.reg false [⟨0, (some 3), .mv (.t 0), 0, none⟩, ⟨1, (some 4), .len none (.t 3), 0, none⟩, ⟨2, (some 2), .mv (.t 4), 0, none⟩] [0, 2])
  (.reg false [⟨0, (some 5), .mv (.t 0), 0, none⟩, ⟨1, (some 6), .mv (.t 2), 0, none⟩, ⟨2, (some 7), .mv (.t 2), 0, none⟩, ⟨3, (some 8), .cvt .u64 (.t 7), 0, none⟩, ⟨4, (some 9), .call 157 [.t 8], 2, none⟩, ⟨5, (some 10), .call 156 [.t 5, .c (.int .i64 (0)), .t 6, .t 9], 2, none⟩] [])

theorem ok151 : okF Tryz.prog 151 1 c151 [] = true := by kernel_rfl

/-- slices.Values[[]int,int]$1 -/
def c152 : C :=
 .seq
  (.reg false [⟨0, (some 5), .load none (.t 1), 0, none⟩, ⟨1, (some 6), .len none (.t 5), 0, none⟩, ⟨2, (some 7), .mv (.c (.int .i64 (0))), 0, none⟩] [0, 5, 6, 7])
  (.blk 0
   (.loop [0, 5, 6, 7]
    (.seq
     (.reg false [⟨0, (some 8), .bin .lss (.t 7) (.t 6), 0, none⟩] [0, 5, 6, 7, 8])
     (.seq
      (.cond (.t 8)
       (.skip)
       (.exit 0))
      (.seq
       (.blk 1
        (.seq
         (.reg false [⟨0, (some 9), .iaddr none 1 (.t 5) (.t 7), 0, none⟩, ⟨1, (some 10), .load none (.t 9), 0, none⟩, ⟨2, (some 4), .mv (.t 10), 0, none⟩] [0, 4, 5, 6, 7])
         (.seq
          (.reg false [⟨0, (some 11), .mv (.t 0), 0, none⟩, ⟨1, (some 12), .mv (.t 4), 0, none⟩, ⟨2, (some 13), .callv (.t 11) [.t 12], 2, none⟩, ⟨3, (some 14), .un .not (.t 13), 0, none⟩] [0, 5, 6, 7, 14])
          (.cond (.t 14)
           (.ret)
           (.skip)))))
       (.reg false [⟨0, (some 15), .bin .add (.t 7) (.c (.int .i64 (1))), 0, none⟩, ⟨1, (some 7), .mv (.t 15), 0, none⟩] [0, 5, 6, 7]))))))

theorem ok152 : okF Tryz.prog 152 2 c152 [] = true := by kernel_rfl

/-- slices.Index[[]int,int] -/
def c153 : C :=
 .seq
  (.reg false [⟨0, (some 4), .mv (.c (.int .i64 (0))), 0, none⟩] [0, 1])
  (.seq
   (.seq
    (.reg false [⟨0, (some 6), .mv (.t 0), 0, none⟩, ⟨1, (some 7), .len none (.t 6), 0, none⟩, ⟨2, (some 8), .mv (.c (.int .i64 (0))), 0, none⟩] [0, 1, 7, 8])
    (.blk 0
     (.loop [0, 1, 7, 8]
      (.seq
       (.reg false [⟨0, (some 9), .bin .lss (.t 8) (.t 7), 0, none⟩] [0, 1, 7, 8, 9])
       (.seq
        (.cond (.t 9)
         (.skip)
         (.exit 0))
        (.seq
         (.blk 1
          (.seq
           (.reg false [⟨0, (some 10), .mv (.t 8), 0, none⟩, ⟨1, (some 5), .mv (.t 10), 0, none⟩] [0, 1, 5, 7, 8])
           (.seq
            (.reg false [⟨0, (some 11), .mv (.t 1), 0, none⟩, ⟨1, (some 12), .mv (.t 0), 0, none⟩, ⟨2, (some 13), .mv (.t 5), 0, none⟩, ⟨3, (some 14), .iaddr none 1 (.t 12) (.t 13), 0, none⟩, ⟨4, (some 15), .load none (.t 14), 0, none⟩, ⟨5, (some 16), .bin .eql (.t 11) (.t 15), 0, none⟩] [0, 1, 5, 7, 8, 16])
            (.cond (.t 16)
             (.seq
              (.reg false [⟨0, (some 17), .mv (.t 5), 0, none⟩, ⟨1, (some 4), .mv (.t 17), 0, none⟩] [4])
              (.ret))
             (.skip)))))
         (.reg false [⟨0, (some 18), .bin .add (.t 8) (.c (.int .i64 (1))), 0, none⟩, ⟨1, (some 8), .mv (.t 18), 0, none⟩] [0, 1, 7, 8])))))))
   (.seq
    (.reg false [⟨0, (some 4), .mv (.c (.int .i64 (-1))), 0, none⟩] [4])
    (.ret)))

theorem ok153 : okF Tryz.prog 153 2 c153 [.tmp 4] = true := by kernel_rfl

/-- (*dauber/field.Field).Check -/
def c154 : C :=
 .seq
  (.reg false [⟨0, (some 4), .mv (.c (.int .i64 (0))), 0, none⟩] [0, 1])
  (.seq
   (.seq
    (.reg false [⟨0, (some 5), .mv (.t 0), 0, none⟩, ⟨1, (some 6), .eqn 0 false (.t 5) (.c (.nilp)), 0, none⟩] [0, 1, 6])
    (.cond (.t 6)
     (.seq
      (.reg false [⟨0, (some 4), .mv (.c (.int .i64 (3))), 0, none⟩] [4])
      (.ret))
     (.skip)))
   (.seq
    (.seq
     (.reg false [⟨0, (some 7), .mv (.t 1), 0, none⟩, ⟨1, (some 8), .len none (.t 7), 0, none⟩, ⟨2, (some 9), .bin .gtr (.t 8) (.c (.int .i64 (200))), 0, none⟩] [0, 1, 9])
     (.cond (.t 9)
      (.seq
       (.reg false [⟨0, (some 4), .mv (.c (.int .i64 (2))), 0, none⟩] [4])
       (.ret))
      (.skip)))
    (.seq
     (.seq
      (.reg false [⟨0, (some 10), .mv (.t 0), 0, none⟩, ⟨1, (some 11), .mv (.t 1), 0, none⟩, ⟨2, (some 12), .call 82 [.t 10, .t 11], 2, none⟩, ⟨3, (some 13), .un .not (.t 12), 0, none⟩, ⟨4, (some 14), .mv (.t 13), 0, none⟩, ⟨5, (some 15), .mv (.t 1), 0, (some (14, false))⟩, ⟨6, (some 16), .len none (.t 15), 0, (some (14, false))⟩, ⟨7, (some 17), .bin .gtr (.t 16) (.c (.int .i64 (0))), 0, (some (14, false))⟩, ⟨8, (some 18), .mv (.t 17), 0, (some (14, false))⟩, ⟨9, (some 19), .mv (.t 1), 0, (some (18, true))⟩, ⟨10, (some 20), .mv (.t 1), 0, (some (18, true))⟩, ⟨11, (some 21), .len none (.t 20), 0, (some (18, true))⟩, ⟨12, (some 22), .bin .sub (.t 21) (.c (.int .i64 (1))), 0, (some (18, true))⟩, ⟨13, (some 23), .iaddr none 1 (.t 19) (.t 22), 0, (some (18, true))⟩, ⟨14, (some 24), .load none (.t 23), 0, (some (18, true))⟩, ⟨15, (some 25), .bin .eql (.t 24) (.c (.int .i64 (0))), 0, (some (18, true))⟩, ⟨16, (some 26), .pick (.t 18) (.t 25) (.c (.bool false)), 0, (some (14, false))⟩, ⟨17, (some 27), .pick (.t 14) (.c (.bool true)) (.t 26), 0, none⟩] [27])
      (.cond (.t 27)
       (.seq
        (.reg false [⟨0, (some 4), .mv (.c (.int .i64 (1))), 0, none⟩] [4])
        (.ret))
       (.skip)))
     (.seq
      (.reg false [⟨0, (some 4), .mv (.c (.int .i64 (0))), 0, none⟩] [4])
      (.ret)))))

theorem ok154 : okF Tryz.prog 154 2 c154 [.tmp 4] = true := by kernel_rfl

/-- slices.AppendSeq[[]int,int] -/
def c155 : C :=
 .seq
  (.reg false [⟨0, (some 2), .box 1 (.t 0), 0, none⟩, ⟨1, (some 4), .mv (.c (.nils)), 0, none⟩] [1, 2])
  (.seq
   (.seq
    (.reg false [⟨0, (some 6), .mv (.t 1), 0, none⟩] [2, 6])
    (.blk 0
     (.rf (.t 6) [7]
      (.reg false [⟨0, (some 5), .mv (.t 7), 0, none⟩] [2, 5])
      (.blk 1
       (.reg false [⟨0, (some 8), .load none (.t 2), 0, none⟩, ⟨1, (some 9), .mv (.t 5), 0, none⟩, ⟨2, (some 10), .bsl 1 1 [.int .i64 (0)] [(0, 1, .t 9)], 0, none⟩, ⟨3, (some 11), .app 1 8 (.t 8) (.t 10), 0, none⟩, ⟨4, none, .store 1 (.t 2) (.t 11), 0, none⟩] [])))))
   (.seq
    (.reg false [⟨0, (some 12), .load none (.t 2), 0, none⟩, ⟨1, (some 4), .mv (.t 12), 0, none⟩] [4])
    (.ret)))

theorem ok155 : okF Tryz.prog 155 2 c155 [.tmp 4] = true := by kernel_rfl

/-- slices.pdqsortOrdered[int] -/
def c156 : C :=
 .seq
  (.reg false [⟨0, (some 8), .mv (.c (.bool true)), 0, none⟩] [0, 1, 2, 3, 8])
  (.seq
   (.reg false [⟨0, (some 9), .mv (.c (.bool true)), 0, none⟩] [0, 1, 2, 3, 8, 9])
   (.blk 0
    (.loop [0, 1, 2, 3, 8, 9]
     (.blk 1
      (.seq
       (.reg false [⟨0, (some 19), .mv (.t 2), 0, none⟩, ⟨1, (some 20), .mv (.t 1), 0, none⟩, ⟨2, (some 21), .bin .sub (.t 19) (.t 20), 0, none⟩, ⟨3, (some 10), .mv (.t 21), 0, none⟩] [0, 1, 2, 3, 8, 9, 10])
       (.seq
        (.seq
         (.reg false [⟨0, (some 22), .mv (.t 10), 0, none⟩, ⟨1, (some 23), .bin .leq (.t 22) (.c (.int .i64 (12))), 0, none⟩] [0, 1, 2, 3, 8, 9, 10, 23])
         (.cond (.t 23)
          (.seq
           (.reg false [⟨0, (some 24), .mv (.t 0), 0, none⟩, ⟨1, (some 25), .mv (.t 1), 0, none⟩, ⟨2, (some 26), .mv (.t 2), 0, none⟩, ⟨3, (some 27), .call 158 [.t 24, .t 25, .t 26], 2, none⟩] [])
           (.ret))
          (.skip)))
        (.seq
         (.seq
          (.reg false [⟨0, (some 28), .mv (.t 3), 0, none⟩, ⟨1, (some 29), .bin .eql (.t 28) (.c (.int .i64 (0))), 0, none⟩] [0, 1, 2, 3, 8, 9, 10, 29])
          (.cond (.t 29)
           (.seq
            (.reg false [⟨0, (some 30), .mv (.t 0), 0, none⟩, ⟨1, (some 31), .mv (.t 1), 0, none⟩, ⟨2, (some 32), .mv (.t 2), 0, none⟩, ⟨3, (some 33), .call 159 [.t 30, .t 31, .t 32], 2, none⟩] [])
            (.ret))
           (.skip)))
         (.seq
          (.seq
           (.reg false [⟨0, (some 34), .mv (.t 8), 0, none⟩, ⟨1, (some 35), .un .not (.t 34), 0, none⟩] [0, 1, 2, 3, 8, 9, 10, 35])
           (.cond (.t 35)
            (.seq
             (.reg false [⟨0, (some 36), .mv (.t 0), 0, none⟩, ⟨1, (some 37), .mv (.t 1), 0, none⟩, ⟨2, (some 38), .mv (.t 2), 0, none⟩, ⟨3, (some 39), .call 160 [.t 36, .t 37, .t 38], 2, none⟩] [0, 1, 2, 3, 8, 9, 10])
             (.reg false [⟨0, (some 40), .mv (.t 3), 0, none⟩, ⟨1, (some 41), .bin .sub (.t 40) (.c (.int .i64 (1))), 0, none⟩, ⟨2, (some 3), .mv (.t 41), 0, none⟩] [0, 1, 2, 3, 8, 9, 10]))
            (.skip)))
          (.seq
           (.reg false [⟨0, (some 43), .mv (.t 0), 0, none⟩, ⟨1, (some 44), .mv (.t 1), 0, none⟩, ⟨2, (some 45), .mv (.t 2), 0, none⟩, ⟨3, (some 46), .call 161 [.t 43, .t 44, .t 45], 2, none⟩, ⟨4, (some 42), .mv (.t 46), 0, none⟩, ⟨5, (some 47), .ext 0 (.t 42), 0, none⟩, ⟨6, (some 48), .ext 1 (.t 42), 0, none⟩, ⟨7, (some 11), .mv (.t 47), 0, none⟩, ⟨8, (some 12), .mv (.t 48), 0, none⟩] [0, 1, 2, 3, 8, 9, 10, 11, 12])
           (.seq
            (.seq
             (.reg false [⟨0, (some 49), .mv (.t 12), 0, none⟩, ⟨1, (some 50), .bin .eql (.t 49) (.c (.int .i64 (2))), 0, none⟩] [0, 1, 2, 3, 8, 9, 10, 11, 12, 50])
             (.cond (.t 50)
              (.seq
               (.reg false [⟨0, (some 51), .mv (.t 0), 0, none⟩, ⟨1, (some 52), .mv (.t 1), 0, none⟩, ⟨2, (some 53), .mv (.t 2), 0, none⟩, ⟨3, (some 54), .call 162 [.t 51, .t 52, .t 53], 2, none⟩] [0, 1, 2, 3, 8, 9, 10, 11])
               (.seq
                (.reg false [⟨0, (some 55), .mv (.t 2), 0, none⟩, ⟨1, (some 56), .bin .sub (.t 55) (.c (.int .i64 (1))), 0, none⟩, ⟨2, (some 57), .mv (.t 11), 0, none⟩, ⟨3, (some 58), .mv (.t 1), 0, none⟩, ⟨4, (some 59), .bin .sub (.t 57) (.t 58), 0, none⟩, ⟨5, (some 60), .bin .sub (.t 56) (.t 59), 0, none⟩, ⟨6, (some 11), .mv (.t 60), 0, none⟩] [0, 1, 2, 3, 8, 9, 10, 11])
                (.reg false [⟨0, (some 12), .mv (.c (.int .i64 (1))), 0, none⟩] [0, 1, 2, 3, 8, 9, 10, 11, 12])))
              (.skip)))
            (.seq
             (.seq
              (.reg false [⟨0, (some 61), .mv (.t 8), 0, none⟩, ⟨1, (some 62), .mv (.t 61), 0, none⟩, ⟨2, (some 63), .mv (.t 9), 0, (some (62, true))⟩, ⟨3, (some 64), .pick (.t 62) (.t 63) (.c (.bool false)), 0, none⟩, ⟨4, (some 65), .mv (.t 64), 0, none⟩, ⟨5, (some 66), .mv (.t 12), 0, (some (65, true))⟩, ⟨6, (some 67), .bin .eql (.t 66) (.c (.int .i64 (1))), 0, (some (65, true))⟩, ⟨7, (some 68), .pick (.t 65) (.t 67) (.c (.bool false)), 0, none⟩] [0, 1, 2, 3, 8, 9, 10, 11, 68])
              (.cond (.t 68)
               (.seq
                (.reg false [⟨0, (some 69), .mv (.t 0), 0, none⟩, ⟨1, (some 70), .mv (.t 1), 0, none⟩, ⟨2, (some 71), .mv (.t 2), 0, none⟩, ⟨3, (some 72), .call 163 [.t 69, .t 70, .t 71], 2, none⟩] [0, 1, 2, 3, 8, 9, 10, 11, 72])
                (.cond (.t 72)
                 (.ret)
                 (.skip)))
               (.skip)))
             (.seq
              (.seq
               (.reg true [⟨0, (some 73), .mv (.t 1), 0, none⟩, ⟨1, (some 74), .bin .gtr (.t 73) (.c (.int .i64 (0))), 0, none⟩, ⟨2, (some 75), .mv (.t 74), 0, none⟩, ⟨3, (some 76), .mv (.t 0), 0, (some (75, true))⟩, ⟨4, (some 77), .mv (.t 1), 0, (some (75, true))⟩, ⟨5, (some 78), .bin .sub (.t 77) (.c (.int .i64 (1))), 0, (some (75, true))⟩, ⟨6, (some 79), .iaddr none 1 (.t 76) (.t 78), 0, (some (75, true))⟩, ⟨8, (some 81), .mv (.t 0), 0, (some (75, true))⟩, ⟨9, (some 82), .mv (.t 11), 0, (some (75, true))⟩, ⟨10, (some 83), .iaddr none 1 (.t 81) (.t 82), 0, (some (75, true))⟩, ⟨7, (some 80), .load none (.t 79), 0, (some (75, true))⟩, ⟨11, (some 84), .load none (.t 83), 0, (some (75, true))⟩, ⟨12, (some 85), .call 164 [.t 80, .t 84], 2, (some (75, true))⟩, ⟨13, (some 86), .un .not (.t 85), 0, (some (75, true))⟩, ⟨14, (some 87), .pick (.t 75) (.t 86) (.c (.bool false)), 0, none⟩] [0, 1, 2, 3, 8, 9, 10, 11, 87])
               (.cond (.t 87)
                (.seq
                 (.reg false [⟨0, (some 88), .mv (.t 0), 0, none⟩, ⟨1, (some 89), .mv (.t 1), 0, none⟩, ⟨2, (some 90), .mv (.t 2), 0, none⟩, ⟨3, (some 91), .mv (.t 11), 0, none⟩, ⟨4, (some 92), .call 165 [.t 88, .t 89, .t 90, .t 91], 2, none⟩, ⟨5, (some 13), .mv (.t 92), 0, none⟩] [0, 2, 3, 8, 9, 13])
                 (.seq
                  (.reg false [⟨0, (some 93), .mv (.t 13), 0, none⟩, ⟨1, (some 1), .mv (.t 93), 0, none⟩] [0, 1, 2, 3, 8, 9])
                  (.exit 1)))
                (.skip)))
              (.seq
               (.reg false [⟨0, (some 95), .mv (.t 0), 0, none⟩, ⟨1, (some 96), .mv (.t 1), 0, none⟩, ⟨2, (some 97), .mv (.t 2), 0, none⟩, ⟨3, (some 98), .mv (.t 11), 0, none⟩, ⟨4, (some 99), .call 166 [.t 95, .t 96, .t 97, .t 98], 2, none⟩, ⟨5, (some 94), .mv (.t 99), 0, none⟩, ⟨6, (some 100), .ext 0 (.t 94), 0, none⟩, ⟨7, (some 101), .ext 1 (.t 94), 0, none⟩, ⟨8, (some 14), .mv (.t 100), 0, none⟩, ⟨9, (some 15), .mv (.t 101), 0, none⟩] [0, 1, 2, 3, 10, 14, 15])
               (.seq
                (.reg false [⟨0, (some 102), .mv (.t 15), 0, none⟩, ⟨1, (some 9), .mv (.t 102), 0, none⟩] [0, 1, 2, 3, 9, 10, 14])
                (.seq
                 (.reg false [⟨0, (some 103), .mv (.t 14), 0, none⟩, ⟨1, (some 104), .mv (.t 1), 0, none⟩, ⟨2, (some 105), .bin .sub (.t 103) (.t 104), 0, none⟩, ⟨3, (some 106), .mv (.t 2), 0, none⟩, ⟨4, (some 107), .mv (.t 14), 0, none⟩, ⟨5, (some 108), .bin .sub (.t 106) (.t 107), 0, none⟩, ⟨6, (some 16), .mv (.t 105), 0, none⟩, ⟨7, (some 17), .mv (.t 108), 0, none⟩] [0, 1, 2, 3, 9, 10, 14, 16, 17])
                 (.seq
                  (.reg false [⟨0, (some 109), .mv (.t 10), 0, none⟩, ⟨1, (some 110), .bin .quo (.t 109) (.c (.int .i64 (8))), 0, none⟩, ⟨2, (some 18), .mv (.t 110), 0, none⟩] [0, 1, 2, 3, 9, 14, 16, 17, 18])
                  (.seq
                   (.reg false [⟨0, (some 111), .mv (.t 16), 0, none⟩, ⟨1, (some 112), .mv (.t 17), 0, none⟩, ⟨2, (some 113), .bin .lss (.t 111) (.t 112), 0, none⟩] [0, 1, 2, 3, 9, 14, 16, 17, 18, 113])
                   (.cond (.t 113)
                    (.seq
                     (.reg false [⟨0, (some 114), .mv (.t 16), 0, none⟩, ⟨1, (some 115), .mv (.t 18), 0, none⟩, ⟨2, (some 116), .bin .geq (.t 114) (.t 115), 0, none⟩, ⟨3, (some 8), .mv (.t 116), 0, none⟩] [0, 1, 2, 3, 8, 9, 14])
                     (.seq
                      (.reg false [⟨0, (some 117), .mv (.t 0), 0, none⟩, ⟨1, (some 118), .mv (.t 1), 0, none⟩, ⟨2, (some 119), .mv (.t 14), 0, none⟩, ⟨3, (some 120), .mv (.t 3), 0, none⟩, ⟨4, (some 121), .call 156 [.t 117, .t 118, .t 119, .t 120], 2, none⟩] [0, 2, 3, 8, 9, 14])
                      (.reg false [⟨0, (some 122), .mv (.t 14), 0, none⟩, ⟨1, (some 123), .bin .add (.t 122) (.c (.int .i64 (1))), 0, none⟩, ⟨2, (some 1), .mv (.t 123), 0, none⟩] [0, 1, 2, 3, 8, 9])))
                    (.seq
                     (.reg false [⟨0, (some 124), .mv (.t 17), 0, none⟩, ⟨1, (some 125), .mv (.t 18), 0, none⟩, ⟨2, (some 126), .bin .geq (.t 124) (.t 125), 0, none⟩, ⟨3, (some 8), .mv (.t 126), 0, none⟩] [0, 1, 2, 3, 8, 9, 14])
                     (.seq
                      (.reg false [⟨0, (some 127), .mv (.t 0), 0, none⟩, ⟨1, (some 128), .mv (.t 14), 0, none⟩, ⟨2, (some 129), .bin .add (.t 128) (.c (.int .i64 (1))), 0, none⟩, ⟨3, (some 130), .mv (.t 2), 0, none⟩, ⟨4, (some 131), .mv (.t 3), 0, none⟩, ⟨5, (some 132), .call 156 [.t 127, .t 129, .t 130, .t 131], 2, none⟩] [0, 1, 3, 8, 9, 14])
                      (.reg false [⟨0, (some 133), .mv (.t 14), 0, none⟩, ⟨1, (some 2), .mv (.t 133), 0, none⟩] [0, 1, 2, 3, 8, 9])))))))))))))))))))))

theorem ok156 : okF Tryz.prog 156 4 c156 [] = true := by kernel_rfl

/-- math/bits.Len -/
def c157 : C :=
 .seq
  (.reg false [⟨0, (some 2), .mv (.c (.int .i64 (0))), 0, none⟩] [0])
  (.seq
   (.cond (.c (.bool false))
    (.seq
     (.reg false [⟨0, (some 3), .mv (.t 0), 0, none⟩, ⟨1, (some 4), .cvt .u32 (.t 3), 0, none⟩, ⟨2, (some 5), .call 167 [.t 4], 2, none⟩, ⟨3, (some 2), .mv (.t 5), 0, none⟩] [2])
     (.ret))
    (.skip))
   (.seq
    (.reg false [⟨0, (some 6), .mv (.t 0), 0, none⟩, ⟨1, (some 7), .call 168 [.t 6], 2, none⟩, ⟨2, (some 2), .mv (.t 7), 0, none⟩] [2])
    (.ret)))

theorem ok157 : okF Tryz.prog 157 1 c157 [.tmp 2] = true := by kernel_rfl

/-- slices.insertionSortOrdered[int] -/
def c158 : C :=
 .seq
  (.reg false [⟨0, (some 8), .mv (.t 1), 0, none⟩, ⟨1, (some 9), .bin .add (.t 8) (.c (.int .i64 (1))), 0, none⟩, ⟨2, (some 6), .mv (.t 9), 0, none⟩] [0, 1, 2, 6])
  (.blk 0
   (.loop [0, 1, 2, 6]
    (.seq
     (.seq
      (.reg false [⟨0, (some 10), .mv (.t 6), 0, none⟩, ⟨1, (some 11), .mv (.t 2), 0, none⟩, ⟨2, (some 12), .bin .lss (.t 10) (.t 11), 0, none⟩] [0, 1, 2, 6, 12])
      (.cond (.t 12)
       (.skip)
       (.exit 0)))
     (.seq
      (.blk 1
       (.seq
        (.reg false [⟨0, (some 15), .mv (.t 6), 0, none⟩, ⟨1, (some 7), .mv (.t 15), 0, none⟩] [0, 1, 2, 6, 7])
        (.blk 2
         (.loop [0, 1, 2, 6, 7]
          (.seq
           (.seq
            (.reg true [⟨0, (some 16), .mv (.t 7), 0, none⟩, ⟨1, (some 17), .mv (.t 1), 0, none⟩, ⟨2, (some 18), .bin .gtr (.t 16) (.t 17), 0, none⟩, ⟨3, (some 19), .mv (.t 18), 0, none⟩, ⟨4, (some 20), .mv (.t 0), 0, (some (19, true))⟩, ⟨5, (some 21), .mv (.t 7), 0, (some (19, true))⟩, ⟨6, (some 22), .iaddr none 1 (.t 20) (.t 21), 0, (some (19, true))⟩, ⟨8, (some 24), .mv (.t 0), 0, (some (19, true))⟩, ⟨9, (some 25), .mv (.t 7), 0, (some (19, true))⟩, ⟨10, (some 26), .bin .sub (.t 25) (.c (.int .i64 (1))), 0, (some (19, true))⟩, ⟨11, (some 27), .iaddr none 1 (.t 24) (.t 26), 0, (some (19, true))⟩, ⟨7, (some 23), .load none (.t 22), 0, (some (19, true))⟩, ⟨12, (some 28), .load none (.t 27), 0, (some (19, true))⟩, ⟨13, (some 29), .call 164 [.t 23, .t 28], 2, (some (19, true))⟩, ⟨14, (some 30), .pick (.t 19) (.t 29) (.c (.bool false)), 0, none⟩] [0, 1, 2, 6, 7, 30])
            (.cond (.t 30)
             (.skip)
             (.exit 2)))
           (.seq
            (.blk 3
             (.reg true [⟨0, (some 33), .mv (.t 0), 0, none⟩, ⟨1, (some 34), .mv (.t 7), 0, none⟩, ⟨2, (some 35), .mv (.t 0), 0, none⟩, ⟨3, (some 36), .mv (.t 7), 0, none⟩, ⟨4, (some 37), .bin .sub (.t 36) (.c (.int .i64 (1))), 0, none⟩, ⟨5, (some 38), .mv (.t 0), 0, none⟩, ⟨6, (some 39), .mv (.t 7), 0, none⟩, ⟨7, (some 40), .bin .sub (.t 39) (.c (.int .i64 (1))), 0, none⟩, ⟨8, (some 41), .iaddr none 1 (.t 38) (.t 40), 0, none⟩, ⟨10, (some 43), .mv (.t 0), 0, none⟩, ⟨11, (some 44), .mv (.t 7), 0, none⟩, ⟨12, (some 45), .iaddr none 1 (.t 43) (.t 44), 0, none⟩, ⟨9, (some 42), .load none (.t 41), 0, none⟩, ⟨13, (some 46), .load none (.t 45), 0, none⟩, ⟨14, (some 47), .iaddr none 1 (.t 33) (.t 34), 0, none⟩, ⟨15, none, .store 1 (.t 47) (.t 42), 0, none⟩, ⟨16, (some 48), .iaddr none 1 (.t 35) (.t 37), 0, none⟩, ⟨17, none, .store 1 (.t 48) (.t 46), 0, none⟩] [0, 1, 2, 6, 7]))
            (.reg false [⟨0, (some 31), .mv (.t 7), 0, none⟩, ⟨1, (some 32), .bin .sub (.t 31) (.c (.int .i64 (1))), 0, none⟩, ⟨2, (some 7), .mv (.t 32), 0, none⟩] [0, 1, 2, 6, 7])))))))
      (.reg false [⟨0, (some 13), .mv (.t 6), 0, none⟩, ⟨1, (some 14), .bin .add (.t 13) (.c (.int .i64 (1))), 0, none⟩, ⟨2, (some 6), .mv (.t 14), 0, none⟩] [0, 1, 2, 6])))))

theorem ok158 : okF Tryz.prog 158 3 c158 [] = true := by kernel_rfl

/-- slices.heapSortOrdered[int] -/
def c159 : C :=
 .seq
  (.reg false [⟨0, (some 11), .mv (.t 1), 0, none⟩, ⟨1, (some 6), .mv (.t 11), 0, none⟩] [0, 1, 2, 6])
  (.seq
   (.reg false [⟨0, (some 7), .mv (.c (.int .i64 (0))), 0, none⟩] [0, 1, 2, 6, 7])
   (.seq
    (.reg false [⟨0, (some 12), .mv (.t 2), 0, none⟩, ⟨1, (some 13), .mv (.t 1), 0, none⟩, ⟨2, (some 14), .bin .sub (.t 12) (.t 13), 0, none⟩, ⟨3, (some 8), .mv (.t 14), 0, none⟩] [0, 6, 7, 8])
    (.seq
     (.seq
      (.reg false [⟨0, (some 15), .mv (.t 8), 0, none⟩, ⟨1, (some 16), .bin .sub (.t 15) (.c (.int .i64 (1))), 0, none⟩, ⟨2, (some 17), .bin .quo (.t 16) (.c (.int .i64 (2))), 0, none⟩, ⟨3, (some 9), .mv (.t 17), 0, none⟩] [0, 6, 7, 8, 9])
      (.blk 0
       (.loop [0, 6, 7, 8, 9]
        (.seq
         (.seq
          (.reg false [⟨0, (some 18), .mv (.t 9), 0, none⟩, ⟨1, (some 19), .bin .geq (.t 18) (.c (.int .i64 (0))), 0, none⟩] [0, 6, 7, 8, 9, 19])
          (.cond (.t 19)
           (.skip)
           (.exit 0)))
         (.seq
          (.blk 1
           (.reg false [⟨0, (some 22), .mv (.t 0), 0, none⟩, ⟨1, (some 23), .mv (.t 9), 0, none⟩, ⟨2, (some 24), .mv (.t 8), 0, none⟩, ⟨3, (some 25), .mv (.t 6), 0, none⟩, ⟨4, (some 26), .call 169 [.t 22, .t 23, .t 24, .t 25], 2, none⟩] [0, 6, 7, 8, 9]))
          (.reg false [⟨0, (some 20), .mv (.t 9), 0, none⟩, ⟨1, (some 21), .bin .sub (.t 20) (.c (.int .i64 (1))), 0, none⟩, ⟨2, (some 9), .mv (.t 21), 0, none⟩] [0, 6, 7, 8, 9]))))))
     (.seq
      (.reg false [⟨0, (some 27), .mv (.t 8), 0, none⟩, ⟨1, (some 28), .bin .sub (.t 27) (.c (.int .i64 (1))), 0, none⟩, ⟨2, (some 10), .mv (.t 28), 0, none⟩] [0, 6, 7, 10])
      (.blk 2
       (.loop [0, 6, 7, 10]
        (.seq
         (.seq
          (.reg false [⟨0, (some 29), .mv (.t 10), 0, none⟩, ⟨1, (some 30), .bin .geq (.t 29) (.c (.int .i64 (0))), 0, none⟩] [0, 6, 7, 10, 30])
          (.cond (.t 30)
           (.skip)
           (.exit 2)))
         (.seq
          (.blk 3
           (.seq
            (.reg true [⟨0, (some 33), .mv (.t 0), 0, none⟩, ⟨1, (some 34), .mv (.t 6), 0, none⟩, ⟨2, (some 35), .mv (.t 0), 0, none⟩, ⟨3, (some 36), .mv (.t 6), 0, none⟩, ⟨4, (some 37), .mv (.t 10), 0, none⟩, ⟨5, (some 38), .bin .add (.t 36) (.t 37), 0, none⟩, ⟨6, (some 39), .mv (.t 0), 0, none⟩, ⟨7, (some 40), .mv (.t 6), 0, none⟩, ⟨8, (some 41), .mv (.t 10), 0, none⟩, ⟨9, (some 42), .bin .add (.t 40) (.t 41), 0, none⟩, ⟨10, (some 43), .iaddr none 1 (.t 39) (.t 42), 0, none⟩, ⟨12, (some 45), .mv (.t 0), 0, none⟩, ⟨13, (some 46), .mv (.t 6), 0, none⟩, ⟨14, (some 47), .iaddr none 1 (.t 45) (.t 46), 0, none⟩, ⟨11, (some 44), .load none (.t 43), 0, none⟩, ⟨15, (some 48), .load none (.t 47), 0, none⟩, ⟨16, (some 49), .iaddr none 1 (.t 33) (.t 34), 0, none⟩, ⟨17, none, .store 1 (.t 49) (.t 44), 0, none⟩, ⟨18, (some 50), .iaddr none 1 (.t 35) (.t 38), 0, none⟩, ⟨19, none, .store 1 (.t 50) (.t 48), 0, none⟩] [0, 6, 7, 10])
            (.reg false [⟨0, (some 51), .mv (.t 0), 0, none⟩, ⟨1, (some 52), .mv (.t 7), 0, none⟩, ⟨2, (some 53), .mv (.t 10), 0, none⟩, ⟨3, (some 54), .mv (.t 6), 0, none⟩, ⟨4, (some 55), .call 169 [.t 51, .t 52, .t 53, .t 54], 2, none⟩] [0, 6, 7, 10])))
          (.reg false [⟨0, (some 31), .mv (.t 10), 0, none⟩, ⟨1, (some 32), .bin .sub (.t 31) (.c (.int .i64 (1))), 0, none⟩, ⟨2, (some 10), .mv (.t 32), 0, none⟩] [0, 6, 7, 10])))))))))

theorem ok159 : okF Tryz.prog 159 3 c159 [] = true := by kernel_rfl

/-- slices.breakPatternsOrdered[int] -/
def c160 : C :=
 .seq
  (.reg false [⟨0, (some 11), .mv (.t 2), 0, none⟩, ⟨1, (some 12), .mv (.t 1), 0, none⟩, ⟨2, (some 13), .bin .sub (.t 11) (.t 12), 0, none⟩, ⟨3, (some 6), .mv (.t 13), 0, none⟩] [0, 1, 6])
  (.seq
   (.reg false [⟨0, (some 14), .mv (.t 6), 0, none⟩, ⟨1, (some 15), .bin .geq (.t 14) (.c (.int .i64 (8))), 0, none⟩] [0, 1, 6, 15])
   (.cond (.t 15)
    (.seq
     (.reg false [⟨0, (some 16), .mv (.t 6), 0, none⟩, ⟨1, (some 17), .cvt .u64 (.t 16), 0, none⟩, ⟨2, (some 7), .alloc [.int .u64 (0)] 1, 0, none⟩, ⟨3, none, .store 1 (.t 7) (.t 17), 0, none⟩] [0, 1, 6, 7])
     (.seq
      (.reg false [⟨0, (some 18), .mv (.t 6), 0, none⟩, ⟨1, (some 19), .call 170 [.t 18], 2, none⟩, ⟨2, (some 8), .mv (.t 19), 0, none⟩] [0, 1, 6, 7, 8])
      (.seq
       (.reg false [⟨0, (some 20), .mv (.t 1), 0, none⟩, ⟨1, (some 21), .mv (.t 6), 0, none⟩, ⟨2, (some 22), .bin .quo (.t 21) (.c (.int .i64 (4))), 0, none⟩, ⟨3, (some 23), .bin .mul (.t 22) (.c (.int .i64 (2))), 0, none⟩, ⟨4, (some 24), .bin .add (.t 20) (.t 23), 0, none⟩, ⟨5, (some 25), .bin .sub (.t 24) (.c (.int .i64 (1))), 0, none⟩, ⟨6, (some 9), .mv (.t 25), 0, none⟩] [0, 1, 6, 7, 8, 9])
       (.blk 0
        (.loop [0, 1, 6, 7, 8, 9]
         (.seq
          (.seq
           (.reg false [⟨0, (some 26), .mv (.t 9), 0, none⟩, ⟨1, (some 27), .mv (.t 1), 0, none⟩, ⟨2, (some 28), .mv (.t 6), 0, none⟩, ⟨3, (some 29), .bin .quo (.t 28) (.c (.int .i64 (4))), 0, none⟩, ⟨4, (some 30), .bin .mul (.t 29) (.c (.int .i64 (2))), 0, none⟩, ⟨5, (some 31), .bin .add (.t 27) (.t 30), 0, none⟩, ⟨6, (some 32), .bin .add (.t 31) (.c (.int .i64 (1))), 0, none⟩, ⟨7, (some 33), .bin .leq (.t 26) (.t 32), 0, none⟩] [0, 1, 6, 7, 8, 9, 33])
           (.cond (.t 33)
            (.skip)
            (.exit 0)))
          (.seq
           (.blk 1
            (.seq
             (.reg false [⟨0, (some 36), .call 171 [.t 7], 2, none⟩, ⟨1, (some 37), .mv (.t 8), 0, none⟩, ⟨2, (some 38), .bin .sub (.t 37) (.c (.int .u64 (1))), 0, none⟩, ⟨3, (some 39), .bin .and (.t 36) (.t 38), 0, none⟩, ⟨4, (some 40), .cvt .i64 (.t 39), 0, none⟩, ⟨5, (some 10), .mv (.t 40), 0, none⟩] [0, 1, 6, 7, 8, 9, 10])
             (.seq
              (.seq
               (.reg false [⟨0, (some 41), .mv (.t 10), 0, none⟩, ⟨1, (some 42), .mv (.t 6), 0, none⟩, ⟨2, (some 43), .bin .geq (.t 41) (.t 42), 0, none⟩] [0, 1, 6, 7, 8, 9, 10, 43])
               (.cond (.t 43)
                (.reg false [⟨0, (some 44), .mv (.t 10), 0, none⟩, ⟨1, (some 45), .mv (.t 6), 0, none⟩, ⟨2, (some 46), .bin .sub (.t 44) (.t 45), 0, none⟩, ⟨3, (some 10), .mv (.t 46), 0, none⟩] [0, 1, 6, 7, 8, 9, 10])
                (.skip)))
              (.reg true [⟨0, (some 47), .mv (.t 0), 0, none⟩, ⟨1, (some 48), .mv (.t 9), 0, none⟩, ⟨2, (some 49), .mv (.t 0), 0, none⟩, ⟨3, (some 50), .mv (.t 1), 0, none⟩, ⟨4, (some 51), .mv (.t 10), 0, none⟩, ⟨5, (some 52), .bin .add (.t 50) (.t 51), 0, none⟩, ⟨6, (some 53), .mv (.t 0), 0, none⟩, ⟨7, (some 54), .mv (.t 1), 0, none⟩, ⟨8, (some 55), .mv (.t 10), 0, none⟩, ⟨9, (some 56), .bin .add (.t 54) (.t 55), 0, none⟩, ⟨10, (some 57), .iaddr none 1 (.t 53) (.t 56), 0, none⟩, ⟨12, (some 59), .mv (.t 0), 0, none⟩, ⟨13, (some 60), .mv (.t 9), 0, none⟩, ⟨14, (some 61), .iaddr none 1 (.t 59) (.t 60), 0, none⟩, ⟨11, (some 58), .load none (.t 57), 0, none⟩, ⟨15, (some 62), .load none (.t 61), 0, none⟩, ⟨16, (some 63), .iaddr none 1 (.t 47) (.t 48), 0, none⟩, ⟨17, none, .store 1 (.t 63) (.t 58), 0, none⟩, ⟨18, (some 64), .iaddr none 1 (.t 49) (.t 52), 0, none⟩, ⟨19, none, .store 1 (.t 64) (.t 62), 0, none⟩] [0, 1, 6, 7, 8, 9]))))
           (.reg false [⟨0, (some 34), .mv (.t 9), 0, none⟩, ⟨1, (some 35), .bin .add (.t 34) (.c (.int .i64 (1))), 0, none⟩, ⟨2, (some 9), .mv (.t 35), 0, none⟩] [0, 1, 6, 7, 8, 9]))))))))
    (.skip)))

theorem ok160 : okF Tryz.prog 160 3 c160 [] = true := by kernel_rfl

/-- slices.choosePivotOrdered[int] -/
def c161 : C :=
 .seq
  (.reg false [⟨0, (some 6), .mv (.c (.int .i64 (0))), 0, none⟩, ⟨1, (some 7), .mv (.c (.int .i64 (0))), 0, none⟩] [0, 1, 2])
  (.seq
   (.reg false [⟨0, (some 13), .mv (.t 2), 0, none⟩, ⟨1, (some 14), .mv (.t 1), 0, none⟩, ⟨2, (some 15), .bin .sub (.t 13) (.t 14), 0, none⟩, ⟨3, (some 8), .mv (.t 15), 0, none⟩] [0, 1, 8])
   (.seq
    (.reg false [⟨0, (some 9), .alloc [.int .i64 (0)] 1, 0, none⟩] [0, 1, 8, 9])
    (.seq
     (.reg false [⟨0, (some 16), .mv (.t 1), 0, none⟩, ⟨1, (some 17), .mv (.t 8), 0, none⟩, ⟨2, (some 18), .bin .quo (.t 17) (.c (.int .i64 (4))), 0, none⟩, ⟨3, (some 19), .bin .mul (.t 18) (.c (.int .i64 (1))), 0, none⟩, ⟨4, (some 20), .bin .add (.t 16) (.t 19), 0, none⟩, ⟨5, (some 10), .mv (.t 20), 0, none⟩] [0, 1, 8, 9, 10])
     (.seq
      (.reg false [⟨0, (some 21), .mv (.t 1), 0, none⟩, ⟨1, (some 22), .mv (.t 8), 0, none⟩, ⟨2, (some 23), .bin .quo (.t 22) (.c (.int .i64 (4))), 0, none⟩, ⟨3, (some 24), .bin .mul (.t 23) (.c (.int .i64 (2))), 0, none⟩, ⟨4, (some 25), .bin .add (.t 21) (.t 24), 0, none⟩, ⟨5, (some 11), .mv (.t 25), 0, none⟩] [0, 1, 8, 9, 10, 11])
      (.seq
       (.reg false [⟨0, (some 26), .mv (.t 1), 0, none⟩, ⟨1, (some 27), .mv (.t 8), 0, none⟩, ⟨2, (some 28), .bin .quo (.t 27) (.c (.int .i64 (4))), 0, none⟩, ⟨3, (some 29), .bin .mul (.t 28) (.c (.int .i64 (3))), 0, none⟩, ⟨4, (some 30), .bin .add (.t 26) (.t 29), 0, none⟩, ⟨5, (some 12), .mv (.t 30), 0, none⟩] [0, 8, 9, 10, 11, 12])
       (.seq
        (.seq
         (.reg false [⟨0, (some 31), .mv (.t 8), 0, none⟩, ⟨1, (some 32), .bin .geq (.t 31) (.c (.int .i64 (8))), 0, none⟩] [0, 8, 9, 10, 11, 12, 32])
         (.cond (.t 32)
          (.seq
           (.seq
            (.reg false [⟨0, (some 33), .mv (.t 8), 0, none⟩, ⟨1, (some 34), .bin .geq (.t 33) (.c (.int .i64 (50))), 0, none⟩] [0, 9, 10, 11, 12, 34])
            (.cond (.t 34)
             (.seq
              (.reg false [⟨0, (some 35), .mv (.t 0), 0, none⟩, ⟨1, (some 36), .mv (.t 10), 0, none⟩, ⟨2, (some 37), .call 172 [.t 35, .t 36, .t 9], 2, none⟩, ⟨3, (some 10), .mv (.t 37), 0, none⟩] [0, 9, 10, 11, 12])
              (.seq
               (.reg false [⟨0, (some 38), .mv (.t 0), 0, none⟩, ⟨1, (some 39), .mv (.t 11), 0, none⟩, ⟨2, (some 40), .call 172 [.t 38, .t 39, .t 9], 2, none⟩, ⟨3, (some 11), .mv (.t 40), 0, none⟩] [0, 9, 10, 11, 12])
               (.reg false [⟨0, (some 41), .mv (.t 0), 0, none⟩, ⟨1, (some 42), .mv (.t 12), 0, none⟩, ⟨2, (some 43), .call 172 [.t 41, .t 42, .t 9], 2, none⟩, ⟨3, (some 12), .mv (.t 43), 0, none⟩] [0, 9, 10, 11, 12])))
             (.skip)))
           (.reg false [⟨0, (some 44), .mv (.t 0), 0, none⟩, ⟨1, (some 45), .mv (.t 10), 0, none⟩, ⟨2, (some 46), .mv (.t 11), 0, none⟩, ⟨3, (some 47), .mv (.t 12), 0, none⟩, ⟨4, (some 48), .call 173 [.t 44, .t 45, .t 46, .t 47, .t 9], 2, none⟩, ⟨5, (some 11), .mv (.t 48), 0, none⟩] [9, 11]))
          (.skip)))
        (.seq
         (.reg false [⟨0, (some 49), .load none (.t 9), 0, none⟩] [11, 49])
         (.blk 0
          (.seq
           (.reg false [⟨0, (some 52), .bin .eql (.t 49) (.c (.int .i64 (0))), 0, none⟩, ⟨1, (some 51), .mv (.t 52), 0, none⟩] [11, 49, 51])
           (.cond (.t 51)
            (.seq
             (.reg false [⟨0, (some 53), .mv (.t 11), 0, none⟩, ⟨1, (some 6), .mv (.t 53), 0, none⟩, ⟨2, (some 7), .mv (.c (.int .i64 (1))), 0, none⟩] [6, 7])
             (.ret))
            (.seq
             (.reg false [⟨0, (some 55), .bin .eql (.t 49) (.c (.int .i64 (12))), 0, none⟩, ⟨1, (some 54), .mv (.t 55), 0, none⟩] [11, 54])
             (.cond (.t 54)
              (.seq
               (.reg false [⟨0, (some 56), .mv (.t 11), 0, none⟩, ⟨1, (some 6), .mv (.t 56), 0, none⟩, ⟨2, (some 7), .mv (.c (.int .i64 (2))), 0, none⟩] [6, 7])
               (.ret))
              (.seq
               (.reg false [⟨0, (some 50), .mv (.t 11), 0, none⟩, ⟨1, (some 6), .mv (.t 50), 0, none⟩, ⟨2, (some 7), .mv (.c (.int .i64 (0))), 0, none⟩] [6, 7])
               (.ret))))))))))))))

theorem ok161 : okF Tryz.prog 161 3 c161 [.tmp 6, .tmp 7] = true := by kernel_rfl

/-- slices.reverseRangeOrdered[int] -/
def c162 : C :=
 .seq
  (.reg false [⟨0, (some 8), .mv (.t 1), 0, none⟩, ⟨1, (some 6), .mv (.t 8), 0, none⟩] [0, 2, 6])
  (.seq
   (.reg false [⟨0, (some 9), .mv (.t 2), 0, none⟩, ⟨1, (some 10), .bin .sub (.t 9) (.c (.int .i64 (1))), 0, none⟩, ⟨2, (some 7), .mv (.t 10), 0, none⟩] [0, 6, 7])
   (.blk 0
    (.loop [0, 6, 7]
     (.seq
      (.seq
       (.reg false [⟨0, (some 11), .mv (.t 6), 0, none⟩, ⟨1, (some 12), .mv (.t 7), 0, none⟩, ⟨2, (some 13), .bin .lss (.t 11) (.t 12), 0, none⟩] [0, 6, 7, 13])
       (.cond (.t 13)
        (.skip)
        (.exit 0)))
      (.blk 1
       (.seq
        (.reg true [⟨0, (some 14), .mv (.t 0), 0, none⟩, ⟨1, (some 15), .mv (.t 6), 0, none⟩, ⟨2, (some 16), .mv (.t 0), 0, none⟩, ⟨3, (some 17), .mv (.t 7), 0, none⟩, ⟨4, (some 18), .mv (.t 0), 0, none⟩, ⟨5, (some 19), .mv (.t 7), 0, none⟩, ⟨6, (some 20), .iaddr none 1 (.t 18) (.t 19), 0, none⟩, ⟨8, (some 22), .mv (.t 0), 0, none⟩, ⟨9, (some 23), .mv (.t 6), 0, none⟩, ⟨10, (some 24), .iaddr none 1 (.t 22) (.t 23), 0, none⟩, ⟨7, (some 21), .load none (.t 20), 0, none⟩, ⟨11, (some 25), .load none (.t 24), 0, none⟩, ⟨12, (some 26), .iaddr none 1 (.t 14) (.t 15), 0, none⟩, ⟨13, none, .store 1 (.t 26) (.t 21), 0, none⟩, ⟨14, (some 27), .iaddr none 1 (.t 16) (.t 17), 0, none⟩, ⟨15, none, .store 1 (.t 27) (.t 25), 0, none⟩] [0, 6, 7])
        (.seq
         (.reg false [⟨0, (some 28), .mv (.t 6), 0, none⟩, ⟨1, (some 29), .bin .add (.t 28) (.c (.int .i64 (1))), 0, none⟩, ⟨2, (some 6), .mv (.t 29), 0, none⟩] [0, 6, 7])
         (.reg false [⟨0, (some 30), .mv (.t 7), 0, none⟩, ⟨1, (some 31), .bin .sub (.t 30) (.c (.int .i64 (1))), 0, none⟩, ⟨2, (some 7), .mv (.t 31), 0, none⟩] [0, 6, 7]))))))))

theorem ok162 : okF Tryz.prog 162 3 c162 [] = true := by kernel_rfl

/-- slices.partialInsertionSortOrdered[int] -/
def c163 : C :=
 .seq
  (.reg false [⟨0, (some 6), .mv (.c (.bool false)), 0, none⟩] [0, 1, 2])
  (.seq
   (.reg false [⟨0, (some 11), .mv (.t 1), 0, none⟩, ⟨1, (some 12), .bin .add (.t 11) (.c (.int .i64 (1))), 0, none⟩, ⟨2, (some 7), .mv (.t 12), 0, none⟩] [0, 1, 2, 7])
   (.seq
    (.seq
     (.reg false [⟨0, (some 8), .mv (.c (.int .i64 (0))), 0, none⟩] [0, 1, 2, 7, 8])
     (.blk 0
      (.loop [0, 1, 2, 7, 8]
       (.seq
        (.seq
         (.reg false [⟨0, (some 13), .mv (.t 8), 0, none⟩, ⟨1, (some 14), .bin .lss (.t 13) (.c (.int .i64 (5))), 0, none⟩] [0, 1, 2, 7, 8, 14])
         (.cond (.t 14)
          (.skip)
          (.exit 0)))
        (.seq
         (.blk 1
          (.seq
           (.blk 2
            (.loop [0, 1, 2, 7, 8]
             (.seq
              (.seq
               (.reg true [⟨0, (some 17), .mv (.t 7), 0, none⟩, ⟨1, (some 18), .mv (.t 2), 0, none⟩, ⟨2, (some 19), .bin .lss (.t 17) (.t 18), 0, none⟩, ⟨3, (some 20), .mv (.t 19), 0, none⟩, ⟨4, (some 21), .mv (.t 0), 0, (some (20, true))⟩, ⟨5, (some 22), .mv (.t 7), 0, (some (20, true))⟩, ⟨6, (some 23), .iaddr none 1 (.t 21) (.t 22), 0, (some (20, true))⟩, ⟨8, (some 25), .mv (.t 0), 0, (some (20, true))⟩, ⟨9, (some 26), .mv (.t 7), 0, (some (20, true))⟩, ⟨10, (some 27), .bin .sub (.t 26) (.c (.int .i64 (1))), 0, (some (20, true))⟩, ⟨11, (some 28), .iaddr none 1 (.t 25) (.t 27), 0, (some (20, true))⟩, ⟨7, (some 24), .load none (.t 23), 0, (some (20, true))⟩, ⟨12, (some 29), .load none (.t 28), 0, (some (20, true))⟩, ⟨13, (some 30), .call 164 [.t 24, .t 29], 2, (some (20, true))⟩, ⟨14, (some 31), .un .not (.t 30), 0, (some (20, true))⟩, ⟨15, (some 32), .pick (.t 20) (.t 31) (.c (.bool false)), 0, none⟩] [0, 1, 2, 7, 8, 32])
               (.cond (.t 32)
                (.skip)
                (.exit 2)))
              (.blk 3
               (.reg false [⟨0, (some 33), .mv (.t 7), 0, none⟩, ⟨1, (some 34), .bin .add (.t 33) (.c (.int .i64 (1))), 0, none⟩, ⟨2, (some 7), .mv (.t 34), 0, none⟩] [0, 1, 2, 7, 8])))))
           (.seq
            (.seq
             (.reg false [⟨0, (some 35), .mv (.t 7), 0, none⟩, ⟨1, (some 36), .mv (.t 2), 0, none⟩, ⟨2, (some 37), .bin .eql (.t 35) (.t 36), 0, none⟩] [0, 1, 2, 7, 8, 37])
             (.cond (.t 37)
              (.seq
               (.reg false [⟨0, (some 6), .mv (.c (.bool true)), 0, none⟩] [6])
               (.ret))
              (.skip)))
            (.seq
             (.seq
              (.reg false [⟨0, (some 38), .mv (.t 2), 0, none⟩, ⟨1, (some 39), .mv (.t 1), 0, none⟩, ⟨2, (some 40), .bin .sub (.t 38) (.t 39), 0, none⟩, ⟨3, (some 41), .bin .lss (.t 40) (.c (.int .i64 (50))), 0, none⟩] [0, 1, 2, 7, 8, 41])
              (.cond (.t 41)
               (.seq
                (.reg false [⟨0, (some 6), .mv (.c (.bool false)), 0, none⟩] [6])
                (.ret))
               (.skip)))
             (.seq
              (.reg true [⟨0, (some 42), .mv (.t 0), 0, none⟩, ⟨1, (some 43), .mv (.t 7), 0, none⟩, ⟨2, (some 44), .mv (.t 0), 0, none⟩, ⟨3, (some 45), .mv (.t 7), 0, none⟩, ⟨4, (some 46), .bin .sub (.t 45) (.c (.int .i64 (1))), 0, none⟩, ⟨5, (some 47), .mv (.t 0), 0, none⟩, ⟨6, (some 48), .mv (.t 7), 0, none⟩, ⟨7, (some 49), .bin .sub (.t 48) (.c (.int .i64 (1))), 0, none⟩, ⟨8, (some 50), .iaddr none 1 (.t 47) (.t 49), 0, none⟩, ⟨10, (some 52), .mv (.t 0), 0, none⟩, ⟨11, (some 53), .mv (.t 7), 0, none⟩, ⟨12, (some 54), .iaddr none 1 (.t 52) (.t 53), 0, none⟩, ⟨9, (some 51), .load none (.t 50), 0, none⟩, ⟨13, (some 55), .load none (.t 54), 0, none⟩, ⟨14, (some 56), .iaddr none 1 (.t 42) (.t 43), 0, none⟩, ⟨15, none, .store 1 (.t 56) (.t 51), 0, none⟩, ⟨16, (some 57), .iaddr none 1 (.t 44) (.t 46), 0, none⟩, ⟨17, none, .store 1 (.t 57) (.t 55), 0, none⟩] [0, 1, 2, 7, 8])
              (.seq
               (.seq
                (.reg false [⟨0, (some 58), .mv (.t 7), 0, none⟩, ⟨1, (some 59), .mv (.t 1), 0, none⟩, ⟨2, (some 60), .bin .sub (.t 58) (.t 59), 0, none⟩, ⟨3, (some 61), .bin .geq (.t 60) (.c (.int .i64 (2))), 0, none⟩] [0, 1, 2, 7, 8, 61])
                (.cond (.t 61)
                 (.seq
                  (.reg false [⟨0, (some 62), .mv (.t 7), 0, none⟩, ⟨1, (some 63), .bin .sub (.t 62) (.c (.int .i64 (1))), 0, none⟩, ⟨2, (some 9), .mv (.t 63), 0, none⟩] [0, 1, 2, 7, 8, 9])
                  (.blk 4
                   (.loop [0, 1, 2, 7, 8, 9]
                    (.seq
                     (.seq
                      (.reg false [⟨0, (some 64), .mv (.t 9), 0, none⟩, ⟨1, (some 65), .bin .geq (.t 64) (.c (.int .i64 (1))), 0, none⟩] [0, 1, 2, 7, 8, 9, 65])
                      (.cond (.t 65)
                       (.skip)
                       (.exit 4)))
                     (.seq
                      (.blk 5
                       (.seq
                        (.seq
                         (.reg true [⟨0, (some 68), .mv (.t 0), 0, none⟩, ⟨1, (some 69), .mv (.t 9), 0, none⟩, ⟨2, (some 70), .iaddr none 1 (.t 68) (.t 69), 0, none⟩, ⟨4, (some 72), .mv (.t 0), 0, none⟩, ⟨5, (some 73), .mv (.t 9), 0, none⟩, ⟨6, (some 74), .bin .sub (.t 73) (.c (.int .i64 (1))), 0, none⟩, ⟨7, (some 75), .iaddr none 1 (.t 72) (.t 74), 0, none⟩, ⟨3, (some 71), .load none (.t 70), 0, none⟩, ⟨8, (some 76), .load none (.t 75), 0, none⟩, ⟨9, (some 77), .call 164 [.t 71, .t 76], 2, none⟩, ⟨10, (some 78), .un .not (.t 77), 0, none⟩] [0, 1, 2, 7, 8, 9, 78])
                         (.cond (.t 78)
                          (.exit 4)
                          (.skip)))
                        (.reg true [⟨0, (some 79), .mv (.t 0), 0, none⟩, ⟨1, (some 80), .mv (.t 9), 0, none⟩, ⟨2, (some 81), .mv (.t 0), 0, none⟩, ⟨3, (some 82), .mv (.t 9), 0, none⟩, ⟨4, (some 83), .bin .sub (.t 82) (.c (.int .i64 (1))), 0, none⟩, ⟨5, (some 84), .mv (.t 0), 0, none⟩, ⟨6, (some 85), .mv (.t 9), 0, none⟩, ⟨7, (some 86), .bin .sub (.t 85) (.c (.int .i64 (1))), 0, none⟩, ⟨8, (some 87), .iaddr none 1 (.t 84) (.t 86), 0, none⟩, ⟨10, (some 89), .mv (.t 0), 0, none⟩, ⟨11, (some 90), .mv (.t 9), 0, none⟩, ⟨12, (some 91), .iaddr none 1 (.t 89) (.t 90), 0, none⟩, ⟨9, (some 88), .load none (.t 87), 0, none⟩, ⟨13, (some 92), .load none (.t 91), 0, none⟩, ⟨14, (some 93), .iaddr none 1 (.t 79) (.t 80), 0, none⟩, ⟨15, none, .store 1 (.t 93) (.t 88), 0, none⟩, ⟨16, (some 94), .iaddr none 1 (.t 81) (.t 83), 0, none⟩, ⟨17, none, .store 1 (.t 94) (.t 92), 0, none⟩] [0, 1, 2, 7, 8, 9])))
                      (.reg false [⟨0, (some 66), .mv (.t 9), 0, none⟩, ⟨1, (some 67), .bin .sub (.t 66) (.c (.int .i64 (1))), 0, none⟩, ⟨2, (some 9), .mv (.t 67), 0, none⟩] [0, 1, 2, 7, 8, 9]))))))
                 (.skip)))
               (.seq
                (.reg false [⟨0, (some 95), .mv (.t 2), 0, none⟩, ⟨1, (some 96), .mv (.t 7), 0, none⟩, ⟨2, (some 97), .bin .sub (.t 95) (.t 96), 0, none⟩, ⟨3, (some 98), .bin .geq (.t 97) (.c (.int .i64 (2))), 0, none⟩] [0, 1, 2, 7, 8, 98])
                (.cond (.t 98)
                 (.seq
                  (.reg false [⟨0, (some 99), .mv (.t 7), 0, none⟩, ⟨1, (some 100), .bin .add (.t 99) (.c (.int .i64 (1))), 0, none⟩, ⟨2, (some 10), .mv (.t 100), 0, none⟩] [0, 1, 2, 7, 8, 10])
                  (.blk 6
                   (.loop [0, 1, 2, 7, 8, 10]
                    (.seq
                     (.seq
                      (.reg false [⟨0, (some 101), .mv (.t 10), 0, none⟩, ⟨1, (some 102), .mv (.t 2), 0, none⟩, ⟨2, (some 103), .bin .lss (.t 101) (.t 102), 0, none⟩] [0, 1, 2, 7, 8, 10, 103])
                      (.cond (.t 103)
                       (.skip)
                       (.exit 6)))
                     (.seq
                      (.blk 7
                       (.seq
                        (.seq
                         (.reg true [⟨0, (some 106), .mv (.t 0), 0, none⟩, ⟨1, (some 107), .mv (.t 10), 0, none⟩, ⟨2, (some 108), .iaddr none 1 (.t 106) (.t 107), 0, none⟩, ⟨4, (some 110), .mv (.t 0), 0, none⟩, ⟨5, (some 111), .mv (.t 10), 0, none⟩, ⟨6, (some 112), .bin .sub (.t 111) (.c (.int .i64 (1))), 0, none⟩, ⟨7, (some 113), .iaddr none 1 (.t 110) (.t 112), 0, none⟩, ⟨3, (some 109), .load none (.t 108), 0, none⟩, ⟨8, (some 114), .load none (.t 113), 0, none⟩, ⟨9, (some 115), .call 164 [.t 109, .t 114], 2, none⟩, ⟨10, (some 116), .un .not (.t 115), 0, none⟩] [0, 1, 2, 7, 8, 10, 116])
                         (.cond (.t 116)
                          (.exit 6)
                          (.skip)))
                        (.reg true [⟨0, (some 117), .mv (.t 0), 0, none⟩, ⟨1, (some 118), .mv (.t 10), 0, none⟩, ⟨2, (some 119), .mv (.t 0), 0, none⟩, ⟨3, (some 120), .mv (.t 10), 0, none⟩, ⟨4, (some 121), .bin .sub (.t 120) (.c (.int .i64 (1))), 0, none⟩, ⟨5, (some 122), .mv (.t 0), 0, none⟩, ⟨6, (some 123), .mv (.t 10), 0, none⟩, ⟨7, (some 124), .bin .sub (.t 123) (.c (.int .i64 (1))), 0, none⟩, ⟨8, (some 125), .iaddr none 1 (.t 122) (.t 124), 0, none⟩, ⟨10, (some 127), .mv (.t 0), 0, none⟩, ⟨11, (some 128), .mv (.t 10), 0, none⟩, ⟨12, (some 129), .iaddr none 1 (.t 127) (.t 128), 0, none⟩, ⟨9, (some 126), .load none (.t 125), 0, none⟩, ⟨13, (some 130), .load none (.t 129), 0, none⟩, ⟨14, (some 131), .iaddr none 1 (.t 117) (.t 118), 0, none⟩, ⟨15, none, .store 1 (.t 131) (.t 126), 0, none⟩, ⟨16, (some 132), .iaddr none 1 (.t 119) (.t 121), 0, none⟩, ⟨17, none, .store 1 (.t 132) (.t 130), 0, none⟩] [0, 1, 2, 7, 8, 10])))
                      (.reg false [⟨0, (some 104), .mv (.t 10), 0, none⟩, ⟨1, (some 105), .bin .add (.t 104) (.c (.int .i64 (1))), 0, none⟩, ⟨2, (some 10), .mv (.t 105), 0, none⟩] [0, 1, 2, 7, 8, 10]))))))
                 (.skip)))))))))
         (.reg false [⟨0, (some 15), .mv (.t 8), 0, none⟩, ⟨1, (some 16), .bin .add (.t 15) (.c (.int .i64 (1))), 0, none⟩, ⟨2, (some 8), .mv (.t 16), 0, none⟩] [0, 1, 2, 7, 8]))))))
    (.seq
     (.reg false [⟨0, (some 6), .mv (.c (.bool false)), 0, none⟩] [6])
     (.ret))))

theorem ok163 : okF Tryz.prog 163 3 c163 [.tmp 6] = true := by kernel_rfl

/-- cmp.Less[int] -/
def c164 : C :=
 .seq
  (.reg false [⟨0, (some 4), .mv (.c (.bool false)), 0, none⟩] [0, 1])
  (.seq
   (.reg false [⟨0, (some 5), .mv (.t 0), 0, none⟩, ⟨1, (some 6), .call 174 [.t 5], 2, none⟩, ⟨2, (some 7), .mv (.t 6), 0, none⟩, ⟨3, (some 8), .mv (.t 1), 0, (some (7, true))⟩, ⟨4, (some 9), .call 174 [.t 8], 2, (some (7, true))⟩, ⟨5, (some 10), .un .not (.t 9), 0, (some (7, true))⟩, ⟨6, (some 11), .pick (.t 7) (.t 10) (.c (.bool false)), 0, none⟩, ⟨7, (some 12), .mv (.t 11), 0, none⟩, ⟨8, (some 13), .mv (.t 0), 0, (some (12, false))⟩, ⟨9, (some 14), .mv (.t 1), 0, (some (12, false))⟩, ⟨10, (some 15), .bin .lss (.t 13) (.t 14), 0, (some (12, false))⟩, ⟨11, (some 16), .pick (.t 12) (.c (.bool true)) (.t 15), 0, none⟩, ⟨12, (some 4), .mv (.t 16), 0, none⟩] [4])
   (.ret))

theorem ok164 : okF Tryz.prog 164 2 c164 [.tmp 4] = true := by kernel_rfl

/-- slices.partitionEqualOrdered[int] -/
def c165 : C :=
 .seq
  (.reg false [⟨0, (some 8), .mv (.c (.int .i64 (0))), 0, none⟩] [0, 1, 2, 3])
  (.seq
   (.reg true [⟨0, (some 11), .mv (.t 0), 0, none⟩, ⟨1, (some 12), .mv (.t 1), 0, none⟩, ⟨2, (some 13), .mv (.t 0), 0, none⟩, ⟨3, (some 14), .mv (.t 3), 0, none⟩, ⟨4, (some 15), .mv (.t 0), 0, none⟩, ⟨5, (some 16), .mv (.t 3), 0, none⟩, ⟨6, (some 17), .iaddr none 1 (.t 15) (.t 16), 0, none⟩, ⟨8, (some 19), .mv (.t 0), 0, none⟩, ⟨9, (some 20), .mv (.t 1), 0, none⟩, ⟨10, (some 21), .iaddr none 1 (.t 19) (.t 20), 0, none⟩, ⟨7, (some 18), .load none (.t 17), 0, none⟩, ⟨11, (some 22), .load none (.t 21), 0, none⟩, ⟨12, (some 23), .iaddr none 1 (.t 11) (.t 12), 0, none⟩, ⟨13, none, .store 1 (.t 23) (.t 18), 0, none⟩, ⟨14, (some 24), .iaddr none 1 (.t 13) (.t 14), 0, none⟩, ⟨15, none, .store 1 (.t 24) (.t 22), 0, none⟩] [0, 1, 2])
   (.seq
    (.reg false [⟨0, (some 25), .mv (.t 1), 0, none⟩, ⟨1, (some 26), .bin .add (.t 25) (.c (.int .i64 (1))), 0, none⟩, ⟨2, (some 27), .mv (.t 2), 0, none⟩, ⟨3, (some 28), .bin .sub (.t 27) (.c (.int .i64 (1))), 0, none⟩, ⟨4, (some 9), .mv (.t 26), 0, none⟩, ⟨5, (some 10), .mv (.t 28), 0, none⟩] [0, 1, 9, 10])
    (.seq
     (.blk 0
      (.loop [0, 1, 9, 10]
       (.blk 1
        (.seq
         (.blk 2
          (.loop [0, 1, 9, 10]
           (.seq
            (.seq
             (.reg true [⟨0, (some 29), .mv (.t 9), 0, none⟩, ⟨1, (some 30), .mv (.t 10), 0, none⟩, ⟨2, (some 31), .bin .leq (.t 29) (.t 30), 0, none⟩, ⟨3, (some 32), .mv (.t 31), 0, none⟩, ⟨4, (some 33), .mv (.t 0), 0, (some (32, true))⟩, ⟨5, (some 34), .mv (.t 1), 0, (some (32, true))⟩, ⟨6, (some 35), .iaddr none 1 (.t 33) (.t 34), 0, (some (32, true))⟩, ⟨8, (some 37), .mv (.t 0), 0, (some (32, true))⟩, ⟨9, (some 38), .mv (.t 9), 0, (some (32, true))⟩, ⟨10, (some 39), .iaddr none 1 (.t 37) (.t 38), 0, (some (32, true))⟩, ⟨7, (some 36), .load none (.t 35), 0, (some (32, true))⟩, ⟨11, (some 40), .load none (.t 39), 0, (some (32, true))⟩, ⟨12, (some 41), .call 164 [.t 36, .t 40], 2, (some (32, true))⟩, ⟨13, (some 42), .un .not (.t 41), 0, (some (32, true))⟩, ⟨14, (some 43), .pick (.t 32) (.t 42) (.c (.bool false)), 0, none⟩] [0, 1, 9, 10, 43])
             (.cond (.t 43)
              (.skip)
              (.exit 2)))
            (.blk 3
             (.reg false [⟨0, (some 44), .mv (.t 9), 0, none⟩, ⟨1, (some 45), .bin .add (.t 44) (.c (.int .i64 (1))), 0, none⟩, ⟨2, (some 9), .mv (.t 45), 0, none⟩] [0, 1, 9, 10])))))
         (.seq
          (.blk 4
           (.loop [0, 1, 9, 10]
            (.seq
             (.seq
              (.reg true [⟨0, (some 46), .mv (.t 9), 0, none⟩, ⟨1, (some 47), .mv (.t 10), 0, none⟩, ⟨2, (some 48), .bin .leq (.t 46) (.t 47), 0, none⟩, ⟨3, (some 49), .mv (.t 48), 0, none⟩, ⟨4, (some 50), .mv (.t 0), 0, (some (49, true))⟩, ⟨5, (some 51), .mv (.t 1), 0, (some (49, true))⟩, ⟨6, (some 52), .iaddr none 1 (.t 50) (.t 51), 0, (some (49, true))⟩, ⟨8, (some 54), .mv (.t 0), 0, (some (49, true))⟩, ⟨9, (some 55), .mv (.t 10), 0, (some (49, true))⟩, ⟨10, (some 56), .iaddr none 1 (.t 54) (.t 55), 0, (some (49, true))⟩, ⟨7, (some 53), .load none (.t 52), 0, (some (49, true))⟩, ⟨11, (some 57), .load none (.t 56), 0, (some (49, true))⟩, ⟨12, (some 58), .call 164 [.t 53, .t 57], 2, (some (49, true))⟩, ⟨13, (some 59), .pick (.t 49) (.t 58) (.c (.bool false)), 0, none⟩] [0, 1, 9, 10, 59])
              (.cond (.t 59)
               (.skip)
               (.exit 4)))
             (.blk 5
              (.reg false [⟨0, (some 60), .mv (.t 10), 0, none⟩, ⟨1, (some 61), .bin .sub (.t 60) (.c (.int .i64 (1))), 0, none⟩, ⟨2, (some 10), .mv (.t 61), 0, none⟩] [0, 1, 9, 10])))))
          (.seq
           (.seq
            (.reg false [⟨0, (some 62), .mv (.t 9), 0, none⟩, ⟨1, (some 63), .mv (.t 10), 0, none⟩, ⟨2, (some 64), .bin .gtr (.t 62) (.t 63), 0, none⟩] [0, 1, 9, 10, 64])
            (.cond (.t 64)
             (.exit 0)
             (.skip)))
           (.seq
            (.reg true [⟨0, (some 65), .mv (.t 0), 0, none⟩, ⟨1, (some 66), .mv (.t 9), 0, none⟩, ⟨2, (some 67), .mv (.t 0), 0, none⟩, ⟨3, (some 68), .mv (.t 10), 0, none⟩, ⟨4, (some 69), .mv (.t 0), 0, none⟩, ⟨5, (some 70), .mv (.t 10), 0, none⟩, ⟨6, (some 71), .iaddr none 1 (.t 69) (.t 70), 0, none⟩, ⟨8, (some 73), .mv (.t 0), 0, none⟩, ⟨9, (some 74), .mv (.t 9), 0, none⟩, ⟨10, (some 75), .iaddr none 1 (.t 73) (.t 74), 0, none⟩, ⟨7, (some 72), .load none (.t 71), 0, none⟩, ⟨11, (some 76), .load none (.t 75), 0, none⟩, ⟨12, (some 77), .iaddr none 1 (.t 65) (.t 66), 0, none⟩, ⟨13, none, .store 1 (.t 77) (.t 72), 0, none⟩, ⟨14, (some 78), .iaddr none 1 (.t 67) (.t 68), 0, none⟩, ⟨15, none, .store 1 (.t 78) (.t 76), 0, none⟩] [0, 1, 9, 10])
            (.seq
             (.reg false [⟨0, (some 79), .mv (.t 9), 0, none⟩, ⟨1, (some 80), .bin .add (.t 79) (.c (.int .i64 (1))), 0, none⟩, ⟨2, (some 9), .mv (.t 80), 0, none⟩] [0, 1, 9, 10])
             (.reg false [⟨0, (some 81), .mv (.t 10), 0, none⟩, ⟨1, (some 82), .bin .sub (.t 81) (.c (.int .i64 (1))), 0, none⟩, ⟨2, (some 10), .mv (.t 82), 0, none⟩] [0, 1, 9, 10])))))))))
     (.seq
      (.reg false [⟨0, (some 83), .mv (.t 9), 0, none⟩, ⟨1, (some 8), .mv (.t 83), 0, none⟩] [8])
      (.ret)))))

theorem ok165 : okF Tryz.prog 165 4 c165 [.tmp 8] = true := by kernel_rfl

/-- slices.partitionOrdered[int] -/
def c166 : C :=
 .seq
  (.reg false [⟨0, (some 8), .mv (.c (.int .i64 (0))), 0, none⟩, ⟨1, (some 9), .mv (.c (.bool false)), 0, none⟩] [0, 1, 2, 3])
  (.seq
   (.reg true [⟨0, (some 12), .mv (.t 0), 0, none⟩, ⟨1, (some 13), .mv (.t 1), 0, none⟩, ⟨2, (some 14), .mv (.t 0), 0, none⟩, ⟨3, (some 15), .mv (.t 3), 0, none⟩, ⟨4, (some 16), .mv (.t 0), 0, none⟩, ⟨5, (some 17), .mv (.t 3), 0, none⟩, ⟨6, (some 18), .iaddr none 1 (.t 16) (.t 17), 0, none⟩, ⟨8, (some 20), .mv (.t 0), 0, none⟩, ⟨9, (some 21), .mv (.t 1), 0, none⟩, ⟨10, (some 22), .iaddr none 1 (.t 20) (.t 21), 0, none⟩, ⟨7, (some 19), .load none (.t 18), 0, none⟩, ⟨11, (some 23), .load none (.t 22), 0, none⟩, ⟨12, (some 24), .iaddr none 1 (.t 12) (.t 13), 0, none⟩, ⟨13, none, .store 1 (.t 24) (.t 19), 0, none⟩, ⟨14, (some 25), .iaddr none 1 (.t 14) (.t 15), 0, none⟩, ⟨15, none, .store 1 (.t 25) (.t 23), 0, none⟩] [0, 1, 2])
   (.seq
    (.reg false [⟨0, (some 26), .mv (.t 1), 0, none⟩, ⟨1, (some 27), .bin .add (.t 26) (.c (.int .i64 (1))), 0, none⟩, ⟨2, (some 28), .mv (.t 2), 0, none⟩, ⟨3, (some 29), .bin .sub (.t 28) (.c (.int .i64 (1))), 0, none⟩, ⟨4, (some 10), .mv (.t 27), 0, none⟩, ⟨5, (some 11), .mv (.t 29), 0, none⟩] [0, 1, 10, 11])
    (.seq
     (.blk 0
      (.loop [0, 1, 10, 11]
       (.seq
        (.seq
         (.reg true [⟨0, (some 30), .mv (.t 10), 0, none⟩, ⟨1, (some 31), .mv (.t 11), 0, none⟩, ⟨2, (some 32), .bin .leq (.t 30) (.t 31), 0, none⟩, ⟨3, (some 33), .mv (.t 32), 0, none⟩, ⟨4, (some 34), .mv (.t 0), 0, (some (33, true))⟩, ⟨5, (some 35), .mv (.t 10), 0, (some (33, true))⟩, ⟨6, (some 36), .iaddr none 1 (.t 34) (.t 35), 0, (some (33, true))⟩, ⟨8, (some 38), .mv (.t 0), 0, (some (33, true))⟩, ⟨9, (some 39), .mv (.t 1), 0, (some (33, true))⟩, ⟨10, (some 40), .iaddr none 1 (.t 38) (.t 39), 0, (some (33, true))⟩, ⟨7, (some 37), .load none (.t 36), 0, (some (33, true))⟩, ⟨11, (some 41), .load none (.t 40), 0, (some (33, true))⟩, ⟨12, (some 42), .call 164 [.t 37, .t 41], 2, (some (33, true))⟩, ⟨13, (some 43), .pick (.t 33) (.t 42) (.c (.bool false)), 0, none⟩] [0, 1, 10, 11, 43])
         (.cond (.t 43)
          (.skip)
          (.exit 0)))
        (.blk 1
         (.reg false [⟨0, (some 44), .mv (.t 10), 0, none⟩, ⟨1, (some 45), .bin .add (.t 44) (.c (.int .i64 (1))), 0, none⟩, ⟨2, (some 10), .mv (.t 45), 0, none⟩] [0, 1, 10, 11])))))
     (.seq
      (.blk 2
       (.loop [0, 1, 10, 11]
        (.seq
         (.seq
          (.reg true [⟨0, (some 46), .mv (.t 10), 0, none⟩, ⟨1, (some 47), .mv (.t 11), 0, none⟩, ⟨2, (some 48), .bin .leq (.t 46) (.t 47), 0, none⟩, ⟨3, (some 49), .mv (.t 48), 0, none⟩, ⟨4, (some 50), .mv (.t 0), 0, (some (49, true))⟩, ⟨5, (some 51), .mv (.t 11), 0, (some (49, true))⟩, ⟨6, (some 52), .iaddr none 1 (.t 50) (.t 51), 0, (some (49, true))⟩, ⟨8, (some 54), .mv (.t 0), 0, (some (49, true))⟩, ⟨9, (some 55), .mv (.t 1), 0, (some (49, true))⟩, ⟨10, (some 56), .iaddr none 1 (.t 54) (.t 55), 0, (some (49, true))⟩, ⟨7, (some 53), .load none (.t 52), 0, (some (49, true))⟩, ⟨11, (some 57), .load none (.t 56), 0, (some (49, true))⟩, ⟨12, (some 58), .call 164 [.t 53, .t 57], 2, (some (49, true))⟩, ⟨13, (some 59), .un .not (.t 58), 0, (some (49, true))⟩, ⟨14, (some 60), .pick (.t 49) (.t 59) (.c (.bool false)), 0, none⟩] [0, 1, 10, 11, 60])
          (.cond (.t 60)
           (.skip)
           (.exit 2)))
         (.blk 3
          (.reg false [⟨0, (some 61), .mv (.t 11), 0, none⟩, ⟨1, (some 62), .bin .sub (.t 61) (.c (.int .i64 (1))), 0, none⟩, ⟨2, (some 11), .mv (.t 62), 0, none⟩] [0, 1, 10, 11])))))
      (.seq
       (.seq
        (.reg false [⟨0, (some 63), .mv (.t 10), 0, none⟩, ⟨1, (some 64), .mv (.t 11), 0, none⟩, ⟨2, (some 65), .bin .gtr (.t 63) (.t 64), 0, none⟩] [0, 1, 10, 11, 65])
        (.cond (.t 65)
         (.seq
          (.reg true [⟨0, (some 66), .mv (.t 0), 0, none⟩, ⟨1, (some 67), .mv (.t 11), 0, none⟩, ⟨2, (some 68), .mv (.t 0), 0, none⟩, ⟨3, (some 69), .mv (.t 1), 0, none⟩, ⟨4, (some 70), .mv (.t 0), 0, none⟩, ⟨5, (some 71), .mv (.t 1), 0, none⟩, ⟨6, (some 72), .iaddr none 1 (.t 70) (.t 71), 0, none⟩, ⟨8, (some 74), .mv (.t 0), 0, none⟩, ⟨9, (some 75), .mv (.t 11), 0, none⟩, ⟨10, (some 76), .iaddr none 1 (.t 74) (.t 75), 0, none⟩, ⟨7, (some 73), .load none (.t 72), 0, none⟩, ⟨11, (some 77), .load none (.t 76), 0, none⟩, ⟨12, (some 78), .iaddr none 1 (.t 66) (.t 67), 0, none⟩, ⟨13, none, .store 1 (.t 78) (.t 73), 0, none⟩, ⟨14, (some 79), .iaddr none 1 (.t 68) (.t 69), 0, none⟩, ⟨15, none, .store 1 (.t 79) (.t 77), 0, none⟩] [11])
          (.seq
           (.reg false [⟨0, (some 80), .mv (.t 11), 0, none⟩, ⟨1, (some 8), .mv (.t 80), 0, none⟩, ⟨2, (some 9), .mv (.c (.bool true)), 0, none⟩] [8, 9])
           (.ret)))
         (.skip)))
       (.seq
        (.reg true [⟨0, (some 81), .mv (.t 0), 0, none⟩, ⟨1, (some 82), .mv (.t 10), 0, none⟩, ⟨2, (some 83), .mv (.t 0), 0, none⟩, ⟨3, (some 84), .mv (.t 11), 0, none⟩, ⟨4, (some 85), .mv (.t 0), 0, none⟩, ⟨5, (some 86), .mv (.t 11), 0, none⟩, ⟨6, (some 87), .iaddr none 1 (.t 85) (.t 86), 0, none⟩, ⟨8, (some 89), .mv (.t 0), 0, none⟩, ⟨9, (some 90), .mv (.t 10), 0, none⟩, ⟨10, (some 91), .iaddr none 1 (.t 89) (.t 90), 0, none⟩, ⟨7, (some 88), .load none (.t 87), 0, none⟩, ⟨11, (some 92), .load none (.t 91), 0, none⟩, ⟨12, (some 93), .iaddr none 1 (.t 81) (.t 82), 0, none⟩, ⟨13, none, .store 1 (.t 93) (.t 88), 0, none⟩, ⟨14, (some 94), .iaddr none 1 (.t 83) (.t 84), 0, none⟩, ⟨15, none, .store 1 (.t 94) (.t 92), 0, none⟩] [0, 1, 10, 11])
        (.seq
         (.reg false [⟨0, (some 95), .mv (.t 10), 0, none⟩, ⟨1, (some 96), .bin .add (.t 95) (.c (.int .i64 (1))), 0, none⟩, ⟨2, (some 10), .mv (.t 96), 0, none⟩] [0, 1, 10, 11])
         (.seq
          (.reg false [⟨0, (some 97), .mv (.t 11), 0, none⟩, ⟨1, (some 98), .bin .sub (.t 97) (.c (.int .i64 (1))), 0, none⟩, ⟨2, (some 11), .mv (.t 98), 0, none⟩] [0, 1, 10, 11])
          (.seq
           (.blk 4
            (.loop [0, 1, 10, 11]
             (.blk 5
              (.seq
               (.blk 6
                (.loop [0, 1, 10, 11]
                 (.seq
                  (.seq
                   (.reg true [⟨0, (some 99), .mv (.t 10), 0, none⟩, ⟨1, (some 100), .mv (.t 11), 0, none⟩, ⟨2, (some 101), .bin .leq (.t 99) (.t 100), 0, none⟩, ⟨3, (some 102), .mv (.t 101), 0, none⟩, ⟨4, (some 103), .mv (.t 0), 0, (some (102, true))⟩, ⟨5, (some 104), .mv (.t 10), 0, (some (102, true))⟩, ⟨6, (some 105), .iaddr none 1 (.t 103) (.t 104), 0, (some (102, true))⟩, ⟨8, (some 107), .mv (.t 0), 0, (some (102, true))⟩, ⟨9, (some 108), .mv (.t 1), 0, (some (102, true))⟩, ⟨10, (some 109), .iaddr none 1 (.t 107) (.t 108), 0, (some (102, true))⟩, ⟨7, (some 106), .load none (.t 105), 0, (some (102, true))⟩, ⟨11, (some 110), .load none (.t 109), 0, (some (102, true))⟩, ⟨12, (some 111), .call 164 [.t 106, .t 110], 2, (some (102, true))⟩, ⟨13, (some 112), .pick (.t 102) (.t 111) (.c (.bool false)), 0, none⟩] [0, 1, 10, 11, 112])
                   (.cond (.t 112)
                    (.skip)
                    (.exit 6)))
                  (.blk 7
                   (.reg false [⟨0, (some 113), .mv (.t 10), 0, none⟩, ⟨1, (some 114), .bin .add (.t 113) (.c (.int .i64 (1))), 0, none⟩, ⟨2, (some 10), .mv (.t 114), 0, none⟩] [0, 1, 10, 11])))))
               (.seq
                (.blk 8
                 (.loop [0, 1, 10, 11]
                  (.seq
                   (.seq
                    (.reg true [⟨0, (some 115), .mv (.t 10), 0, none⟩, ⟨1, (some 116), .mv (.t 11), 0, none⟩, ⟨2, (some 117), .bin .leq (.t 115) (.t 116), 0, none⟩, ⟨3, (some 118), .mv (.t 117), 0, none⟩, ⟨4, (some 119), .mv (.t 0), 0, (some (118, true))⟩, ⟨5, (some 120), .mv (.t 11), 0, (some (118, true))⟩, ⟨6, (some 121), .iaddr none 1 (.t 119) (.t 120), 0, (some (118, true))⟩, ⟨8, (some 123), .mv (.t 0), 0, (some (118, true))⟩, ⟨9, (some 124), .mv (.t 1), 0, (some (118, true))⟩, ⟨10, (some 125), .iaddr none 1 (.t 123) (.t 124), 0, (some (118, true))⟩, ⟨7, (some 122), .load none (.t 121), 0, (some (118, true))⟩, ⟨11, (some 126), .load none (.t 125), 0, (some (118, true))⟩, ⟨12, (some 127), .call 164 [.t 122, .t 126], 2, (some (118, true))⟩, ⟨13, (some 128), .un .not (.t 127), 0, (some (118, true))⟩, ⟨14, (some 129), .pick (.t 118) (.t 128) (.c (.bool false)), 0, none⟩] [0, 1, 10, 11, 129])
                    (.cond (.t 129)
                     (.skip)
                     (.exit 8)))
                   (.blk 9
                    (.reg false [⟨0, (some 130), .mv (.t 11), 0, none⟩, ⟨1, (some 131), .bin .sub (.t 130) (.c (.int .i64 (1))), 0, none⟩, ⟨2, (some 11), .mv (.t 131), 0, none⟩] [0, 1, 10, 11])))))
                (.seq
                 (.seq
                  (.reg false [⟨0, (some 132), .mv (.t 10), 0, none⟩, ⟨1, (some 133), .mv (.t 11), 0, none⟩, ⟨2, (some 134), .bin .gtr (.t 132) (.t 133), 0, none⟩] [0, 1, 10, 11, 134])
                  (.cond (.t 134)
                   (.exit 4)
                   (.skip)))
                 (.seq
                  (.reg true [⟨0, (some 135), .mv (.t 0), 0, none⟩, ⟨1, (some 136), .mv (.t 10), 0, none⟩, ⟨2, (some 137), .mv (.t 0), 0, none⟩, ⟨3, (some 138), .mv (.t 11), 0, none⟩, ⟨4, (some 139), .mv (.t 0), 0, none⟩, ⟨5, (some 140), .mv (.t 11), 0, none⟩, ⟨6, (some 141), .iaddr none 1 (.t 139) (.t 140), 0, none⟩, ⟨8, (some 143), .mv (.t 0), 0, none⟩, ⟨9, (some 144), .mv (.t 10), 0, none⟩, ⟨10, (some 145), .iaddr none 1 (.t 143) (.t 144), 0, none⟩, ⟨7, (some 142), .load none (.t 141), 0, none⟩, ⟨11, (some 146), .load none (.t 145), 0, none⟩, ⟨12, (some 147), .iaddr none 1 (.t 135) (.t 136), 0, none⟩, ⟨13, none, .store 1 (.t 147) (.t 142), 0, none⟩, ⟨14, (some 148), .iaddr none 1 (.t 137) (.t 138), 0, none⟩, ⟨15, none, .store 1 (.t 148) (.t 146), 0, none⟩] [0, 1, 10, 11])
                  (.seq
                   (.reg false [⟨0, (some 149), .mv (.t 10), 0, none⟩, ⟨1, (some 150), .bin .add (.t 149) (.c (.int .i64 (1))), 0, none⟩, ⟨2, (some 10), .mv (.t 150), 0, none⟩] [0, 1, 10, 11])
                   (.reg false [⟨0, (some 151), .mv (.t 11), 0, none⟩, ⟨1, (some 152), .bin .sub (.t 151) (.c (.int .i64 (1))), 0, none⟩, ⟨2, (some 11), .mv (.t 152), 0, none⟩] [0, 1, 10, 11])))))))))
           (.seq
            (.reg true [⟨0, (some 153), .mv (.t 0), 0, none⟩, ⟨1, (some 154), .mv (.t 11), 0, none⟩, ⟨2, (some 155), .mv (.t 0), 0, none⟩, ⟨3, (some 156), .mv (.t 1), 0, none⟩, ⟨4, (some 157), .mv (.t 0), 0, none⟩, ⟨5, (some 158), .mv (.t 1), 0, none⟩, ⟨6, (some 159), .iaddr none 1 (.t 157) (.t 158), 0, none⟩, ⟨8, (some 161), .mv (.t 0), 0, none⟩, ⟨9, (some 162), .mv (.t 11), 0, none⟩, ⟨10, (some 163), .iaddr none 1 (.t 161) (.t 162), 0, none⟩, ⟨7, (some 160), .load none (.t 159), 0, none⟩, ⟨11, (some 164), .load none (.t 163), 0, none⟩, ⟨12, (some 165), .iaddr none 1 (.t 153) (.t 154), 0, none⟩, ⟨13, none, .store 1 (.t 165) (.t 160), 0, none⟩, ⟨14, (some 166), .iaddr none 1 (.t 155) (.t 156), 0, none⟩, ⟨15, none, .store 1 (.t 166) (.t 164), 0, none⟩] [11])
            (.seq
             (.reg false [⟨0, (some 167), .mv (.t 11), 0, none⟩, ⟨1, (some 8), .mv (.t 167), 0, none⟩, ⟨2, (some 9), .mv (.c (.bool false)), 0, none⟩] [8, 9])
             (.ret))))))))))))

theorem ok166 : okF Tryz.prog 166 4 c166 [.tmp 8, .tmp 9] = true := by kernel_rfl

/-- math/bits.Len32 -/
def c167 : C :=
 .seq
  (.reg false [⟨0, (some 2), .mv (.c (.int .i64 (0))), 0, none⟩] [0, 2])
  (.seq
   (.seq
    (.reg false [⟨0, (some 3), .mv (.t 0), 0, none⟩, ⟨1, (some 4), .bin .geq (.t 3) (.c (.int .u32 (65536))), 0, none⟩] [0, 2, 4])
    (.cond (.t 4)
     (.seq
      (.reg false [⟨0, (some 5), .mv (.t 0), 0, none⟩, ⟨1, (some 6), .bin .shr (.t 5) (.c (.int .u64 (16))), 0, none⟩, ⟨2, (some 0), .mv (.t 6), 0, none⟩] [0])
      (.reg false [⟨0, (some 2), .mv (.c (.int .i64 (16))), 0, none⟩] [0, 2]))
     (.skip)))
   (.seq
    (.seq
     (.reg false [⟨0, (some 7), .mv (.t 0), 0, none⟩, ⟨1, (some 8), .bin .geq (.t 7) (.c (.int .u32 (256))), 0, none⟩] [0, 2, 8])
     (.cond (.t 8)
      (.seq
       (.reg false [⟨0, (some 9), .mv (.t 0), 0, none⟩, ⟨1, (some 10), .bin .shr (.t 9) (.c (.int .u64 (8))), 0, none⟩, ⟨2, (some 0), .mv (.t 10), 0, none⟩] [0, 2])
       (.reg false [⟨0, (some 11), .mv (.t 2), 0, none⟩, ⟨1, (some 12), .bin .add (.t 11) (.c (.int .i64 (8))), 0, none⟩, ⟨2, (some 2), .mv (.t 12), 0, none⟩] [0, 2]))
      (.skip)))
    (.seq
     (.reg false [⟨0, (some 13), .mv (.t 2), 0, none⟩, ⟨1, (some 14), .mv (.t 0), 0, none⟩, ⟨2, (some 15), .cvt .u8 (.t 14), 0, none⟩, ⟨3, (some 16), .sidx (.c (.str ⟨#[0, 1, 2, 2, 3, 3, 3, 3, 4, 4, 4, 4, 4, 4, 4, 4, 5, 5, 5, 5, 5, 5, 5, 5, 5, 5, 5, 5, 5, 5, 5, 5, 6, 6, 6, 6, 6, 6, 6, 6, 6, 6, 6, 6, 6, 6, 6, 6, 6, 6, 6, 6, 6, 6, 6, 6, 6, 6, 6, 6, 6, 6, 6, 6, 7, 7, 7, 7, 7, 7, 7, 7, 7, 7, 7, 7, 7, 7, 7, 7, 7, 7, 7, 7, 7, 7, 7, 7, 7, 7, 7, 7, 7, 7, 7, 7, 7, 7, 7, 7, 7, 7, 7, 7, 7, 7, 7, 7, 7, 7, 7, 7, 7, 7, 7, 7, 7, 7, 7, 7, 7, 7, 7, 7, 7, 7, 7, 7, 8, 8, 8, 8, 8, 8, 8, 8, 8, 8, 8, 8, 8, 8, 8, 8, 8, 8, 8, 8, 8, 8, 8, 8, 8, 8, 8, 8, 8, 8, 8, 8, 8, 8, 8, 8, 8, 8, 8, 8, 8, 8, 8, 8, 8, 8, 8, 8, 8, 8, 8, 8, 8, 8, 8, 8, 8, 8, 8, 8, 8, 8, 8, 8, 8, 8, 8, 8, 8, 8, 8, 8, 8, 8, 8, 8, 8, 8, 8, 8, 8, 8, 8, 8, 8, 8, 8, 8, 8, 8, 8, 8, 8, 8, 8, 8, 8, 8, 8, 8, 8, 8, 8, 8, 8, 8, 8, 8, 8, 8, 8, 8, 8, 8, 8, 8, 8, 8, 8, 8, 8, 8, 8, 8, 8, 8, 8, 8]⟩)) (.t 15), 0, none⟩, ⟨4, (some 17), .cvt .i64 (.t 16), 0, none⟩, ⟨5, (some 18), .bin .add (.t 13) (.t 17), 0, none⟩, ⟨6, (some 2), .mv (.t 18), 0, none⟩] [2])
     (.ret))))

theorem ok167 : okF Tryz.prog 167 1 c167 [.tmp 2] = true := by kernel_rfl

/-- math/bits.Len64 -/
def c168 : C :=
 .seq
  (.reg false [⟨0, (some 2), .mv (.c (.int .i64 (0))), 0, none⟩] [0, 2])
  (.seq
   (.seq
    (.reg false [⟨0, (some 3), .mv (.t 0), 0, none⟩, ⟨1, (some 4), .bin .geq (.t 3) (.c (.int .u64 (4294967296))), 0, none⟩] [0, 2, 4])
    (.cond (.t 4)
     (.seq
      (.reg false [⟨0, (some 5), .mv (.t 0), 0, none⟩, ⟨1, (some 6), .bin .shr (.t 5) (.c (.int .u64 (32))), 0, none⟩, ⟨2, (some 0), .mv (.t 6), 0, none⟩] [0])
      (.reg false [⟨0, (some 2), .mv (.c (.int .i64 (32))), 0, none⟩] [0, 2]))
     (.skip)))
   (.seq
    (.seq
     (.reg false [⟨0, (some 7), .mv (.t 0), 0, none⟩, ⟨1, (some 8), .bin .geq (.t 7) (.c (.int .u64 (65536))), 0, none⟩] [0, 2, 8])
     (.cond (.t 8)
      (.seq
       (.reg false [⟨0, (some 9), .mv (.t 0), 0, none⟩, ⟨1, (some 10), .bin .shr (.t 9) (.c (.int .u64 (16))), 0, none⟩, ⟨2, (some 0), .mv (.t 10), 0, none⟩] [0, 2])
       (.reg false [⟨0, (some 11), .mv (.t 2), 0, none⟩, ⟨1, (some 12), .bin .add (.t 11) (.c (.int .i64 (16))), 0, none⟩, ⟨2, (some 2), .mv (.t 12), 0, none⟩] [0, 2]))
      (.skip)))
    (.seq
     (.seq
      (.reg false [⟨0, (some 13), .mv (.t 0), 0, none⟩, ⟨1, (some 14), .bin .geq (.t 13) (.c (.int .u64 (256))), 0, none⟩] [0, 2, 14])
      (.cond (.t 14)
       (.seq
        (.reg false [⟨0, (some 15), .mv (.t 0), 0, none⟩, ⟨1, (some 16), .bin .shr (.t 15) (.c (.int .u64 (8))), 0, none⟩, ⟨2, (some 0), .mv (.t 16), 0, none⟩] [0, 2])
        (.reg false [⟨0, (some 17), .mv (.t 2), 0, none⟩, ⟨1, (some 18), .bin .add (.t 17) (.c (.int .i64 (8))), 0, none⟩, ⟨2, (some 2), .mv (.t 18), 0, none⟩] [0, 2]))
       (.skip)))
     (.seq
      (.reg false [⟨0, (some 19), .mv (.t 2), 0, none⟩, ⟨1, (some 20), .mv (.t 0), 0, none⟩, ⟨2, (some 21), .cvt .u8 (.t 20), 0, none⟩, ⟨3, (some 22), .sidx (.c (.str ⟨#[0, 1, 2, 2, 3, 3, 3, 3, 4, 4, 4, 4, 4, 4, 4, 4, 5, 5, 5, 5, 5, 5, 5, 5, 5, 5, 5, 5, 5, 5, 5, 5, 6, 6, 6, 6, 6, 6, 6, 6, 6, 6, 6, 6, 6, 6, 6, 6, 6, 6, 6, 6, 6, 6, 6, 6, 6, 6, 6, 6, 6, 6, 6, 6, 7, 7, 7, 7, 7, 7, 7, 7, 7, 7, 7, 7, 7, 7, 7, 7, 7, 7, 7, 7, 7, 7, 7, 7, 7, 7, 7, 7, 7, 7, 7, 7, 7, 7, 7, 7, 7, 7, 7, 7, 7, 7, 7, 7, 7, 7, 7, 7, 7, 7, 7, 7, 7, 7, 7, 7, 7, 7, 7, 7, 7, 7, 7, 7, 8, 8, 8, 8, 8, 8, 8, 8, 8, 8, 8, 8, 8, 8, 8, 8, 8, 8, 8, 8, 8, 8, 8, 8, 8, 8, 8, 8, 8, 8, 8, 8, 8, 8, 8, 8, 8, 8, 8, 8, 8, 8, 8, 8, 8, 8, 8, 8, 8, 8, 8, 8, 8, 8, 8, 8, 8, 8, 8, 8, 8, 8, 8, 8, 8, 8, 8, 8, 8, 8, 8, 8, 8, 8, 8, 8, 8, 8, 8, 8, 8, 8, 8, 8, 8, 8, 8, 8, 8, 8, 8, 8, 8, 8, 8, 8, 8, 8, 8, 8, 8, 8, 8, 8, 8, 8, 8, 8, 8, 8, 8, 8, 8, 8, 8, 8, 8, 8, 8, 8, 8, 8, 8, 8, 8, 8, 8, 8]⟩)) (.t 21), 0, none⟩, ⟨4, (some 23), .cvt .i64 (.t 22), 0, none⟩, ⟨5, (some 24), .bin .add (.t 19) (.t 23), 0, none⟩, ⟨6, (some 2), .mv (.t 24), 0, none⟩] [2])
      (.ret)))))

theorem ok168 : okF Tryz.prog 168 1 c168 [.tmp 2] = true := by kernel_rfl

/-- slices.siftDownOrdered[int] -/
def c169 : C :=
 .seq
  (.reg false [⟨0, (some 10), .mv (.t 1), 0, none⟩, ⟨1, (some 8), .mv (.t 10), 0, none⟩] [0, 2, 3, 8])
  (.blk 0
   (.loop [0, 2, 3, 8]
    (.blk 1
     (.seq
      (.reg false [⟨0, (some 11), .mv (.t 8), 0, none⟩, ⟨1, (some 12), .bin .mul (.c (.int .i64 (2))) (.t 11), 0, none⟩, ⟨2, (some 13), .bin .add (.t 12) (.c (.int .i64 (1))), 0, none⟩, ⟨3, (some 9), .mv (.t 13), 0, none⟩] [0, 2, 3, 8, 9])
      (.seq
       (.seq
        (.reg false [⟨0, (some 14), .mv (.t 9), 0, none⟩, ⟨1, (some 15), .mv (.t 2), 0, none⟩, ⟨2, (some 16), .bin .geq (.t 14) (.t 15), 0, none⟩] [0, 2, 3, 8, 9, 16])
        (.cond (.t 16)
         (.exit 0)
         (.skip)))
       (.seq
        (.seq
         (.reg true [⟨0, (some 17), .mv (.t 9), 0, none⟩, ⟨1, (some 18), .bin .add (.t 17) (.c (.int .i64 (1))), 0, none⟩, ⟨2, (some 19), .mv (.t 2), 0, none⟩, ⟨3, (some 20), .bin .lss (.t 18) (.t 19), 0, none⟩, ⟨4, (some 21), .mv (.t 20), 0, none⟩, ⟨5, (some 22), .mv (.t 0), 0, (some (21, true))⟩, ⟨6, (some 23), .mv (.t 3), 0, (some (21, true))⟩, ⟨7, (some 24), .mv (.t 9), 0, (some (21, true))⟩, ⟨8, (some 25), .bin .add (.t 23) (.t 24), 0, (some (21, true))⟩, ⟨9, (some 26), .iaddr none 1 (.t 22) (.t 25), 0, (some (21, true))⟩, ⟨11, (some 28), .mv (.t 0), 0, (some (21, true))⟩, ⟨12, (some 29), .mv (.t 3), 0, (some (21, true))⟩, ⟨13, (some 30), .mv (.t 9), 0, (some (21, true))⟩, ⟨14, (some 31), .bin .add (.t 29) (.t 30), 0, (some (21, true))⟩, ⟨15, (some 32), .bin .add (.t 31) (.c (.int .i64 (1))), 0, (some (21, true))⟩, ⟨16, (some 33), .iaddr none 1 (.t 28) (.t 32), 0, (some (21, true))⟩, ⟨10, (some 27), .load none (.t 26), 0, (some (21, true))⟩, ⟨17, (some 34), .load none (.t 33), 0, (some (21, true))⟩, ⟨18, (some 35), .call 164 [.t 27, .t 34], 2, (some (21, true))⟩, ⟨19, (some 36), .pick (.t 21) (.t 35) (.c (.bool false)), 0, none⟩] [0, 2, 3, 8, 9, 36])
         (.cond (.t 36)
          (.reg false [⟨0, (some 37), .mv (.t 9), 0, none⟩, ⟨1, (some 38), .bin .add (.t 37) (.c (.int .i64 (1))), 0, none⟩, ⟨2, (some 9), .mv (.t 38), 0, none⟩] [0, 2, 3, 8, 9])
          (.skip)))
        (.seq
         (.seq
          (.reg true [⟨0, (some 39), .mv (.t 0), 0, none⟩, ⟨1, (some 40), .mv (.t 3), 0, none⟩, ⟨2, (some 41), .mv (.t 8), 0, none⟩, ⟨3, (some 42), .bin .add (.t 40) (.t 41), 0, none⟩, ⟨4, (some 43), .iaddr none 1 (.t 39) (.t 42), 0, none⟩, ⟨6, (some 45), .mv (.t 0), 0, none⟩, ⟨7, (some 46), .mv (.t 3), 0, none⟩, ⟨8, (some 47), .mv (.t 9), 0, none⟩, ⟨9, (some 48), .bin .add (.t 46) (.t 47), 0, none⟩, ⟨10, (some 49), .iaddr none 1 (.t 45) (.t 48), 0, none⟩, ⟨5, (some 44), .load none (.t 43), 0, none⟩, ⟨11, (some 50), .load none (.t 49), 0, none⟩, ⟨12, (some 51), .call 164 [.t 44, .t 50], 2, none⟩, ⟨13, (some 52), .un .not (.t 51), 0, none⟩] [0, 2, 3, 8, 9, 52])
          (.cond (.t 52)
           (.ret)
           (.skip)))
         (.seq
          (.reg true [⟨0, (some 53), .mv (.t 0), 0, none⟩, ⟨1, (some 54), .mv (.t 3), 0, none⟩, ⟨2, (some 55), .mv (.t 8), 0, none⟩, ⟨3, (some 56), .bin .add (.t 54) (.t 55), 0, none⟩, ⟨4, (some 57), .mv (.t 0), 0, none⟩, ⟨5, (some 58), .mv (.t 3), 0, none⟩, ⟨6, (some 59), .mv (.t 9), 0, none⟩, ⟨7, (some 60), .bin .add (.t 58) (.t 59), 0, none⟩, ⟨8, (some 61), .mv (.t 0), 0, none⟩, ⟨9, (some 62), .mv (.t 3), 0, none⟩, ⟨10, (some 63), .mv (.t 9), 0, none⟩, ⟨11, (some 64), .bin .add (.t 62) (.t 63), 0, none⟩, ⟨12, (some 65), .iaddr none 1 (.t 61) (.t 64), 0, none⟩, ⟨14, (some 67), .mv (.t 0), 0, none⟩, ⟨15, (some 68), .mv (.t 3), 0, none⟩, ⟨16, (some 69), .mv (.t 8), 0, none⟩, ⟨17, (some 70), .bin .add (.t 68) (.t 69), 0, none⟩, ⟨18, (some 71), .iaddr none 1 (.t 67) (.t 70), 0, none⟩, ⟨13, (some 66), .load none (.t 65), 0, none⟩, ⟨19, (some 72), .load none (.t 71), 0, none⟩, ⟨20, (some 73), .iaddr none 1 (.t 53) (.t 56), 0, none⟩, ⟨21, none, .store 1 (.t 73) (.t 66), 0, none⟩, ⟨22, (some 74), .iaddr none 1 (.t 57) (.t 60), 0, none⟩, ⟨23, none, .store 1 (.t 74) (.t 72), 0, none⟩] [0, 2, 3, 9])
          (.reg false [⟨0, (some 75), .mv (.t 9), 0, none⟩, ⟨1, (some 8), .mv (.t 75), 0, none⟩] [0, 2, 3, 8])))))))))

theorem ok169 : okF Tryz.prog 169 4 c169 [] = true := by kernel_rfl

/-- slices.nextPowerOfTwo -/
def c170 : C :=
 .seq
  (.reg false [⟨0, (some 2), .mv (.c (.int .u64 (0))), 0, none⟩] [0])
  (.seq
   (.reg false [⟨0, (some 3), .mv (.t 0), 0, none⟩, ⟨1, (some 4), .cvt .u64 (.t 3), 0, none⟩, ⟨2, (some 5), .call 157 [.t 4], 2, none⟩, ⟨3, (some 6), .bin .shl (.c (.int .u64 (1))) (.t 5), 0, none⟩, ⟨4, (some 2), .mv (.t 6), 0, none⟩] [2])
   (.ret))

theorem ok170 : okF Tryz.prog 170 1 c170 [.tmp 2] = true := by kernel_rfl

/-- (*slices.xorshift).Next -/
def c171 : C :=
 .seq
  (.reg false [⟨0, (some 2), .mv (.c (.int .u64 (0))), 0, none⟩] [0])
  (.seq
   (.reg true [⟨0, (some 3), .mv (.t 0), 0, none⟩, ⟨1, (some 4), .nilc (.t 3), 0, none⟩, ⟨3, (some 6), .mv (.t 0), 0, none⟩, ⟨4, (some 7), .nilc (.t 6), 0, none⟩, ⟨2, (some 5), .load none (.t 4), 0, none⟩, ⟨5, (some 8), .load none (.t 7), 0, none⟩, ⟨6, (some 9), .bin .shl (.t 8) (.c (.int .u64 (13))), 0, none⟩, ⟨7, (some 10), .bin .xor (.t 5) (.t 9), 0, none⟩, ⟨8, (some 11), .nilc (.t 3), 0, none⟩, ⟨9, none, .store 1 (.t 11) (.t 10), 0, none⟩] [0])
   (.seq
    (.reg true [⟨0, (some 12), .mv (.t 0), 0, none⟩, ⟨1, (some 13), .nilc (.t 12), 0, none⟩, ⟨3, (some 15), .mv (.t 0), 0, none⟩, ⟨4, (some 16), .nilc (.t 15), 0, none⟩, ⟨2, (some 14), .load none (.t 13), 0, none⟩, ⟨5, (some 17), .load none (.t 16), 0, none⟩, ⟨6, (some 18), .bin .shr (.t 17) (.c (.int .u64 (7))), 0, none⟩, ⟨7, (some 19), .bin .xor (.t 14) (.t 18), 0, none⟩, ⟨8, (some 20), .nilc (.t 12), 0, none⟩, ⟨9, none, .store 1 (.t 20) (.t 19), 0, none⟩] [0])
    (.seq
     (.reg true [⟨0, (some 21), .mv (.t 0), 0, none⟩, ⟨1, (some 22), .nilc (.t 21), 0, none⟩, ⟨3, (some 24), .mv (.t 0), 0, none⟩, ⟨4, (some 25), .nilc (.t 24), 0, none⟩, ⟨2, (some 23), .load none (.t 22), 0, none⟩, ⟨5, (some 26), .load none (.t 25), 0, none⟩, ⟨6, (some 27), .bin .shl (.t 26) (.c (.int .u64 (17))), 0, none⟩, ⟨7, (some 28), .bin .xor (.t 23) (.t 27), 0, none⟩, ⟨8, (some 29), .nilc (.t 21), 0, none⟩, ⟨9, none, .store 1 (.t 29) (.t 28), 0, none⟩] [0])
     (.seq
      (.reg false [⟨0, (some 30), .mv (.t 0), 0, none⟩, ⟨1, (some 31), .nilc (.t 30), 0, none⟩, ⟨2, (some 32), .load none (.t 31), 0, none⟩, ⟨3, (some 2), .mv (.t 32), 0, none⟩] [2])
      (.ret)))))

theorem ok171 : okF Tryz.prog 171 1 c171 [.tmp 2] = true := by kernel_rfl

/-- slices.medianAdjacentOrdered[int] -/
def c172 : C :=
 .seq
  (.reg false [⟨0, (some 6), .mv (.c (.int .i64 (0))), 0, none⟩] [0, 1, 2])
  (.seq
   (.reg false [⟨0, (some 7), .mv (.t 0), 0, none⟩, ⟨1, (some 8), .mv (.t 1), 0, none⟩, ⟨2, (some 9), .bin .sub (.t 8) (.c (.int .i64 (1))), 0, none⟩, ⟨3, (some 10), .mv (.t 1), 0, none⟩, ⟨4, (some 11), .mv (.t 1), 0, none⟩, ⟨5, (some 12), .bin .add (.t 11) (.c (.int .i64 (1))), 0, none⟩, ⟨6, (some 13), .mv (.t 2), 0, none⟩, ⟨7, (some 14), .call 173 [.t 7, .t 9, .t 10, .t 12, .t 13], 2, none⟩, ⟨8, (some 6), .mv (.t 14), 0, none⟩] [6])
   (.ret))

theorem ok172 : okF Tryz.prog 172 3 c172 [.tmp 6] = true := by kernel_rfl

/-- slices.medianOrdered[int] -/
def c173 : C :=
 .seq
  (.reg false [⟨0, (some 10), .mv (.c (.int .i64 (0))), 0, none⟩] [0, 1, 2, 3, 4])
  (.seq
   (.reg false [⟨0, (some 12), .mv (.t 0), 0, none⟩, ⟨1, (some 13), .mv (.t 1), 0, none⟩, ⟨2, (some 14), .mv (.t 2), 0, none⟩, ⟨3, (some 15), .mv (.t 4), 0, none⟩, ⟨4, (some 16), .call 175 [.t 12, .t 13, .t 14, .t 15], 2, none⟩, ⟨5, (some 11), .mv (.t 16), 0, none⟩, ⟨6, (some 17), .ext 0 (.t 11), 0, none⟩, ⟨7, (some 18), .ext 1 (.t 11), 0, none⟩, ⟨8, (some 1), .mv (.t 17), 0, none⟩, ⟨9, (some 2), .mv (.t 18), 0, none⟩] [0, 1, 2, 3, 4])
   (.seq
    (.reg false [⟨0, (some 20), .mv (.t 0), 0, none⟩, ⟨1, (some 21), .mv (.t 2), 0, none⟩, ⟨2, (some 22), .mv (.t 3), 0, none⟩, ⟨3, (some 23), .mv (.t 4), 0, none⟩, ⟨4, (some 24), .call 175 [.t 20, .t 21, .t 22, .t 23], 2, none⟩, ⟨5, (some 19), .mv (.t 24), 0, none⟩, ⟨6, (some 25), .ext 0 (.t 19), 0, none⟩, ⟨7, (some 26), .ext 1 (.t 19), 0, none⟩, ⟨8, (some 2), .mv (.t 25), 0, none⟩, ⟨9, (some 3), .mv (.t 26), 0, none⟩] [0, 1, 2, 4])
    (.seq
     (.reg false [⟨0, (some 28), .mv (.t 0), 0, none⟩, ⟨1, (some 29), .mv (.t 1), 0, none⟩, ⟨2, (some 30), .mv (.t 2), 0, none⟩, ⟨3, (some 31), .mv (.t 4), 0, none⟩, ⟨4, (some 32), .call 175 [.t 28, .t 29, .t 30, .t 31], 2, none⟩, ⟨5, (some 27), .mv (.t 32), 0, none⟩, ⟨6, (some 33), .ext 0 (.t 27), 0, none⟩, ⟨7, (some 34), .ext 1 (.t 27), 0, none⟩, ⟨8, (some 1), .mv (.t 33), 0, none⟩, ⟨9, (some 2), .mv (.t 34), 0, none⟩] [2])
     (.seq
      (.reg false [⟨0, (some 35), .mv (.t 2), 0, none⟩, ⟨1, (some 10), .mv (.t 35), 0, none⟩] [10])
      (.ret)))))

theorem ok173 : okF Tryz.prog 173 5 c173 [.tmp 10] = true := by kernel_rfl

/-- cmp.isNaN[int] -/
def c174 : C :=
 .seq
  (.reg false [⟨0, (some 2), .mv (.c (.bool false)), 0, none⟩] [0])
  (.seq
   (.reg false [⟨0, (some 3), .mv (.t 0), 0, none⟩, ⟨1, (some 4), .mv (.t 0), 0, none⟩, ⟨2, (some 5), .bin .neq (.t 3) (.t 4), 0, none⟩, ⟨3, (some 2), .mv (.t 5), 0, none⟩] [2])
   (.ret))

theorem ok174 : okF Tryz.prog 174 1 c174 [.tmp 2] = true := by kernel_rfl

/-- slices.order2Ordered[int] -/
def c175 : C :=
 .seq
  (.reg false [⟨0, (some 8), .mv (.c (.int .i64 (0))), 0, none⟩, ⟨1, (some 9), .mv (.c (.int .i64 (0))), 0, none⟩] [0, 1, 2, 3])
  (.seq
   (.seq
    (.reg true [⟨0, (some 10), .mv (.t 0), 0, none⟩, ⟨1, (some 11), .mv (.t 2), 0, none⟩, ⟨2, (some 12), .iaddr none 1 (.t 10) (.t 11), 0, none⟩, ⟨4, (some 14), .mv (.t 0), 0, none⟩, ⟨5, (some 15), .mv (.t 1), 0, none⟩, ⟨6, (some 16), .iaddr none 1 (.t 14) (.t 15), 0, none⟩, ⟨3, (some 13), .load none (.t 12), 0, none⟩, ⟨7, (some 17), .load none (.t 16), 0, none⟩, ⟨8, (some 18), .call 164 [.t 13, .t 17], 2, none⟩] [1, 2, 3, 18])
    (.cond (.t 18)
     (.seq
      (.reg false [⟨0, (some 19), .mv (.t 3), 0, none⟩, ⟨1, (some 20), .nilc (.t 19), 0, none⟩, ⟨2, (some 21), .load none (.t 20), 0, none⟩, ⟨3, (some 22), .bin .add (.t 21) (.c (.int .i64 (1))), 0, none⟩, ⟨4, (some 23), .nilc (.t 19), 0, none⟩, ⟨5, none, .store 1 (.t 23) (.t 22), 0, none⟩] [1, 2])
      (.seq
       (.reg false [⟨0, (some 24), .mv (.t 2), 0, none⟩, ⟨1, (some 25), .mv (.t 1), 0, none⟩, ⟨2, (some 8), .mv (.t 24), 0, none⟩, ⟨3, (some 9), .mv (.t 25), 0, none⟩] [8, 9])
       (.ret)))
     (.skip)))
   (.seq
    (.reg false [⟨0, (some 26), .mv (.t 1), 0, none⟩, ⟨1, (some 27), .mv (.t 2), 0, none⟩, ⟨2, (some 8), .mv (.t 26), 0, none⟩, ⟨3, (some 9), .mv (.t 27), 0, none⟩] [8, 9])
    (.ret)))

theorem ok175 : okF Tryz.prog 175 4 c175 [.tmp 8, .tmp 9] = true := by kernel_rfl

/-- (dauber/field.modular).difference -/
def c193 : C :=
 .seq
  (.reg false [⟨0, (some 3), .box 1 (.t 0), 0, none⟩, ⟨1, (some 6), .mv (.c (.int .i64 (0))), 0, none⟩] [1, 2, 3])
  (.seq
   (.reg false [⟨0, (some 7), .mv (.t 1), 0, none⟩, ⟨1, (some 8), .mv (.t 2), 0, none⟩, ⟨2, (some 9), .bin .sub (.t 7) (.t 8), 0, none⟩, ⟨3, (some 10), .faddr 0 (.t 3), 0, none⟩, ⟨4, (some 11), .load none (.t 10), 0, none⟩, ⟨5, (some 12), .bin .add (.t 9) (.t 11), 0, none⟩, ⟨6, (some 13), .faddr 0 (.t 3), 0, none⟩, ⟨7, (some 14), .load none (.t 13), 0, none⟩, ⟨8, (some 15), .bin .rem (.t 12) (.t 14), 0, none⟩, ⟨9, (some 6), .mv (.t 15), 0, none⟩] [6])
   (.ret))

theorem ok193 : okF Tryz.prog 193 3 c193 [.tmp 6] = true := by kernel_rfl

/-- (dauber/field.modular).inverse -/
def c194 : C :=
 .seq
  (.reg false [⟨0, (some 2), .box 1 (.t 0), 0, none⟩, ⟨1, (some 4), .mv (.c (.int .i64 (0))), 0, none⟩] [1, 2])
  (.seq
   (.reg false [⟨0, (some 5), .load (some 1) (.t 2), 0, none⟩, ⟨1, (some 6), .mkif 122 (.t 5), 0, none⟩, ⟨2, (some 7), .mv (.t 1), 0, none⟩, ⟨3, (some 8), .faddr 0 (.t 2), 0, none⟩, ⟨4, (some 9), .load none (.t 8), 0, none⟩, ⟨5, (some 10), .bin .sub (.t 9) (.c (.int .i64 (2))), 0, none⟩, ⟨6, (some 11), .call 104 [.t 6, .t 7, .t 10], 2, none⟩, ⟨7, (some 4), .mv (.t 11), 0, none⟩] [4])
   (.ret))

theorem ok194 : okF Tryz.prog 194 2 c194 [.tmp 4] = true := by kernel_rfl

end Go.Dp
