import Derived.Test.YtkadcajmlkmhjabGreatProg
import Derived.Test.YtkadcajmlkmhjabGreatDpRunS
namespace Go.Dp
open Go.RowKit Go.Proofs
set_option maxRecDepth 100000
/-- gosem.cut.init -/
def c2 : C :=
 .reg false [⟨0, (some 0), .call 1 [], 2, none⟩] []

theorem ok2 : okF Tryz.prog 2 0 c2 [] = true := by kernel_rfl

/-- dauber/dauberlaw08.ShareRecovers -/
def c3 : C :=
 .seq
  (.reg false [⟨0, (some 6), .mv (.c (.bool false)), 0, none⟩] [0, 1, 2])
  (.seq
   (.reg false [⟨0, (some 18), .mv (.t 0), 0, none⟩, ⟨1, (some 19), .call 9 [.t 18], 2, none⟩, ⟨2, (some 17), .mv (.t 19), 0, none⟩, ⟨3, (some 20), .ext 0 (.t 17), 0, none⟩, ⟨4, (some 21), .ext 1 (.t 17), 0, none⟩, ⟨5, (some 7), .alloc [.int .i64 (0), .int .i64 (0), .int .i64 (0)] 3, 0, none⟩, ⟨6, (some 8), .alloc [.int .i64 (0), .int .i64 (0), .int .i64 (0)] 3, 0, none⟩, ⟨7, none, .store 3 (.t 7) (.t 20), 0, none⟩, ⟨8, none, .store 3 (.t 8) (.t 21), 0, none⟩] [1, 2, 7, 8])
   (.seq
    (.reg false [⟨0, (some 22), .mv (.t 1), 0, none⟩, ⟨1, (some 23), .call 10 [.t 22, .c (.int .i64 (66))], 2, none⟩, ⟨2, (some 24), .mv (.t 2), 0, none⟩, ⟨3, (some 25), .call 10 [.t 24, .c (.int .i64 (66))], 2, none⟩, ⟨4, (some 9), .mv (.t 23), 0, none⟩, ⟨5, (some 10), .mv (.t 25), 0, none⟩] [1, 2, 7, 8, 9, 10])
    (.seq
     (.seq
      (.reg false [⟨0, (some 11), .mv (.c (.int .i64 (0))), 0, none⟩] [1, 2, 7, 8, 9, 10, 11])
      (.blk 0
       (.loop [1, 2, 7, 8, 9, 10, 11]
        (.seq
         (.seq
          (.reg false [⟨0, (some 26), .mv (.t 11), 0, none⟩, ⟨1, (some 27), .bin .lss (.t 26) (.c (.int .i64 (2))), 0, none⟩] [1, 2, 7, 8, 9, 10, 11, 27])
          (.cond (.t 27)
           (.skip)
           (.exit 0)))
         (.seq
          (.blk 1
           (.seq
            (.reg false [⟨0, (some 31), .load (some 3) (.t 7), 0, none⟩, ⟨1, (some 32), .mv (.t 9), 0, none⟩, ⟨2, (some 33), .mv (.t 10), 0, none⟩, ⟨3, (some 34), .call 11 [.t 31, .t 32, .t 33], 2, none⟩, ⟨4, (some 30), .mv (.t 34), 0, none⟩, ⟨5, (some 35), .ext 0 (.t 30), 0, none⟩, ⟨6, (some 36), .ext 1 (.t 30), 0, none⟩, ⟨7, (some 12), .mv (.t 35), 0, none⟩, ⟨8, (some 13), .mv (.t 36), 0, none⟩] [1, 2, 7, 8, 9, 10, 11, 12, 13])
            (.seq
             (.reg false [⟨0, (some 38), .load (some 3) (.t 7), 0, none⟩, ⟨1, (some 39), .mv (.t 9), 0, none⟩, ⟨2, (some 40), .mv (.t 10), 0, none⟩, ⟨3, (some 41), .call 12 [.t 38, .t 39, .t 40], 2, none⟩, ⟨4, (some 37), .mv (.t 41), 0, none⟩, ⟨5, (some 42), .ext 0 (.t 37), 0, none⟩, ⟨6, (some 43), .ext 1 (.t 37), 0, none⟩, ⟨7, (some 14), .mv (.t 42), 0, none⟩, ⟨8, (some 15), .mv (.t 43), 0, none⟩] [1, 2, 7, 8, 9, 10, 11, 12, 13, 14, 15])
             (.seq
              (.reg false [⟨0, (some 44), .load (some 3) (.t 8), 0, none⟩, ⟨1, (some 45), .mv (.t 9), 0, none⟩, ⟨2, (some 46), .mv (.t 10), 0, none⟩, ⟨3, (some 47), .call 13 [.t 44, .t 45, .t 46], 2, none⟩, ⟨4, (some 16), .mv (.t 47), 0, none⟩] [1, 2, 7, 8, 9, 10, 11, 12, 13, 14, 15, 16])
              (.seq
               (.seq
                (.reg false [⟨0, (some 48), .mv (.t 13), 0, none⟩, ⟨1, (some 49), .mv (.t 16), 0, none⟩, ⟨2, (some 50), .bin .neq (.t 48) (.t 49), 0, none⟩, ⟨3, (some 51), .mv (.t 50), 0, none⟩, ⟨4, (some 52), .mv (.t 16), 0, (some (51, false))⟩, ⟨5, (some 53), .bin .neq (.t 52) (.c (.int .i64 (0))), 0, (some (51, false))⟩, ⟨6, (some 54), .mv (.t 53), 0, (some (51, false))⟩, ⟨7, (some 55), .mv (.t 12), 0, (some (54, true))⟩, ⟨8, (some 56), .bin .neq (.t 55) (.c (.int .i64 (0))), 0, (some (54, true))⟩, ⟨9, (some 57), .pick (.t 54) (.t 56) (.c (.bool false)), 0, (some (51, false))⟩, ⟨10, (some 58), .pick (.t 51) (.c (.bool true)) (.t 57), 0, none⟩] [1, 2, 7, 8, 9, 10, 11, 12, 14, 15, 16, 58])
                (.cond (.t 58)
                 (.seq
                  (.reg false [⟨0, (some 6), .mv (.c (.bool false)), 0, none⟩] [6])
                  (.ret))
                 (.skip)))
               (.seq
                (.seq
                 (.reg false [⟨0, (some 59), .mv (.t 16), 0, none⟩, ⟨1, (some 60), .bin .eql (.t 59) (.c (.int .i64 (0))), 0, none⟩, ⟨2, (some 61), .mv (.t 60), 0, none⟩, ⟨3, (some 62), .mv (.t 12), 0, (some (61, true))⟩, ⟨4, (some 63), .load (some 3) (.t 8), 0, (some (61, true))⟩, ⟨5, (some 64), .mv (.t 9), 0, (some (61, true))⟩, ⟨6, (some 65), .mv (.t 10), 0, (some (61, true))⟩, ⟨7, (some 66), .call 14 [.t 63, .t 64, .t 65], 2, (some (61, true))⟩, ⟨8, (some 67), .iaddr none 1 (.t 66) (.c (.int .i64 (0))), 0, (some (61, true))⟩, ⟨9, (some 68), .load none (.t 67), 0, (some (61, true))⟩, ⟨10, (some 69), .bin .neq (.t 62) (.t 68), 0, (some (61, true))⟩, ⟨11, (some 70), .pick (.t 61) (.t 69) (.c (.bool false)), 0, none⟩] [1, 2, 7, 8, 9, 10, 11, 14, 15, 16, 70])
                 (.cond (.t 70)
                  (.seq
                   (.reg false [⟨0, (some 6), .mv (.c (.bool false)), 0, none⟩] [6])
                   (.ret))
                  (.skip)))
                (.seq
                 (.seq
                  (.reg false [⟨0, (some 71), .mv (.t 16), 0, none⟩, ⟨1, (some 72), .bin .eql (.t 71) (.c (.int .i64 (0))), 0, none⟩, ⟨2, (some 73), .mv (.t 72), 0, none⟩, ⟨3, (some 74), .mv (.t 9), 0, (some (73, true))⟩, ⟨4, (some 75), .len none (.t 74), 0, (some (73, true))⟩, ⟨5, (some 76), .bin .gtr (.t 75) (.c (.int .i64 (16))), 0, (some (73, true))⟩, ⟨6, (some 77), .pick (.t 73) (.t 76) (.c (.bool false)), 0, none⟩] [1, 2, 7, 8, 9, 10, 11, 14, 15, 16, 77])
                  (.cond (.t 77)
                   (.reg false [⟨0, (some 16), .mv (.c (.int .i64 (2))), 0, none⟩] [1, 2, 7, 8, 9, 10, 11, 14, 15, 16])
                   (.skip)))
                 (.seq
                  (.seq
                   (.reg false [⟨0, (some 78), .mv (.t 15), 0, none⟩, ⟨1, (some 79), .mv (.t 16), 0, none⟩, ⟨2, (some 80), .bin .neq (.t 78) (.t 79), 0, none⟩, ⟨3, (some 81), .mv (.t 80), 0, none⟩, ⟨4, (some 82), .mv (.t 16), 0, (some (81, false))⟩, ⟨5, (some 83), .bin .neq (.t 82) (.c (.int .i64 (0))), 0, (some (81, false))⟩, ⟨6, (some 84), .mv (.t 83), 0, (some (81, false))⟩, ⟨7, (some 85), .mv (.t 14), 0, (some (84, true))⟩, ⟨8, (some 86), .len none (.t 85), 0, (some (84, true))⟩, ⟨9, (some 87), .bin .neq (.t 86) (.c (.int .i64 (0))), 0, (some (84, true))⟩, ⟨10, (some 88), .pick (.t 84) (.t 87) (.c (.bool false)), 0, (some (81, false))⟩, ⟨11, (some 89), .pick (.t 81) (.c (.bool true)) (.t 88), 0, none⟩, ⟨12, (some 90), .mv (.t 89), 0, none⟩, ⟨13, (some 91), .mv (.t 16), 0, (some (90, false))⟩, ⟨14, (some 92), .bin .eql (.t 91) (.c (.int .i64 (0))), 0, (some (90, false))⟩, ⟨15, (some 93), .mv (.t 92), 0, (some (90, false))⟩, ⟨16, (some 94), .mv (.t 14), 0, (some (93, true))⟩, ⟨17, (some 95), .load (some 3) (.t 8), 0, (some (93, true))⟩, ⟨18, (some 96), .mv (.t 9), 0, (some (93, true))⟩, ⟨19, (some 97), .mv (.t 10), 0, (some (93, true))⟩, ⟨20, (some 98), .call 14 [.t 95, .t 96, .t 97], 2, (some (93, true))⟩, ⟨21, (some 99), .call 15 [.t 94, .t 98], 2, (some (93, true))⟩, ⟨22, (some 100), .un .not (.t 99), 0, (some (93, true))⟩, ⟨23, (some 101), .pick (.t 93) (.t 100) (.c (.bool false)), 0, (some (90, false))⟩, ⟨24, (some 102), .pick (.t 90) (.c (.bool true)) (.t 101), 0, none⟩] [1, 2, 7, 8, 11, 102])
                   (.cond (.t 102)
                    (.seq
                     (.reg false [⟨0, (some 6), .mv (.c (.bool false)), 0, none⟩] [6])
                     (.ret))
                    (.skip)))
                  (.seq
                   (.reg false [⟨0, (some 103), .load (some 3) (.t 8), 0, none⟩, ⟨1, (some 104), .mv (.t 1), 0, none⟩, ⟨2, (some 105), .call 16 [.t 103, .t 104, .c (.int .i64 (20))], 2, none⟩, ⟨3, (some 9), .mv (.t 105), 0, none⟩] [1, 2, 7, 8, 9, 11])
                   (.reg false [⟨0, (some 106), .load (some 3) (.t 8), 0, none⟩, ⟨1, (some 107), .mv (.t 2), 0, none⟩, ⟨2, (some 108), .mv (.t 9), 0, none⟩, ⟨3, (some 109), .len none (.t 108), 0, none⟩, ⟨4, (some 110), .call 17 [.t 106, .t 107, .t 109], 2, none⟩, ⟨5, (some 10), .mv (.t 110), 0, none⟩] [1, 2, 7, 8, 9, 10, 11]))))))))))
          (.reg false [⟨0, (some 28), .mv (.t 11), 0, none⟩, ⟨1, (some 29), .bin .add (.t 28) (.c (.int .i64 (1))), 0, none⟩, ⟨2, (some 11), .mv (.t 29), 0, none⟩] [1, 2, 7, 8, 9, 10, 11]))))))
     (.seq
      (.reg false [⟨0, (some 111), .call 18 [], 2, none⟩, ⟨1, (some 6), .mv (.t 111), 0, none⟩] [6])
      (.ret)))))

theorem ok3 : okF Tryz.prog 3 3 c3 [.tmp 6] = true := by kernel_rfl

/-- dauber/dauberlaw08.ShareDeals -/
def c4 : C :=
 .seq
  (.reg false [⟨0, (some 4), .box 2 (.t 1), 0, none⟩, ⟨1, (some 5), .box 3 (.t 2), 0, none⟩, ⟨2, (some 6), .mv (.c (.bool false)), 0, none⟩] [0, 4, 5])
  (.seq
   (.reg false [⟨0, (some 31), .mv (.t 0), 0, none⟩, ⟨1, (some 32), .call 9 [.t 31], 2, none⟩, ⟨2, (some 30), .mv (.t 32), 0, none⟩, ⟨3, (some 33), .ext 0 (.t 30), 0, none⟩, ⟨4, (some 34), .ext 1 (.t 30), 0, none⟩, ⟨5, (some 7), .alloc [.int .i64 (0), .int .i64 (0), .int .i64 (0)] 3, 0, none⟩, ⟨6, (some 8), .alloc [.int .i64 (0), .int .i64 (0), .int .i64 (0)] 3, 0, none⟩, ⟨7, none, .store 3 (.t 7) (.t 33), 0, none⟩, ⟨8, none, .store 3 (.t 8) (.t 34), 0, none⟩] [4, 5, 7, 8])
   (.seq
    (.reg true [⟨0, (some 35), .iaddr (some 2) 1 (.t 4) (.c (.int .i64 (0))), 0, none⟩, ⟨3, (some 38), .iaddr (some 2) 1 (.t 4) (.c (.int .i64 (1))), 0, none⟩, ⟨1, (some 36), .load none (.t 35), 0, none⟩, ⟨4, (some 39), .load none (.t 38), 0, none⟩, ⟨2, (some 37), .call 10 [.t 36, .c (.int .i64 (18))], 1, none⟩, ⟨5, (some 40), .call 10 [.t 39, .c (.int .i64 (18))], 1, none⟩, ⟨6, (some 9), .mv (.t 37), 0, none⟩, ⟨7, (some 10), .mv (.t 40), 0, none⟩] [4, 5, 7, 8, 9, 10])
    (.seq
     (.reg false [⟨0, (some 41), .iaddr (some 3) 1 (.t 5) (.c (.int .i64 (0))), 0, none⟩, ⟨1, (some 42), .load none (.t 41), 0, none⟩, ⟨2, (some 43), .bin .rem (.t 42) (.c (.int .i64 (100))), 0, none⟩, ⟨3, (some 11), .mv (.t 43), 0, none⟩] [4, 5, 7, 8, 9, 10, 11])
     (.seq
      (.seq
       (.reg false [⟨0, (some 12), .mv (.c (.int .i64 (0))), 0, none⟩] [4, 5, 7, 8, 9, 10, 11, 12])
       (.blk 0
        (.loop [4, 5, 7, 8, 9, 10, 11, 12]
         (.seq
          (.seq
           (.reg false [⟨0, (some 44), .mv (.t 12), 0, none⟩, ⟨1, (some 45), .bin .lss (.t 44) (.c (.int .i64 (2))), 0, none⟩] [4, 5, 7, 8, 9, 10, 11, 12, 45])
           (.cond (.t 45)
            (.skip)
            (.exit 0)))
          (.seq
           (.blk 1
            (.seq
             (.reg false [⟨0, (some 49), .load (some 3) (.t 7), 0, none⟩, ⟨1, (some 50), .mv (.t 9), 0, none⟩, ⟨2, (some 51), .mv (.t 11), 0, none⟩, ⟨3, (some 52), .call 19 [.t 49, .t 50, .t 51], 2, none⟩, ⟨4, (some 48), .mv (.t 52), 0, none⟩, ⟨5, (some 53), .ext 0 (.t 48), 0, none⟩, ⟨6, (some 54), .ext 1 (.t 48), 0, none⟩, ⟨7, (some 13), .mv (.t 53), 0, none⟩, ⟨8, (some 14), .mv (.t 54), 0, none⟩] [4, 5, 7, 8, 9, 10, 11, 12, 13, 14])
             (.seq
              (.reg false [⟨0, (some 56), .load (some 3) (.t 7), 0, none⟩, ⟨1, (some 57), .mv (.t 9), 0, none⟩, ⟨2, (some 58), .call 20 [.t 56, .t 57], 2, none⟩, ⟨3, (some 55), .mv (.t 58), 0, none⟩, ⟨4, (some 59), .ext 0 (.t 55), 0, none⟩, ⟨5, (some 60), .ext 1 (.t 55), 0, none⟩, ⟨6, (some 15), .mv (.t 59), 0, none⟩, ⟨7, (some 16), .mv (.t 60), 0, none⟩] [4, 5, 7, 8, 9, 10, 11, 12, 13, 14, 15, 16])
              (.seq
               (.reg false [⟨0, (some 62), .load (some 3) (.t 7), 0, none⟩, ⟨1, (some 63), .mv (.t 9), 0, none⟩, ⟨2, (some 64), .mv (.t 10), 0, none⟩, ⟨3, (some 65), .call 21 [.t 62, .t 63, .t 64], 2, none⟩, ⟨4, (some 61), .mv (.t 65), 0, none⟩, ⟨5, (some 66), .ext 0 (.t 61), 0, none⟩, ⟨6, (some 67), .ext 1 (.t 61), 0, none⟩, ⟨7, (some 17), .mv (.t 66), 0, none⟩, ⟨8, (some 18), .mv (.t 67), 0, none⟩] [4, 5, 7, 8, 9, 10, 11, 12, 13, 14, 15, 16, 17, 18])
               (.seq
                (.reg true [⟨1, (some 69), .mv (.t 9), 0, none⟩, ⟨4, (some 72), .mv (.t 10), 0, none⟩, ⟨0, (some 68), .load (some 3) (.t 8), 0, none⟩, ⟨3, (some 71), .load (some 3) (.t 8), 0, none⟩, ⟨2, (some 70), .call 22 [.t 68, .t 69], 1, none⟩, ⟨5, (some 73), .call 22 [.t 71, .t 72], 1, none⟩, ⟨6, (some 19), .mv (.t 70), 0, none⟩, ⟨7, (some 20), .mv (.t 73), 0, none⟩] [4, 5, 7, 8, 9, 10, 11, 12, 13, 14, 15, 16, 17, 18, 19, 20])
                (.seq
                 (.reg false [⟨0, (some 74), .mv (.t 19), 0, none⟩, ⟨1, (some 21), .mv (.t 74), 0, none⟩] [4, 5, 7, 8, 9, 10, 11, 12, 13, 14, 15, 16, 17, 18, 19, 20, 21])
                 (.seq
                  (.seq
                   (.reg false [⟨0, (some 75), .mv (.t 21), 0, none⟩, ⟨1, (some 76), .bin .eql (.t 75) (.c (.int .i64 (0))), 0, none⟩, ⟨2, (some 77), .mv (.t 76), 0, none⟩, ⟨3, (some 78), .mv (.t 11), 0, (some (77, true))⟩, ⟨4, (some 79), .bin .lss (.t 78) (.c (.int .i64 (1))), 0, (some (77, true))⟩, ⟨5, (some 80), .mv (.t 79), 0, (some (77, true))⟩, ⟨6, (some 81), .mv (.t 11), 0, (some (80, false))⟩, ⟨7, (some 82), .bin .gtr (.t 81) (.c (.int .i64 (64))), 0, (some (80, false))⟩, ⟨8, (some 83), .pick (.t 80) (.c (.bool true)) (.t 82), 0, (some (77, true))⟩, ⟨9, (some 84), .mv (.t 83), 0, (some (77, true))⟩, ⟨10, (some 85), .mv (.t 11), 0, (some (84, false))⟩, ⟨11, (some 86), .faddr 1 (.t 8), 0, (some (84, false))⟩, ⟨12, (some 87), .load none (.t 86), 0, (some (84, false))⟩, ⟨13, (some 88), .bin .geq (.t 85) (.t 87), 0, (some (84, false))⟩, ⟨14, (some 89), .pick (.t 84) (.c (.bool true)) (.t 88), 0, (some (77, true))⟩, ⟨15, (some 90), .pick (.t 77) (.t 89) (.c (.bool false)), 0, none⟩] [4, 5, 7, 8, 9, 10, 11, 12, 13, 14, 15, 16, 17, 18, 19, 20, 21, 90])
                   (.cond (.t 90)
                    (.reg false [⟨0, (some 21), .mv (.c (.int .i64 (1))), 0, none⟩] [4, 5, 7, 8, 9, 10, 11, 12, 13, 14, 15, 16, 17, 18, 19, 20, 21])
                    (.skip)))
                  (.seq
                   (.seq
                    (.reg false [⟨0, (some 91), .mv (.t 14), 0, none⟩, ⟨1, (some 92), .mv (.t 21), 0, none⟩, ⟨2, (some 93), .bin .neq (.t 91) (.t 92), 0, none⟩, ⟨3, (some 94), .mv (.t 93), 0, none⟩, ⟨4, (some 95), .mv (.t 16), 0, (some (94, false))⟩, ⟨5, (some 96), .mv (.t 19), 0, (some (94, false))⟩, ⟨6, (some 97), .bin .neq (.t 95) (.t 96), 0, (some (94, false))⟩, ⟨7, (some 98), .pick (.t 94) (.c (.bool true)) (.t 97), 0, none⟩, ⟨8, (some 99), .mv (.t 98), 0, none⟩, ⟨9, (some 100), .mv (.t 21), 0, (some (99, false))⟩, ⟨10, (some 101), .bin .neq (.t 100) (.c (.int .i64 (0))), 0, (some (99, false))⟩, ⟨11, (some 102), .mv (.t 101), 0, (some (99, false))⟩, ⟨12, (some 103), .mv (.t 13), 0, (some (102, true))⟩, ⟨13, (some 104), .len none (.t 103), 0, (some (102, true))⟩, ⟨14, (some 105), .bin .neq (.t 104) (.c (.int .i64 (0))), 0, (some (102, true))⟩, ⟨15, (some 106), .pick (.t 102) (.t 105) (.c (.bool false)), 0, (some (99, false))⟩, ⟨16, (some 107), .pick (.t 99) (.c (.bool true)) (.t 106), 0, none⟩, ⟨17, (some 108), .mv (.t 107), 0, none⟩, ⟨18, (some 109), .mv (.t 19), 0, (some (108, false))⟩, ⟨19, (some 110), .bin .neq (.t 109) (.c (.int .i64 (0))), 0, (some (108, false))⟩, ⟨20, (some 111), .mv (.t 110), 0, (some (108, false))⟩, ⟨21, (some 112), .mv (.t 15), 0, (some (111, true))⟩, ⟨22, (some 113), .len none (.t 112), 0, (some (111, true))⟩, ⟨23, (some 114), .bin .neq (.t 113) (.c (.int .i64 (0))), 0, (some (111, true))⟩, ⟨24, (some 115), .pick (.t 111) (.t 114) (.c (.bool false)), 0, (some (108, false))⟩, ⟨25, (some 116), .pick (.t 108) (.c (.bool true)) (.t 115), 0, none⟩] [4, 5, 7, 8, 9, 10, 11, 12, 13, 15, 17, 18, 19, 20, 21, 116])
                    (.cond (.t 116)
                     (.seq
                      (.reg false [⟨0, (some 6), .mv (.c (.bool false)), 0, none⟩] [6])
                      (.ret))
                     (.skip)))
                   (.seq
                    (.seq
                     (.reg false [⟨0, (some 117), .mv (.t 21), 0, none⟩, ⟨1, (some 118), .bin .eql (.t 117) (.c (.int .i64 (0))), 0, none⟩] [4, 5, 7, 8, 9, 10, 11, 12, 13, 15, 17, 18, 19, 20, 118])
                     (.cond (.t 118)
                      (.seq
                       (.seq
                        (.reg false [⟨0, (some 119), .mv (.t 13), 0, none⟩, ⟨1, (some 120), .len none (.t 119), 0, none⟩, ⟨2, (some 121), .mv (.t 11), 0, none⟩, ⟨3, (some 122), .bin .neq (.t 120) (.t 121), 0, none⟩] [4, 5, 7, 8, 9, 10, 11, 12, 13, 15, 17, 18, 19, 20, 122])
                        (.cond (.t 122)
                         (.seq
                          (.reg false [⟨0, (some 6), .mv (.c (.bool false)), 0, none⟩] [6])
                          (.ret))
                         (.skip)))
                       (.seq
                        (.reg false [⟨0, (some 22), .mv (.c (.int .i64 (0))), 0, none⟩] [4, 5, 7, 8, 9, 10, 11, 12, 13, 15, 17, 18, 19, 20, 22])
                        (.blk 2
                         (.loop [4, 5, 7, 8, 9, 10, 11, 12, 13, 15, 17, 18, 19, 20, 22]
                          (.seq
                           (.seq
                            (.reg false [⟨0, (some 123), .mv (.t 22), 0, none⟩, ⟨1, (some 124), .mv (.t 11), 0, none⟩, ⟨2, (some 125), .bin .lss (.t 123) (.t 124), 0, none⟩] [4, 5, 7, 8, 9, 10, 11, 12, 13, 15, 17, 18, 19, 20, 22, 125])
                            (.cond (.t 125)
                             (.skip)
                             (.exit 2)))
                           (.seq
                            (.blk 3
                             (.seq
                              (.reg true [⟨0, (some 128), .mv (.t 13), 0, none⟩, ⟨1, (some 129), .mv (.t 22), 0, none⟩, ⟨2, (some 130), .iaddr none 1 (.t 128) (.t 129), 0, none⟩, ⟨5, (some 133), .mv (.t 9), 0, none⟩, ⟨6, (some 134), .mv (.t 22), 0, none⟩, ⟨7, (some 135), .bin .add (.t 134) (.c (.int .i64 (1))), 0, none⟩, ⟨3, (some 131), .load none (.t 130), 0, none⟩, ⟨4, (some 132), .load (some 3) (.t 8), 0, none⟩, ⟨8, (some 136), .call 23 [.t 132, .t 133, .t 135], 1, none⟩, ⟨9, (some 137), .bin .neq (.t 131) (.t 136), 0, none⟩] [4, 5, 7, 8, 9, 10, 11, 12, 13, 15, 17, 18, 19, 20, 22, 137])
                              (.cond (.t 137)
                               (.seq
                                (.reg false [⟨0, (some 6), .mv (.c (.bool false)), 0, none⟩] [6])
                                (.ret))
                               (.skip))))
                            (.reg false [⟨0, (some 126), .mv (.t 22), 0, none⟩, ⟨1, (some 127), .bin .add (.t 126) (.c (.int .i64 (1))), 0, none⟩, ⟨2, (some 22), .mv (.t 127), 0, none⟩] [4, 5, 7, 8, 9, 10, 11, 12, 13, 15, 17, 18, 19, 20, 22])))))))
                      (.skip)))
                    (.seq
                     (.reg false [⟨0, (some 138), .mv (.t 19), 0, none⟩, ⟨1, (some 23), .mv (.t 138), 0, none⟩] [4, 5, 7, 8, 9, 10, 12, 15, 17, 18, 19, 20, 23])
                     (.seq
                      (.seq
                       (.reg false [⟨0, (some 139), .mv (.t 23), 0, none⟩, ⟨1, (some 140), .bin .eql (.t 139) (.c (.int .i64 (0))), 0, none⟩] [4, 5, 7, 8, 9, 10, 12, 15, 17, 18, 19, 20, 23, 140])
                       (.cond (.t 140)
                        (.reg false [⟨0, (some 141), .mv (.t 20), 0, none⟩, ⟨1, (some 23), .mv (.t 141), 0, none⟩] [4, 5, 7, 8, 9, 10, 12, 15, 17, 18, 19, 23])
                        (.skip)))
                      (.seq
                       (.seq
                        (.reg false [⟨0, (some 142), .mv (.t 23), 0, none⟩, ⟨1, (some 143), .bin .eql (.t 142) (.c (.int .i64 (0))), 0, none⟩, ⟨2, (some 144), .mv (.t 143), 0, none⟩, ⟨3, (some 145), .mv (.t 9), 0, (some (144, true))⟩, ⟨4, (some 146), .len none (.t 145), 0, (some (144, true))⟩, ⟨5, (some 147), .mv (.t 10), 0, (some (144, true))⟩, ⟨6, (some 148), .len none (.t 147), 0, (some (144, true))⟩, ⟨7, (some 149), .bin .neq (.t 146) (.t 148), 0, (some (144, true))⟩, ⟨8, (some 150), .pick (.t 144) (.t 149) (.c (.bool false)), 0, none⟩] [4, 5, 7, 8, 9, 10, 12, 15, 17, 18, 19, 23, 150])
                        (.cond (.t 150)
                         (.reg false [⟨0, (some 23), .mv (.c (.int .i64 (7))), 0, none⟩] [4, 5, 7, 8, 9, 10, 12, 15, 17, 18, 19, 23])
                         (.skip)))
                       (.seq
                        (.seq
                         (.reg false [⟨0, (some 151), .mv (.t 18), 0, none⟩, ⟨1, (some 152), .mv (.t 23), 0, none⟩, ⟨2, (some 153), .bin .neq (.t 151) (.t 152), 0, none⟩, ⟨3, (some 154), .mv (.t 153), 0, none⟩, ⟨4, (some 155), .mv (.t 23), 0, (some (154, false))⟩, ⟨5, (some 156), .bin .neq (.t 155) (.c (.int .i64 (0))), 0, (some (154, false))⟩, ⟨6, (some 157), .mv (.t 156), 0, (some (154, false))⟩, ⟨7, (some 158), .mv (.t 17), 0, (some (157, true))⟩, ⟨8, (some 159), .len none (.t 158), 0, (some (157, true))⟩, ⟨9, (some 160), .bin .neq (.t 159) (.c (.int .i64 (0))), 0, (some (157, true))⟩, ⟨10, (some 161), .pick (.t 157) (.t 160) (.c (.bool false)), 0, (some (154, false))⟩, ⟨11, (some 162), .pick (.t 154) (.c (.bool true)) (.t 161), 0, none⟩] [4, 5, 7, 8, 9, 10, 12, 15, 17, 19, 162])
                         (.cond (.t 162)
                          (.seq
                           (.reg false [⟨0, (some 6), .mv (.c (.bool false)), 0, none⟩] [6])
                           (.ret))
                          (.skip)))
                        (.seq
                         (.seq
                          (.reg false [⟨0, (some 24), .mv (.c (.int .i64 (0))), 0, none⟩] [4, 5, 7, 8, 9, 10, 12, 15, 17, 19, 24])
                          (.blk 4
                           (.loop [4, 5, 7, 8, 9, 10, 12, 15, 17, 19, 24]
                            (.seq
                             (.seq
                              (.reg false [⟨0, (some 163), .mv (.t 24), 0, none⟩, ⟨1, (some 164), .mv (.t 17), 0, none⟩, ⟨2, (some 165), .len none (.t 164), 0, none⟩, ⟨3, (some 166), .bin .lss (.t 163) (.t 165), 0, none⟩] [4, 5, 7, 8, 9, 10, 12, 15, 17, 19, 24, 166])
                              (.cond (.t 166)
                               (.skip)
                               (.exit 4)))
                             (.seq
                              (.blk 5
                               (.seq
                                (.reg true [⟨0, (some 169), .mv (.t 17), 0, none⟩, ⟨1, (some 170), .len none (.t 169), 0, none⟩, ⟨2, (some 171), .mv (.t 9), 0, none⟩, ⟨3, (some 172), .len none (.t 171), 0, none⟩, ⟨4, (some 173), .bin .neq (.t 170) (.t 172), 0, none⟩, ⟨5, (some 174), .mv (.t 173), 0, none⟩, ⟨6, (some 175), .mv (.t 17), 0, (some (174, false))⟩, ⟨7, (some 176), .mv (.t 24), 0, (some (174, false))⟩, ⟨8, (some 177), .iaddr none 1 (.t 175) (.t 176), 0, (some (174, false))⟩, ⟨10, (some 179), .mv (.t 9), 0, (some (174, false))⟩, ⟨11, (some 180), .mv (.t 24), 0, (some (174, false))⟩, ⟨12, (some 181), .iaddr none 1 (.t 179) (.t 180), 0, (some (174, false))⟩, ⟨14, (some 183), .mv (.t 10), 0, (some (174, false))⟩, ⟨15, (some 184), .mv (.t 24), 0, (some (174, false))⟩, ⟨16, (some 185), .iaddr none 1 (.t 183) (.t 184), 0, (some (174, false))⟩, ⟨19, (some 188), .faddr 1 (.t 8), 0, (some (174, false))⟩, ⟨9, (some 178), .load none (.t 177), 0, (some (174, false))⟩, ⟨13, (some 182), .load none (.t 181), 0, (some (174, false))⟩, ⟨17, (some 186), .load none (.t 185), 0, (some (174, false))⟩, ⟨18, (some 187), .bin .add (.t 182) (.t 186), 0, (some (174, false))⟩, ⟨20, (some 189), .load none (.t 188), 0, (some (174, false))⟩, ⟨21, (some 190), .bin .rem (.t 187) (.t 189), 0, (some (174, false))⟩, ⟨22, (some 191), .bin .neq (.t 178) (.t 190), 0, (some (174, false))⟩, ⟨23, (some 192), .pick (.t 174) (.c (.bool true)) (.t 191), 0, none⟩] [4, 5, 7, 8, 9, 10, 12, 15, 17, 19, 24, 192])
                                (.cond (.t 192)
                                 (.seq
                                  (.reg false [⟨0, (some 6), .mv (.c (.bool false)), 0, none⟩] [6])
                                  (.ret))
                                 (.skip))))
                              (.reg false [⟨0, (some 167), .mv (.t 24), 0, none⟩, ⟨1, (some 168), .bin .add (.t 167) (.c (.int .i64 (1))), 0, none⟩, ⟨2, (some 24), .mv (.t 168), 0, none⟩] [4, 5, 7, 8, 9, 10, 12, 15, 17, 19, 24]))))))
                         (.seq
                          (.reg false [⟨0, (some 193), .mv (.t 15), 0, none⟩, ⟨1, (some 25), .mv (.t 193), 0, none⟩] [4, 5, 7, 8, 9, 10, 12, 15, 19, 25])
                          (.seq
                           (.seq
                            (.reg false [⟨0, (some 194), .mv (.t 19), 0, none⟩, ⟨1, (some 195), .bin .eql (.t 194) (.c (.int .i64 (0))), 0, none⟩, ⟨2, (some 196), .mv (.t 195), 0, none⟩, ⟨3, (some 197), .mv (.t 15), 0, (some (196, true))⟩, ⟨4, (some 198), .load (some 3) (.t 8), 0, (some (196, true))⟩, ⟨5, (some 199), .mv (.t 9), 0, (some (196, true))⟩, ⟨6, (some 200), .call 24 [.t 198, .t 199], 2, (some (196, true))⟩, ⟨7, (some 201), .call 15 [.t 197, .t 200], 2, (some (196, true))⟩, ⟨8, (some 202), .un .not (.t 201), 0, (some (196, true))⟩, ⟨9, (some 203), .pick (.t 196) (.t 202) (.c (.bool false)), 0, none⟩, ⟨10, (some 204), .mv (.t 203), 0, none⟩, ⟨11, (some 205), .mv (.t 19), 0, (some (204, false))⟩, ⟨12, (some 206), .bin .neq (.t 205) (.c (.int .i64 (0))), 0, (some (204, false))⟩, ⟨13, (some 207), .pick (.t 204) (.c (.bool true)) (.t 206), 0, none⟩] [4, 5, 7, 8, 9, 10, 12, 19, 25, 207])
                            (.cond (.t 207)
                             (.seq
                              (.seq
                               (.reg false [⟨0, (some 208), .mv (.t 19), 0, none⟩, ⟨1, (some 209), .bin .eql (.t 208) (.c (.int .i64 (0))), 0, none⟩] [4, 5, 7, 8, 9, 10, 12, 19, 209])
                               (.cond (.t 209)
                                (.seq
                                 (.reg false [⟨0, (some 6), .mv (.c (.bool false)), 0, none⟩] [6])
                                 (.ret))
                                (.skip)))
                              (.reg false [⟨0, (some 210), .mv (.t 10), 0, none⟩, ⟨1, (some 25), .mv (.t 210), 0, none⟩] [4, 5, 7, 8, 9, 12, 19, 25]))
                             (.skip)))
                           (.seq
                            (.reg true [⟨0, (some 211), .iaddr (some 3) 1 (.t 5) (.c (.int .i64 (1))), 0, none⟩, ⟨2, (some 213), .iaddr (some 3) 1 (.t 5) (.c (.int .i64 (2))), 0, none⟩, ⟨1, (some 212), .load none (.t 211), 0, none⟩, ⟨4, (some 26), .mv (.t 212), 0, none⟩, ⟨3, (some 214), .load none (.t 213), 0, none⟩, ⟨5, (some 27), .mv (.t 214), 0, none⟩] [4, 5, 7, 8, 9, 12, 19, 25, 26, 27])
                            (.seq
                             (.seq
                              (.reg false [⟨0, (some 28), .mv (.c (.int .i64 (0))), 0, none⟩] [4, 5, 7, 8, 9, 12, 19, 25, 26, 27, 28])
                              (.blk 6
                               (.loop [4, 5, 7, 8, 9, 12, 19, 25, 26, 27, 28]
                                (.seq
                                 (.seq
                                  (.reg false [⟨0, (some 215), .mv (.t 28), 0, none⟩, ⟨1, (some 216), .bin .lss (.t 215) (.c (.int .i64 (3))), 0, none⟩] [4, 5, 7, 8, 9, 12, 19, 25, 26, 27, 28, 216])
                                  (.cond (.t 216)
                                   (.skip)
                                   (.exit 6)))
                                 (.seq
                                  (.blk 7
                                   (.seq
                                    (.seq
                                     (.reg true [⟨1, (some 220), .mv (.t 25), 0, none⟩, ⟨2, (some 221), .mv (.t 26), 0, none⟩, ⟨3, (some 222), .mv (.t 27), 0, none⟩, ⟨6, (some 225), .mv (.t 25), 0, none⟩, ⟨7, (some 226), .mv (.t 26), 0, none⟩, ⟨8, (some 227), .mv (.t 27), 0, none⟩, ⟨0, (some 219), .load (some 3) (.t 7), 0, none⟩, ⟨5, (some 224), .load (some 3) (.t 8), 0, none⟩, ⟨4, (some 223), .call 25 [.t 219, .t 220, .t 221, .t 222], 1, none⟩, ⟨9, (some 228), .call 26 [.t 224, .t 225, .t 226, .t 227], 1, none⟩, ⟨10, (some 229), .eqb true (.t 223) (.t 228), 0, none⟩] [4, 5, 7, 8, 9, 12, 19, 25, 26, 27, 28, 229])
                                     (.cond (.t 229)
                                      (.seq
                                       (.reg false [⟨0, (some 6), .mv (.c (.bool false)), 0, none⟩] [6])
                                       (.ret))
                                      (.skip)))
                                    (.seq
                                     (.reg false [⟨0, (some 230), .mv (.t 26), 0, none⟩, ⟨1, (some 231), .cvt .u64 (.t 230), 0, none⟩, ⟨2, (some 232), .faddr 1 (.t 8), 0, none⟩, ⟨3, (some 233), .load none (.t 232), 0, none⟩, ⟨4, (some 234), .bin .sub (.t 233) (.c (.int .i64 (1))), 0, none⟩, ⟨5, (some 235), .mn [.c (.int .i64 (64)), .t 234], 0, none⟩, ⟨6, (some 236), .cvt .u64 (.t 235), 0, none⟩, ⟨7, (some 237), .bin .rem (.t 231) (.t 236), 0, none⟩, ⟨8, (some 238), .cvt .i64 (.t 237), 0, none⟩, ⟨9, (some 239), .bin .add (.c (.int .i64 (1))) (.t 238), 0, none⟩, ⟨10, (some 26), .mv (.t 239), 0, none⟩] [4, 5, 7, 8, 9, 12, 19, 25, 26, 27, 28])
                                     (.seq
                                      (.reg false [⟨0, (some 240), .mv (.t 27), 0, none⟩, ⟨1, (some 241), .cvt .u64 (.t 240), 0, none⟩, ⟨2, (some 242), .faddr 1 (.t 8), 0, none⟩, ⟨3, (some 243), .load none (.t 242), 0, none⟩, ⟨4, (some 244), .cvt .u64 (.t 243), 0, none⟩, ⟨5, (some 245), .bin .rem (.t 241) (.t 244), 0, none⟩, ⟨6, (some 246), .cvt .i64 (.t 245), 0, none⟩, ⟨7, (some 27), .mv (.t 246), 0, none⟩] [4, 5, 7, 8, 9, 12, 19, 25, 26, 27, 28])
                                      (.seq
                                       (.reg false [⟨0, (some 247), .mv (.t 28), 0, none⟩, ⟨1, (some 248), .bin .eql (.t 247) (.c (.int .i64 (1))), 0, none⟩, ⟨2, (some 249), .mv (.t 248), 0, none⟩, ⟨3, (some 250), .mv (.t 19), 0, (some (249, true))⟩, ⟨4, (some 251), .bin .eql (.t 250) (.c (.int .i64 (0))), 0, (some (249, true))⟩, ⟨5, (some 252), .pick (.t 249) (.t 251) (.c (.bool false)), 0, none⟩] [4, 5, 7, 8, 9, 12, 19, 25, 26, 27, 28, 252])
                                       (.cond (.t 252)
                                        (.reg false [⟨0, (some 253), .load (some 3) (.t 8), 0, none⟩, ⟨1, (some 254), .mv (.t 9), 0, none⟩, ⟨2, (some 255), .mv (.t 26), 0, none⟩, ⟨3, (some 256), .call 23 [.t 253, .t 254, .t 255], 2, none⟩, ⟨4, (some 27), .mv (.t 256), 0, none⟩] [4, 5, 7, 8, 9, 12, 19, 25, 26, 27, 28])
                                        (.skip)))))))
                                  (.reg false [⟨0, (some 217), .mv (.t 28), 0, none⟩, ⟨1, (some 218), .bin .add (.t 217) (.c (.int .i64 (1))), 0, none⟩, ⟨2, (some 28), .mv (.t 218), 0, none⟩] [4, 5, 7, 8, 9, 12, 19, 25, 26, 27, 28]))))))
                             (.seq
                              (.reg false [⟨0, (some 257), .iaddr (some 3) 1 (.t 5) (.c (.int .i64 (0))), 0, none⟩, ⟨1, (some 258), .load none (.t 257), 0, none⟩, ⟨2, (some 259), .cvt .u64 (.t 258), 0, none⟩, ⟨3, (some 260), .bin .rem (.t 259) (.c (.int .u64 (8))), 0, none⟩, ⟨4, (some 261), .cvt .i64 (.t 260), 0, none⟩, ⟨5, (some 262), .bin .add (.c (.int .i64 (1))) (.t 261), 0, none⟩, ⟨6, (some 29), .mv (.t 262), 0, none⟩] [4, 5, 7, 8, 12, 29])
                              (.seq
                               (.reg true [⟨1, (some 264), .iaddr (some 2) 1 (.t 4) (.c (.int .i64 (0))), 0, none⟩, ⟨3, (some 266), .mv (.t 29), 0, none⟩, ⟨6, (some 269), .iaddr (some 2) 1 (.t 4) (.c (.int .i64 (1))), 0, none⟩, ⟨8, (some 271), .mv (.t 29), 0, none⟩, ⟨0, (some 263), .load (some 3) (.t 8), 0, none⟩, ⟨2, (some 265), .load none (.t 264), 0, none⟩, ⟨5, (some 268), .load (some 3) (.t 8), 0, none⟩, ⟨7, (some 270), .load none (.t 269), 0, none⟩, ⟨4, (some 267), .call 17 [.t 263, .t 265, .t 266], 1, none⟩, ⟨9, (some 272), .call 17 [.t 268, .t 270, .t 271], 1, none⟩, ⟨10, (some 9), .mv (.t 267), 0, none⟩, ⟨11, (some 10), .mv (.t 272), 0, none⟩] [4, 5, 7, 8, 9, 10, 12])
                               (.reg false [⟨0, (some 273), .iaddr (some 3) 1 (.t 5) (.c (.int .i64 (0))), 0, none⟩, ⟨1, (some 274), .load none (.t 273), 0, none⟩, ⟨2, (some 275), .cvt .u64 (.t 274), 0, none⟩, ⟨3, (some 276), .faddr 1 (.t 8), 0, none⟩, ⟨4, (some 277), .load none (.t 276), 0, none⟩, ⟨5, (some 278), .bin .sub (.t 277) (.c (.int .i64 (1))), 0, none⟩, ⟨6, (some 279), .mn [.c (.int .i64 (20)), .t 278], 0, none⟩, ⟨7, (some 280), .cvt .u64 (.t 279), 0, none⟩, ⟨8, (some 281), .bin .rem (.t 275) (.t 280), 0, none⟩, ⟨9, (some 282), .cvt .i64 (.t 281), 0, none⟩, ⟨10, (some 283), .bin .add (.c (.int .i64 (1))) (.t 282), 0, none⟩, ⟨11, (some 11), .mv (.t 283), 0, none⟩] [4, 5, 7, 8, 9, 10, 11, 12])))))))))))))))))))))
           (.reg false [⟨0, (some 46), .mv (.t 12), 0, none⟩, ⟨1, (some 47), .bin .add (.t 46) (.c (.int .i64 (1))), 0, none⟩, ⟨2, (some 12), .mv (.t 47), 0, none⟩] [4, 5, 7, 8, 9, 10, 11, 12]))))))
      (.seq
       (.reg false [⟨0, (some 284), .call 18 [], 2, none⟩, ⟨1, (some 6), .mv (.t 284), 0, none⟩] [6])
       (.ret))))))

theorem ok4 : okF Tryz.prog 4 3 c4 [.tmp 6] = true := by kernel_rfl

/-- dauber/dauberlaw08.ShareSecret -/
def c5 : C :=
 .seq
  (.reg false [⟨0, (some 6), .mv (.c (.bool false)), 0, none⟩] [0, 1, 2])
  (.seq
   (.reg false [⟨0, (some 23), .mv (.t 0), 0, none⟩, ⟨1, (some 24), .call 9 [.t 23], 2, none⟩, ⟨2, (some 22), .mv (.t 24), 0, none⟩, ⟨3, (some 25), .ext 0 (.t 22), 0, none⟩, ⟨4, (some 26), .ext 1 (.t 22), 0, none⟩, ⟨5, (some 7), .alloc [.int .i64 (0), .int .i64 (0), .int .i64 (0)] 3, 0, none⟩, ⟨6, (some 8), .alloc [.int .i64 (0), .int .i64 (0), .int .i64 (0)] 3, 0, none⟩, ⟨7, none, .store 3 (.t 7) (.t 25), 0, none⟩, ⟨8, none, .store 3 (.t 8) (.t 26), 0, none⟩] [1, 2, 7, 8])
   (.seq
    (.reg false [⟨0, (some 27), .faddr 1 (.t 8), 0, none⟩, ⟨1, (some 28), .load none (.t 27), 0, none⟩, ⟨2, (some 29), .bin .sub (.t 28) (.c (.int .i64 (2))), 0, none⟩, ⟨3, (some 30), .mv (.t 1), 0, none⟩, ⟨4, (some 31), .len none (.t 30), 0, none⟩, ⟨5, (some 32), .mx [.c (.int .i64 (1)), .t 31], 0, none⟩, ⟨6, (some 33), .mn [.c (.int .i64 (8)), .t 29, .t 32], 0, none⟩, ⟨7, (some 9), .mv (.t 33), 0, none⟩] [1, 2, 7, 8, 9])
    (.seq
     (.reg false [⟨0, (some 34), .load (some 3) (.t 8), 0, none⟩, ⟨1, (some 35), .mv (.t 1), 0, none⟩, ⟨2, (some 36), .mv (.t 9), 0, none⟩, ⟨3, (some 37), .call 17 [.t 34, .t 35, .t 36], 2, none⟩, ⟨4, (some 10), .mv (.t 37), 0, none⟩] [2, 7, 8, 9, 10])
     (.seq
      (.reg false [⟨0, (some 38), .faddr 1 (.t 8), 0, none⟩, ⟨1, (some 39), .load none (.t 38), 0, none⟩, ⟨2, (some 40), .bin .sub (.t 39) (.c (.int .i64 (1))), 0, none⟩, ⟨3, (some 41), .mn [.c (.int .i64 (16)), .t 40], 0, none⟩, ⟨4, (some 11), .mv (.t 41), 0, none⟩] [2, 7, 8, 9, 10, 11])
      (.seq
       (.reg false [⟨0, (some 43), .load (some 3) (.t 7), 0, none⟩, ⟨1, (some 44), .mv (.t 10), 0, none⟩, ⟨2, (some 45), .mv (.t 11), 0, none⟩, ⟨3, (some 46), .call 19 [.t 43, .t 44, .t 45], 2, none⟩, ⟨4, (some 42), .mv (.t 46), 0, none⟩, ⟨5, (some 47), .ext 0 (.t 42), 0, none⟩, ⟨6, (some 48), .ext 1 (.t 42), 0, none⟩, ⟨7, (some 12), .mv (.t 47), 0, none⟩, ⟨8, (some 13), .mv (.t 48), 0, none⟩] [2, 7, 8, 9, 10, 11, 12, 13])
       (.seq
        (.reg false [⟨0, (some 50), .load (some 3) (.t 7), 0, none⟩, ⟨1, (some 51), .mv (.t 10), 0, none⟩, ⟨2, (some 52), .call 20 [.t 50, .t 51], 2, none⟩, ⟨3, (some 49), .mv (.t 52), 0, none⟩, ⟨4, (some 53), .ext 0 (.t 49), 0, none⟩, ⟨5, (some 54), .ext 1 (.t 49), 0, none⟩, ⟨6, (some 14), .mv (.t 53), 0, none⟩, ⟨7, (some 15), .mv (.t 54), 0, none⟩] [2, 7, 8, 9, 10, 11, 12, 13, 14, 15])
        (.seq
         (.seq
          (.reg false [⟨0, (some 55), .mv (.t 13), 0, none⟩, ⟨1, (some 56), .bin .neq (.t 55) (.c (.int .i64 (0))), 0, none⟩, ⟨2, (some 57), .mv (.t 56), 0, none⟩, ⟨3, (some 58), .mv (.t 15), 0, (some (57, false))⟩, ⟨4, (some 59), .bin .neq (.t 58) (.c (.int .i64 (0))), 0, (some (57, false))⟩, ⟨5, (some 60), .pick (.t 57) (.c (.bool true)) (.t 59), 0, none⟩, ⟨6, (some 61), .mv (.t 60), 0, none⟩, ⟨7, (some 62), .mv (.t 12), 0, (some (61, false))⟩, ⟨8, (some 63), .len none (.t 62), 0, (some (61, false))⟩, ⟨9, (some 64), .mv (.t 11), 0, (some (61, false))⟩, ⟨10, (some 65), .bin .neq (.t 63) (.t 64), 0, (some (61, false))⟩, ⟨11, (some 66), .pick (.t 61) (.c (.bool true)) (.t 65), 0, none⟩] [2, 7, 8, 9, 10, 11, 12, 14, 66])
          (.cond (.t 66)
           (.seq
            (.reg false [⟨0, (some 6), .mv (.c (.bool false)), 0, none⟩] [6])
            (.ret))
           (.skip)))
         (.seq
          (.reg false [⟨0, (some 16), .nilo 1, 0, none⟩, ⟨1, (some 17), .nilo 1, 0, none⟩] [2, 7, 8, 9, 10, 11, 12, 14, 16, 17])
          (.seq
           (.seq
            (.reg false [⟨0, (some 18), .mv (.c (.int .i64 (0))), 0, none⟩] [2, 7, 8, 9, 10, 11, 12, 14, 16, 17, 18])
            (.blk 0
             (.loop [2, 7, 8, 9, 10, 11, 12, 14, 16, 17, 18]
              (.seq
               (.seq
                (.reg false [⟨0, (some 67), .mv (.t 18), 0, none⟩, ⟨1, (some 68), .mv (.t 11), 0, none⟩, ⟨2, (some 69), .bin .lss (.t 67) (.t 68), 0, none⟩] [2, 7, 8, 9, 10, 11, 12, 14, 16, 17, 18, 69])
                (.cond (.t 69)
                 (.skip)
                 (.exit 0)))
               (.seq
                (.blk 1
                 (.seq
                  (.reg false [⟨0, (some 72), .mv (.t 18), 0, none⟩, ⟨1, (some 73), .bin .add (.t 72) (.c (.int .i64 (1))), 0, none⟩, ⟨2, (some 19), .mv (.t 73), 0, none⟩] [2, 7, 8, 9, 10, 11, 12, 14, 16, 17, 18, 19])
                  (.seq
                   (.seq
                    (.reg true [⟨1, (some 75), .mv (.t 14), 0, none⟩, ⟨2, (some 76), .mv (.t 19), 0, none⟩, ⟨3, (some 77), .mv (.t 12), 0, none⟩, ⟨4, (some 78), .mv (.t 18), 0, none⟩, ⟨5, (some 79), .iaddr none 1 (.t 77) (.t 78), 0, none⟩, ⟨0, (some 74), .load (some 3) (.t 7), 0, none⟩, ⟨6, (some 80), .load none (.t 79), 0, none⟩, ⟨7, (some 81), .call 25 [.t 74, .t 75, .t 76, .t 80], 2, none⟩, ⟨8, (some 82), .un .not (.t 81), 0, none⟩, ⟨9, (some 83), .mv (.t 82), 0, none⟩, ⟨11, (some 85), .mv (.t 14), 0, (some (83, false))⟩, ⟨12, (some 86), .mv (.t 19), 0, (some (83, false))⟩, ⟨13, (some 87), .mv (.t 12), 0, (some (83, false))⟩, ⟨14, (some 88), .mv (.t 18), 0, (some (83, false))⟩, ⟨15, (some 89), .iaddr none 1 (.t 87) (.t 88), 0, (some (83, false))⟩, ⟨18, (some 92), .faddr 1 (.t 8), 0, (some (83, false))⟩, ⟨10, (some 84), .load (some 3) (.t 7), 0, (some (83, false))⟩, ⟨16, (some 90), .load none (.t 89), 0, (some (83, false))⟩, ⟨17, (some 91), .bin .add (.t 90) (.c (.int .i64 (1))), 0, (some (83, false))⟩, ⟨19, (some 93), .load none (.t 92), 0, (some (83, false))⟩, ⟨20, (some 94), .bin .rem (.t 91) (.t 93), 0, (some (83, false))⟩, ⟨21, (some 95), .call 25 [.t 84, .t 85, .t 86, .t 94], 2, (some (83, false))⟩, ⟨22, (some 96), .pick (.t 83) (.c (.bool true)) (.t 95), 0, none⟩] [2, 7, 8, 9, 10, 11, 12, 14, 16, 17, 18, 19, 96])
                    (.cond (.t 96)
                     (.seq
                      (.reg false [⟨0, (some 6), .mv (.c (.bool false)), 0, none⟩] [6])
                      (.ret))
                     (.skip)))
                   (.seq
                    (.reg false [⟨0, (some 97), .mv (.t 16), 0, none⟩, ⟨1, (some 98), .len none (.t 97), 0, none⟩, ⟨2, (some 99), .mv (.t 9), 0, none⟩, ⟨3, (some 100), .bin .lss (.t 98) (.t 99), 0, none⟩, ⟨4, (some 101), .mv (.t 100), 0, none⟩, ⟨5, (some 102), .mv (.t 18), 0, (some (101, true))⟩, ⟨6, (some 103), .mv (.t 2), 0, (some (101, true))⟩, ⟨7, (some 104), .len none (.t 103), 0, (some (101, true))⟩, ⟨8, (some 105), .bin .lss (.t 102) (.t 104), 0, (some (101, true))⟩, ⟨9, (some 106), .mv (.t 105), 0, (some (101, true))⟩, ⟨10, (some 107), .mv (.t 2), 0, (some (106, true))⟩, ⟨11, (some 108), .mv (.t 18), 0, (some (106, true))⟩, ⟨12, (some 109), .iaddr none 1 (.t 107) (.t 108), 0, (some (106, true))⟩, ⟨13, (some 110), .load none (.t 109), 0, (some (106, true))⟩, ⟨14, (some 111), .bin .rem (.t 110) (.c (.int .i64 (2))), 0, (some (106, true))⟩, ⟨15, (some 112), .bin .neq (.t 111) (.c (.int .i64 (0))), 0, (some (106, true))⟩, ⟨16, (some 113), .pick (.t 106) (.t 112) (.c (.bool false)), 0, (some (101, true))⟩, ⟨17, (some 114), .mv (.t 113), 0, (some (101, true))⟩, ⟨18, (some 115), .mv (.t 11), 0, (some (114, false))⟩, ⟨19, (some 116), .mv (.t 18), 0, (some (114, false))⟩, ⟨20, (some 117), .bin .sub (.t 115) (.t 116), 0, (some (114, false))⟩, ⟨21, (some 118), .mv (.t 9), 0, (some (114, false))⟩, ⟨22, (some 119), .mv (.t 16), 0, (some (114, false))⟩, ⟨23, (some 120), .len none (.t 119), 0, (some (114, false))⟩, ⟨24, (some 121), .bin .sub (.t 118) (.t 120), 0, (some (114, false))⟩, ⟨25, (some 122), .bin .leq (.t 117) (.t 121), 0, (some (114, false))⟩, ⟨26, (some 123), .pick (.t 114) (.c (.bool true)) (.t 122), 0, (some (101, true))⟩, ⟨27, (some 124), .pick (.t 101) (.t 123) (.c (.bool false)), 0, none⟩] [2, 7, 8, 9, 10, 11, 12, 14, 16, 17, 18, 19, 124])
                    (.cond (.t 124)
                     (.seq
                      (.reg false [⟨0, (some 125), .mv (.t 16), 0, none⟩, ⟨1, (some 126), .mv (.t 19), 0, none⟩, ⟨2, (some 127), .bsl 1 1 [.int .i64 (0)] [(0, 1, .t 126)], 0, none⟩, ⟨3, (some 128), .app 1 8 (.t 125) (.t 127), 0, none⟩, ⟨4, (some 16), .mv (.t 128), 0, none⟩] [2, 7, 8, 9, 10, 11, 12, 14, 16, 17, 18])
                      (.reg false [⟨0, (some 129), .mv (.t 17), 0, none⟩, ⟨1, (some 130), .mv (.t 12), 0, none⟩, ⟨2, (some 131), .mv (.t 18), 0, none⟩, ⟨3, (some 132), .iaddr none 1 (.t 130) (.t 131), 0, none⟩, ⟨4, (some 133), .load none (.t 132), 0, none⟩, ⟨5, (some 134), .bsl 1 1 [.int .i64 (0)] [(0, 1, .t 133)], 0, none⟩, ⟨6, (some 135), .app 1 8 (.t 129) (.t 134), 0, none⟩, ⟨7, (some 17), .mv (.t 135), 0, none⟩] [2, 7, 8, 9, 10, 11, 12, 14, 16, 17, 18]))
                     (.skip))))))
                (.reg false [⟨0, (some 70), .mv (.t 18), 0, none⟩, ⟨1, (some 71), .bin .add (.t 70) (.c (.int .i64 (1))), 0, none⟩, ⟨2, (some 18), .mv (.t 71), 0, none⟩] [2, 7, 8, 9, 10, 11, 12, 14, 16, 17, 18]))))))
           (.seq
            (.reg false [⟨0, (some 137), .load (some 3) (.t 7), 0, none⟩, ⟨1, (some 138), .mv (.t 16), 0, none⟩, ⟨2, (some 139), .mv (.t 17), 0, none⟩, ⟨3, (some 140), .call 11 [.t 137, .t 138, .t 139], 2, none⟩, ⟨4, (some 136), .mv (.t 140), 0, none⟩, ⟨5, (some 141), .ext 0 (.t 136), 0, none⟩, ⟨6, (some 142), .ext 1 (.t 136), 0, none⟩, ⟨7, (some 20), .mv (.t 141), 0, none⟩, ⟨8, (some 21), .mv (.t 142), 0, none⟩] [9, 10, 16, 20, 21])
            (.seq
             (.reg false [⟨0, (some 143), .mv (.t 21), 0, none⟩, ⟨1, (some 144), .bin .eql (.t 143) (.c (.int .i64 (0))), 0, none⟩, ⟨2, (some 145), .mv (.t 144), 0, none⟩, ⟨3, (some 146), .mv (.t 16), 0, (some (145, true))⟩, ⟨4, (some 147), .len none (.t 146), 0, (some (145, true))⟩, ⟨5, (some 148), .mv (.t 9), 0, (some (145, true))⟩, ⟨6, (some 149), .bin .eql (.t 147) (.t 148), 0, (some (145, true))⟩, ⟨7, (some 150), .pick (.t 145) (.t 149) (.c (.bool false)), 0, none⟩, ⟨8, (some 151), .mv (.t 150), 0, none⟩, ⟨9, (some 152), .mv (.t 20), 0, (some (151, true))⟩, ⟨10, (some 153), .mv (.t 10), 0, (some (151, true))⟩, ⟨11, (some 154), .iaddr none 1 (.t 153) (.c (.int .i64 (0))), 0, (some (151, true))⟩, ⟨12, (some 155), .load none (.t 154), 0, (some (151, true))⟩, ⟨13, (some 156), .bin .eql (.t 152) (.t 155), 0, (some (151, true))⟩, ⟨14, (some 157), .pick (.t 151) (.t 156) (.c (.bool false)), 0, none⟩, ⟨15, (some 158), .mv (.t 157), 0, none⟩, ⟨16, (some 159), .call 18 [], 2, (some (158, true))⟩, ⟨17, (some 160), .pick (.t 158) (.t 159) (.c (.bool false)), 0, none⟩, ⟨18, (some 6), .mv (.t 160), 0, none⟩] [6])
             (.ret))))))))))))

theorem ok5 : okF Tryz.prog 5 3 c5 [.tmp 6] = true := by kernel_rfl

/-- dauber/dauberlaw08.ShareProves -/
def c6 : C :=
 .seq
  (.reg false [⟨0, (some 4), .box 6 (.t 1), 0, none⟩, ⟨1, (some 6), .mv (.c (.bool false)), 0, none⟩] [0, 2, 4])
  (.seq
   (.reg false [⟨0, (some 25), .mv (.t 0), 0, none⟩, ⟨1, (some 26), .call 9 [.t 25], 2, none⟩, ⟨2, (some 24), .mv (.t 26), 0, none⟩, ⟨3, (some 27), .ext 0 (.t 24), 0, none⟩, ⟨4, (some 28), .ext 1 (.t 24), 0, none⟩, ⟨5, (some 7), .alloc [.int .i64 (0), .int .i64 (0), .int .i64 (0)] 3, 0, none⟩, ⟨6, (some 8), .alloc [.int .i64 (0), .int .i64 (0), .int .i64 (0)] 3, 0, none⟩, ⟨7, none, .store 3 (.t 7) (.t 27), 0, none⟩, ⟨8, none, .store 3 (.t 8) (.t 28), 0, none⟩] [2, 4, 7, 8])
   (.seq
    (.seq
     (.reg false [⟨0, (some 9), .mv (.c (.int .i64 (0))), 0, none⟩] [2, 4, 7, 8, 9])
     (.blk 0
      (.loop [2, 4, 7, 8, 9]
       (.seq
        (.seq
         (.reg false [⟨0, (some 29), .mv (.t 9), 0, none⟩, ⟨1, (some 30), .bin .lss (.t 29) (.c (.int .i64 (3))), 0, none⟩] [2, 4, 7, 8, 9, 30])
         (.cond (.t 30)
          (.skip)
          (.exit 0)))
        (.seq
         (.blk 1
          (.seq
           (.reg true [⟨0, (some 33), .iaddr (some 2) 3 (.t 4) (.c (.int .i64 (0))), 0, none⟩, ⟨3, (some 36), .iaddr (some 2) 3 (.t 4) (.c (.int .i64 (1))), 0, none⟩, ⟨1, (some 34), .load (some 3) (.t 33), 0, none⟩, ⟨4, (some 37), .load (some 3) (.t 36), 0, none⟩, ⟨2, (some 35), .call 27 [.t 34], 1, none⟩, ⟨5, (some 38), .call 27 [.t 37], 1, none⟩, ⟨6, (some 10), .alloc [.int .i64 (0), .int .i64 (0), .int .i64 (0)] 3, 0, none⟩, ⟨7, (some 11), .alloc [.int .i64 (0), .int .i64 (0), .int .i64 (0)] 3, 0, none⟩, ⟨8, none, .store 3 (.t 10) (.t 35), 0, none⟩, ⟨9, none, .store 3 (.t 11) (.t 38), 0, none⟩] [2, 4, 7, 8, 9, 10, 11])
           (.seq
            (.reg false [⟨0, (some 40), .load (some 3) (.t 7), 0, none⟩, ⟨1, (some 41), .iaddr (some 2) 3 (.t 4) (.c (.int .i64 (0))), 0, none⟩, ⟨2, (some 42), .iaddr (some 3) 1 (.t 41) (.c (.int .i64 (0))), 0, none⟩, ⟨3, (some 43), .load none (.t 42), 0, none⟩, ⟨4, (some 44), .iaddr (some 2) 3 (.t 4) (.c (.int .i64 (0))), 0, none⟩, ⟨5, (some 45), .iaddr (some 3) 1 (.t 44) (.c (.int .i64 (1))), 0, none⟩, ⟨6, (some 46), .load none (.t 45), 0, none⟩, ⟨7, (some 47), .iaddr (some 2) 3 (.t 4) (.c (.int .i64 (0))), 0, none⟩, ⟨8, (some 48), .iaddr (some 3) 1 (.t 47) (.c (.int .i64 (2))), 0, none⟩, ⟨9, (some 49), .load none (.t 48), 0, none⟩, ⟨10, (some 50), .call 28 [.t 40, .t 43, .t 46, .t 49], 2, none⟩, ⟨11, (some 39), .mv (.t 50), 0, none⟩, ⟨12, (some 51), .ext 0 (.t 39), 0, none⟩, ⟨13, (some 52), .ext 1 (.t 39), 0, none⟩, ⟨14, (some 12), .alloc [.int .i64 (0), .int .i64 (0), .int .i64 (0)] 3, 0, none⟩, ⟨15, none, .store 3 (.t 12) (.t 51), 0, none⟩, ⟨16, (some 13), .mv (.t 52), 0, none⟩] [2, 4, 7, 8, 9, 10, 11, 12, 13])
            (.seq
             (.seq
              (.reg false [⟨0, (some 53), .load (some 3) (.t 8), 0, none⟩, ⟨1, (some 54), .iaddr (some 2) 3 (.t 4) (.c (.int .i64 (0))), 0, none⟩, ⟨2, (some 55), .iaddr (some 3) 1 (.t 54) (.c (.int .i64 (0))), 0, none⟩, ⟨3, (some 56), .load none (.t 55), 0, none⟩, ⟨4, (some 57), .call 29 [.t 53, .t 56], 2, none⟩, ⟨5, (some 58), .un .not (.t 57), 0, none⟩, ⟨6, (some 59), .mv (.t 58), 0, none⟩, ⟨7, (some 60), .load (some 3) (.t 8), 0, (some (59, false))⟩, ⟨8, (some 61), .iaddr (some 2) 3 (.t 4) (.c (.int .i64 (0))), 0, (some (59, false))⟩, ⟨9, (some 62), .iaddr (some 3) 1 (.t 61) (.c (.int .i64 (1))), 0, (some (59, false))⟩, ⟨10, (some 63), .load none (.t 62), 0, (some (59, false))⟩, ⟨11, (some 64), .call 29 [.t 60, .t 63], 2, (some (59, false))⟩, ⟨12, (some 65), .un .not (.t 64), 0, (some (59, false))⟩, ⟨13, (some 66), .pick (.t 59) (.c (.bool true)) (.t 65), 0, none⟩, ⟨14, (some 67), .mv (.t 66), 0, none⟩, ⟨15, (some 68), .load (some 3) (.t 8), 0, (some (67, false))⟩, ⟨16, (some 69), .iaddr (some 2) 3 (.t 4) (.c (.int .i64 (0))), 0, (some (67, false))⟩, ⟨17, (some 70), .iaddr (some 3) 1 (.t 69) (.c (.int .i64 (2))), 0, (some (67, false))⟩, ⟨18, (some 71), .load none (.t 70), 0, (some (67, false))⟩, ⟨19, (some 72), .call 29 [.t 68, .t 71], 2, (some (67, false))⟩, ⟨20, (some 73), .un .not (.t 72), 0, (some (67, false))⟩, ⟨21, (some 74), .pick (.t 67) (.c (.bool true)) (.t 73), 0, none⟩] [2, 4, 7, 8, 9, 10, 11, 12, 13, 74])
              (.cond (.t 74)
               (.seq
                (.reg false [⟨0, (some 75), .mv (.t 13), 0, none⟩, ⟨1, (some 76), .bin .neq (.t 75) (.c (.int .i64 (1))), 0, none⟩, ⟨2, (some 77), .mv (.t 76), 0, none⟩, ⟨3, (some 78), .load (some 3) (.t 12), 0, (some (77, false))⟩, ⟨4, (some 79), .build [.int .i64 (0), .int .i64 (0), .int .i64 (0)] [], 0, (some (77, false))⟩, ⟨5, (some 80), .eqs 3 true (.t 78) (.t 79), 0, (some (77, false))⟩, ⟨6, (some 81), .pick (.t 77) (.c (.bool true)) (.t 80), 0, none⟩] [2, 4, 7, 8, 9, 10, 11, 81])
                (.cond (.t 81)
                 (.seq
                  (.reg false [⟨0, (some 6), .mv (.c (.bool false)), 0, none⟩] [6])
                  (.ret))
                 (.skip)))
               (.seq
                (.reg true [⟨0, (some 82), .mv (.t 13), 0, none⟩, ⟨1, (some 83), .bin .neq (.t 82) (.c (.int .i64 (0))), 0, none⟩, ⟨2, (some 84), .mv (.t 83), 0, none⟩, ⟨5, (some 87), .iaddr (some 2) 3 (.t 4) (.c (.int .i64 (0))), 0, (some (84, false))⟩, ⟨6, (some 88), .iaddr (some 3) 1 (.t 87) (.c (.int .i64 (0))), 0, (some (84, false))⟩, ⟨8, (some 90), .iaddr (some 2) 3 (.t 4) (.c (.int .i64 (0))), 0, (some (84, false))⟩, ⟨9, (some 91), .iaddr (some 3) 1 (.t 90) (.c (.int .i64 (1))), 0, (some (84, false))⟩, ⟨11, (some 93), .iaddr (some 2) 3 (.t 4) (.c (.int .i64 (0))), 0, (some (84, false))⟩, ⟨12, (some 94), .iaddr (some 3) 1 (.t 93) (.c (.int .i64 (2))), 0, (some (84, false))⟩, ⟨3, (some 85), .load (some 3) (.t 12), 0, (some (84, false))⟩, ⟨4, (some 86), .load (some 3) (.t 8), 0, (some (84, false))⟩, ⟨7, (some 89), .load none (.t 88), 0, (some (84, false))⟩, ⟨10, (some 92), .load none (.t 91), 0, (some (84, false))⟩, ⟨13, (some 95), .load none (.t 94), 0, (some (84, false))⟩, ⟨14, (some 96), .call 30 [.t 86, .t 89, .t 92, .t 95], 1, (some (84, false))⟩, ⟨15, (some 97), .eqs 3 true (.t 85) (.t 96), 0, (some (84, false))⟩, ⟨16, (some 98), .pick (.t 84) (.c (.bool true)) (.t 97), 0, none⟩] [2, 4, 7, 8, 9, 10, 11, 98])
                (.cond (.t 98)
                 (.seq
                  (.reg false [⟨0, (some 6), .mv (.c (.bool false)), 0, none⟩] [6])
                  (.ret))
                 (.skip)))))
             (.seq
              (.seq
               (.reg true [⟨1, (some 100), .mv (.t 2), 0, none⟩, ⟨5, (some 104), .mv (.t 2), 0, none⟩, ⟨0, (some 99), .load (some 3) (.t 7), 0, none⟩, ⟨2, (some 101), .load (some 3) (.t 10), 0, none⟩, ⟨4, (some 103), .load (some 3) (.t 8), 0, none⟩, ⟨6, (some 105), .load (some 3) (.t 10), 0, none⟩, ⟨3, (some 102), .call 31 [.t 99, .t 100, .t 101], 1, none⟩, ⟨7, (some 106), .call 32 [.t 103, .t 104, .t 105], 1, none⟩, ⟨8, (some 107), .eqb true (.t 102) (.t 106), 0, none⟩] [2, 4, 7, 8, 9, 10, 11, 107])
               (.cond (.t 107)
                (.seq
                 (.reg false [⟨0, (some 6), .mv (.c (.bool false)), 0, none⟩] [6])
                 (.ret))
                (.skip)))
              (.seq
               (.reg false [⟨0, (some 109), .load (some 3) (.t 7), 0, none⟩, ⟨1, (some 110), .load (some 3) (.t 10), 0, none⟩, ⟨2, (some 111), .load (some 3) (.t 11), 0, none⟩, ⟨3, (some 112), .call 33 [.t 109, .t 110, .t 111], 2, none⟩, ⟨4, (some 108), .mv (.t 112), 0, none⟩, ⟨5, (some 113), .ext 0 (.t 108), 0, none⟩, ⟨6, (some 114), .ext 1 (.t 108), 0, none⟩, ⟨7, (some 14), .mv (.t 113), 0, none⟩, ⟨8, (some 15), .mv (.t 114), 0, none⟩] [2, 4, 7, 8, 9, 10, 11, 14, 15])
               (.seq
                (.reg false [⟨0, (some 116), .load (some 3) (.t 8), 0, none⟩, ⟨1, (some 117), .load (some 3) (.t 10), 0, none⟩, ⟨2, (some 118), .load (some 3) (.t 11), 0, none⟩, ⟨3, (some 119), .call 34 [.t 116, .t 117, .t 118], 2, none⟩, ⟨4, (some 115), .mv (.t 119), 0, none⟩, ⟨5, (some 120), .ext 0 (.t 115), 0, none⟩, ⟨6, (some 121), .ext 1 (.t 115), 0, none⟩, ⟨7, (some 16), .mv (.t 120), 0, none⟩, ⟨8, (some 17), .mv (.t 121), 0, none⟩] [2, 4, 7, 8, 9, 14, 15, 16, 17])
                (.seq
                 (.seq
                  (.reg false [⟨0, (some 122), .mv (.t 15), 0, none⟩, ⟨1, (some 123), .mv (.t 17), 0, none⟩, ⟨2, (some 124), .bin .neq (.t 122) (.t 123), 0, none⟩, ⟨3, (some 125), .mv (.t 124), 0, none⟩, ⟨4, (some 126), .mv (.t 14), 0, (some (125, false))⟩, ⟨5, (some 127), .mv (.t 16), 0, (some (125, false))⟩, ⟨6, (some 128), .bin .neq (.t 126) (.t 127), 0, (some (125, false))⟩, ⟨7, (some 129), .pick (.t 125) (.c (.bool true)) (.t 128), 0, none⟩] [2, 4, 7, 8, 9, 129])
                  (.cond (.t 129)
                   (.seq
                    (.reg false [⟨0, (some 6), .mv (.c (.bool false)), 0, none⟩] [6])
                    (.ret))
                   (.skip)))
                 (.seq
                  (.reg false [⟨0, (some 131), .load (some 3) (.t 7), 0, none⟩, ⟨1, (some 132), .mv (.t 2), 0, none⟩, ⟨2, (some 133), .iaddr (some 2) 3 (.t 4) (.c (.int .i64 (1))), 0, none⟩, ⟨3, (some 134), .iaddr (some 3) 1 (.t 133) (.c (.int .i64 (1))), 0, none⟩, ⟨4, (some 135), .load none (.t 134), 0, none⟩, ⟨5, (some 136), .iaddr (some 2) 3 (.t 4) (.c (.int .i64 (1))), 0, none⟩, ⟨6, (some 137), .iaddr (some 3) 1 (.t 136) (.c (.int .i64 (2))), 0, none⟩, ⟨7, (some 138), .load none (.t 137), 0, none⟩, ⟨8, (some 139), .call 35 [.t 131, .t 132, .t 135, .t 138], 2, none⟩, ⟨9, (some 130), .mv (.t 139), 0, none⟩, ⟨10, (some 140), .ext 0 (.t 130), 0, none⟩, ⟨11, (some 141), .ext 1 (.t 130), 0, none⟩, ⟨12, (some 18), .alloc [.int .i64 (0), .int .i64 (0), .int .i64 (0)] 3, 0, none⟩, ⟨13, none, .store 3 (.t 18) (.t 140), 0, none⟩, ⟨14, (some 19), .mv (.t 141), 0, none⟩] [2, 4, 7, 8, 9, 18, 19])
                  (.seq
                   (.seq
                    (.reg false [⟨0, (some 142), .load (some 3) (.t 8), 0, none⟩, ⟨1, (some 143), .mv (.t 2), 0, none⟩, ⟨2, (some 144), .call 36 [.t 142, .t 143], 2, none⟩, ⟨3, (some 145), .un .not (.t 144), 0, none⟩, ⟨4, (some 146), .mv (.t 145), 0, none⟩, ⟨5, (some 147), .load (some 3) (.t 8), 0, (some (146, false))⟩, ⟨6, (some 148), .iaddr (some 2) 3 (.t 4) (.c (.int .i64 (1))), 0, (some (146, false))⟩, ⟨7, (some 149), .iaddr (some 3) 1 (.t 148) (.c (.int .i64 (1))), 0, (some (146, false))⟩, ⟨8, (some 150), .load none (.t 149), 0, (some (146, false))⟩, ⟨9, (some 151), .call 29 [.t 147, .t 150], 2, (some (146, false))⟩, ⟨10, (some 152), .un .not (.t 151), 0, (some (146, false))⟩, ⟨11, (some 153), .pick (.t 146) (.c (.bool true)) (.t 152), 0, none⟩, ⟨12, (some 154), .mv (.t 153), 0, none⟩, ⟨13, (some 155), .load (some 3) (.t 8), 0, (some (154, false))⟩, ⟨14, (some 156), .iaddr (some 2) 3 (.t 4) (.c (.int .i64 (1))), 0, (some (154, false))⟩, ⟨15, (some 157), .iaddr (some 3) 1 (.t 156) (.c (.int .i64 (2))), 0, (some (154, false))⟩, ⟨16, (some 158), .load none (.t 157), 0, (some (154, false))⟩, ⟨17, (some 159), .call 29 [.t 155, .t 158], 2, (some (154, false))⟩, ⟨18, (some 160), .un .not (.t 159), 0, (some (154, false))⟩, ⟨19, (some 161), .pick (.t 154) (.c (.bool true)) (.t 160), 0, none⟩] [2, 4, 7, 8, 9, 18, 19, 161])
                    (.cond (.t 161)
                     (.seq
                      (.reg false [⟨0, (some 162), .mv (.t 19), 0, none⟩, ⟨1, (some 163), .bin .neq (.t 162) (.c (.int .i64 (1))), 0, none⟩, ⟨2, (some 164), .mv (.t 163), 0, none⟩, ⟨3, (some 165), .load (some 3) (.t 18), 0, (some (164, false))⟩, ⟨4, (some 166), .build [.int .i64 (0), .int .i64 (0), .int .i64 (0)] [], 0, (some (164, false))⟩, ⟨5, (some 167), .eqs 3 true (.t 165) (.t 166), 0, (some (164, false))⟩, ⟨6, (some 168), .pick (.t 164) (.c (.bool true)) (.t 167), 0, none⟩] [2, 4, 7, 8, 9, 168])
                      (.cond (.t 168)
                       (.seq
                        (.reg false [⟨0, (some 6), .mv (.c (.bool false)), 0, none⟩] [6])
                        (.ret))
                       (.skip)))
                     (.seq
                      (.reg false [⟨0, (some 169), .load (some 3) (.t 8), 0, none⟩, ⟨1, (some 170), .mv (.t 2), 0, none⟩, ⟨2, (some 171), .iaddr (some 2) 3 (.t 4) (.c (.int .i64 (1))), 0, none⟩, ⟨3, (some 172), .iaddr (some 3) 1 (.t 171) (.c (.int .i64 (1))), 0, none⟩, ⟨4, (some 173), .load none (.t 172), 0, none⟩, ⟨5, (some 174), .iaddr (some 2) 3 (.t 4) (.c (.int .i64 (1))), 0, none⟩, ⟨6, (some 175), .iaddr (some 3) 1 (.t 174) (.c (.int .i64 (2))), 0, none⟩, ⟨7, (some 176), .load none (.t 175), 0, none⟩, ⟨8, (some 177), .call 37 [.t 169, .t 170, .t 173, .t 176], 2, none⟩, ⟨9, (some 20), .alloc [.int .i64 (0), .int .i64 (0), .int .i64 (0)] 3, 0, none⟩, ⟨10, none, .store 3 (.t 20) (.t 177), 0, none⟩] [2, 4, 7, 8, 9, 18, 19, 20])
                      (.seq
                       (.reg false [⟨0, (some 178), .mv (.t 19), 0, none⟩, ⟨1, (some 179), .bin .neq (.t 178) (.c (.int .i64 (0))), 0, none⟩, ⟨2, (some 180), .mv (.t 179), 0, none⟩, ⟨3, (some 181), .load (some 3) (.t 18), 0, (some (180, false))⟩, ⟨4, (some 182), .load (some 3) (.t 20), 0, (some (180, false))⟩, ⟨5, (some 183), .eqs 3 true (.t 181) (.t 182), 0, (some (180, false))⟩, ⟨6, (some 184), .pick (.t 180) (.c (.bool true)) (.t 183), 0, none⟩, ⟨7, (some 185), .mv (.t 184), 0, none⟩, ⟨8, (some 186), .load (some 3) (.t 8), 0, (some (185, false))⟩, ⟨9, (some 187), .mv (.t 2), 0, (some (185, false))⟩, ⟨10, (some 188), .load (some 3) (.t 20), 0, (some (185, false))⟩, ⟨11, (some 189), .call 32 [.t 186, .t 187, .t 188], 2, (some (185, false))⟩, ⟨12, (some 190), .un .not (.t 189), 0, (some (185, false))⟩, ⟨13, (some 191), .pick (.t 185) (.c (.bool true)) (.t 190), 0, none⟩] [2, 4, 7, 8, 9, 191])
                       (.cond (.t 191)
                        (.seq
                         (.reg false [⟨0, (some 6), .mv (.c (.bool false)), 0, none⟩] [6])
                         (.ret))
                        (.skip))))))
                   (.seq
                    (.seq
                     (.reg false [⟨0, (some 21), .mv (.c (.int .i64 (0))), 0, none⟩] [2, 4, 7, 8, 9, 21])
                     (.blk 2
                      (.loop [2, 4, 7, 8, 9, 21]
                       (.seq
                        (.seq
                         (.reg false [⟨0, (some 192), .mv (.t 21), 0, none⟩, ⟨1, (some 193), .bin .lss (.t 192) (.c (.int .i64 (2))), 0, none⟩] [2, 4, 7, 8, 9, 21, 193])
                         (.cond (.t 193)
                          (.skip)
                          (.exit 2)))
                        (.seq
                         (.blk 3
                          (.seq
                           (.seq
                            (.reg false [⟨0, (some 22), .mv (.c (.int .i64 (0))), 0, none⟩] [2, 4, 7, 8, 9, 21, 22])
                            (.blk 4
                             (.loop [2, 4, 7, 8, 9, 21, 22]
                              (.seq
                               (.seq
                                (.reg false [⟨0, (some 196), .mv (.t 22), 0, none⟩, ⟨1, (some 197), .bin .lss (.t 196) (.c (.int .i64 (3))), 0, none⟩] [2, 4, 7, 8, 9, 21, 22, 197])
                                (.cond (.t 197)
                                 (.skip)
                                 (.exit 4)))
                               (.seq
                                (.blk 5
                                 (.reg true [⟨0, (some 200), .mv (.t 21), 0, none⟩, ⟨1, (some 201), .mv (.t 22), 0, none⟩, ⟨2, (some 202), .mv (.t 21), 0, none⟩, ⟨3, (some 203), .mv (.t 22), 0, none⟩, ⟨4, (some 204), .iaddr (some 2) 3 (.t 4) (.t 202), 0, none⟩, ⟨5, (some 205), .iaddr (some 3) 1 (.t 204) (.t 203), 0, none⟩, ⟨8, (some 208), .faddr 1 (.t 8), 0, none⟩, ⟨13, (some 213), .iaddr (some 2) 3 (.t 4) (.t 200), 0, none⟩, ⟨6, (some 206), .load none (.t 205), 0, none⟩, ⟨7, (some 207), .cvt .u64 (.t 206), 0, none⟩, ⟨9, (some 209), .load none (.t 208), 0, none⟩, ⟨10, (some 210), .cvt .u64 (.t 209), 0, none⟩, ⟨11, (some 211), .bin .rem (.t 207) (.t 210), 0, none⟩, ⟨12, (some 212), .cvt .i64 (.t 211), 0, none⟩, ⟨14, (some 214), .iaddr (some 3) 1 (.t 213) (.t 201), 0, none⟩, ⟨15, none, .store 1 (.t 214) (.t 212), 0, none⟩] [2, 4, 7, 8, 9, 21, 22]))
                                (.reg false [⟨0, (some 198), .mv (.t 22), 0, none⟩, ⟨1, (some 199), .bin .add (.t 198) (.c (.int .i64 (1))), 0, none⟩, ⟨2, (some 22), .mv (.t 199), 0, none⟩] [2, 4, 7, 8, 9, 21, 22]))))))
                           (.reg true [⟨0, (some 215), .mv (.t 21), 0, none⟩, ⟨2, (some 217), .iaddr (some 2) 3 (.t 4) (.c (.int .i64 (0))), 0, none⟩, ⟨3, (some 218), .iaddr (some 3) 1 (.t 217) (.c (.int .i64 (0))), 0, none⟩, ⟨6, (some 221), .iaddr (some 2) 3 (.t 4) (.t 215), 0, none⟩, ⟨1, (some 216), .load (some 3) (.t 8), 0, none⟩, ⟨4, (some 219), .load none (.t 218), 0, none⟩, ⟨5, (some 220), .call 38 [.t 216, .t 219], 2, none⟩, ⟨7, (some 222), .iaddr (some 3) 1 (.t 221) (.c (.int .i64 (0))), 0, none⟩, ⟨8, none, .store 1 (.t 222) (.t 220), 0, none⟩] [2, 4, 7, 8, 9, 21])))
                         (.reg false [⟨0, (some 194), .mv (.t 21), 0, none⟩, ⟨1, (some 195), .bin .add (.t 194) (.c (.int .i64 (1))), 0, none⟩, ⟨2, (some 21), .mv (.t 195), 0, none⟩] [2, 4, 7, 8, 9, 21]))))))
                    (.seq
                     (.reg true [⟨1, (some 224), .mv (.t 2), 0, none⟩, ⟨2, (some 225), .cvt .u64 (.t 224), 0, none⟩, ⟨3, (some 226), .faddr 1 (.t 8), 0, none⟩, ⟨0, (some 223), .load (some 3) (.t 8), 0, none⟩, ⟨4, (some 227), .load none (.t 226), 0, none⟩, ⟨5, (some 228), .cvt .u64 (.t 227), 0, none⟩, ⟨6, (some 229), .bin .rem (.t 225) (.t 228), 0, none⟩, ⟨7, (some 230), .cvt .i64 (.t 229), 0, none⟩, ⟨8, (some 231), .call 38 [.t 223, .t 230], 2, none⟩, ⟨9, (some 2), .mv (.t 231), 0, none⟩] [2, 4, 7, 8, 9])
                     (.seq
                      (.reg false [⟨0, (some 232), .mv (.t 9), 0, none⟩, ⟨1, (some 233), .bin .eql (.t 232) (.c (.int .i64 (1))), 0, none⟩] [2, 4, 7, 8, 9, 233])
                      (.cond (.t 233)
                       (.seq
                        (.reg false [⟨0, (some 234), .load (some 3) (.t 8), 0, none⟩, ⟨1, (some 235), .iaddr (some 2) 3 (.t 4) (.c (.int .i64 (1))), 0, none⟩, ⟨2, (some 236), .iaddr (some 3) 1 (.t 235) (.c (.int .i64 (1))), 0, none⟩, ⟨3, (some 237), .load none (.t 236), 0, none⟩, ⟨4, (some 238), .iaddr (some 2) 3 (.t 4) (.c (.int .i64 (1))), 0, none⟩, ⟨5, (some 239), .iaddr (some 3) 1 (.t 238) (.c (.int .i64 (2))), 0, none⟩, ⟨6, (some 240), .load none (.t 239), 0, none⟩, ⟨7, (some 241), .iaddr (some 2) 3 (.t 4) (.c (.int .i64 (0))), 0, none⟩, ⟨8, (some 242), .iaddr (some 3) 1 (.t 241) (.c (.int .i64 (1))), 0, none⟩, ⟨9, (some 243), .load none (.t 242), 0, none⟩, ⟨10, (some 244), .call 30 [.t 234, .t 237, .t 240, .t 243], 2, none⟩, ⟨11, (some 23), .alloc [.int .i64 (0), .int .i64 (0), .int .i64 (0)] 3, 0, none⟩, ⟨12, none, .store 3 (.t 23) (.t 244), 0, none⟩] [4, 7, 8, 9, 23])
                        (.seq
                         (.reg false [⟨0, (some 245), .faddr 0 (.t 23), 0, none⟩, ⟨1, (some 246), .load none (.t 245), 0, none⟩, ⟨2, (some 247), .faddr 1 (.t 23), 0, none⟩, ⟨3, (some 248), .load none (.t 247), 0, none⟩, ⟨4, (some 249), .faddr 2 (.t 23), 0, none⟩, ⟨5, (some 250), .load none (.t 249), 0, none⟩, ⟨6, (some 251), .build [.int .i64 (0), .int .i64 (0), .int .i64 (0)] [(0, 1, .t 246), (1, 1, .t 248), (2, 1, .t 250)], 0, none⟩, ⟨7, (some 252), .iaddr (some 2) 3 (.t 4) (.c (.int .i64 (0))), 0, none⟩, ⟨8, none, .store 3 (.t 252) (.t 251), 0, none⟩] [4, 7, 8, 9])
                         (.reg false [⟨0, (some 253), .load (some 3) (.t 8), 0, none⟩, ⟨1, (some 254), .iaddr (some 2) 3 (.t 4) (.c (.int .i64 (1))), 0, none⟩, ⟨2, (some 255), .iaddr (some 3) 1 (.t 254) (.c (.int .i64 (1))), 0, none⟩, ⟨3, (some 256), .load none (.t 255), 0, none⟩, ⟨4, (some 257), .call 38 [.t 253, .t 256], 2, none⟩, ⟨5, (some 2), .mv (.t 257), 0, none⟩] [2, 4, 7, 8, 9])))
                       (.skip)))))))))))))))
         (.reg false [⟨0, (some 31), .mv (.t 9), 0, none⟩, ⟨1, (some 32), .bin .add (.t 31) (.c (.int .i64 (1))), 0, none⟩, ⟨2, (some 9), .mv (.t 32), 0, none⟩] [2, 4, 7, 8, 9]))))))
    (.seq
     (.reg false [⟨0, (some 258), .call 18 [], 2, none⟩, ⟨1, (some 6), .mv (.t 258), 0, none⟩] [6])
     (.ret))))

theorem ok6 : okF Tryz.prog 6 3 c6 [.tmp 6] = true := by kernel_rfl

/-- dauber/dauberlaw08.ShareKnows -/
def c7 : C :=
 .seq
  (.reg false [⟨0, (some 3), .box 4 (.t 1), 0, none⟩, ⟨1, (some 4), .mv (.c (.bool false)), 0, none⟩] [0, 3])
  (.seq
   (.reg false [⟨0, (some 29), .build [.int .i64 (0), .int .i64 (0), .int .i64 (0), .int .i64 (0)] [(0, 1, .c (.int .i64 (5))), (1, 1, .c (.int .i64 (7))), (2, 1, .c (.int .i64 (11))), (3, 1, .c (.int .i64 (13)))], 0, none⟩, ⟨1, (some 5), .alloc [.int .i64 (0), .int .i64 (0), .int .i64 (0), .int .i64 (0)] 4, 0, none⟩, ⟨2, none, .store 4 (.t 5) (.t 29), 0, none⟩] [0, 3, 5])
   (.seq
    (.reg false [⟨0, (some 31), .mv (.t 0), 0, none⟩, ⟨1, (some 32), .cvt .u64 (.t 31), 0, none⟩, ⟨2, (some 33), .bin .rem (.t 32) (.c (.int .u64 (4))), 0, none⟩, ⟨3, (some 34), .iaddr (some 4) 1 (.t 5) (.t 33), 0, none⟩, ⟨4, (some 35), .load none (.t 34), 0, none⟩, ⟨5, (some 36), .call 9 [.t 35], 2, none⟩, ⟨6, (some 30), .mv (.t 36), 0, none⟩, ⟨7, (some 37), .ext 0 (.t 30), 0, none⟩, ⟨8, (some 38), .ext 1 (.t 30), 0, none⟩, ⟨9, (some 6), .alloc [.int .i64 (0), .int .i64 (0), .int .i64 (0)] 3, 0, none⟩, ⟨10, (some 7), .alloc [.int .i64 (0), .int .i64 (0), .int .i64 (0)] 3, 0, none⟩, ⟨11, none, .store 3 (.t 6) (.t 37), 0, none⟩, ⟨12, none, .store 3 (.t 7) (.t 38), 0, none⟩] [3, 6, 7])
    (.seq
     (.reg false [⟨0, (some 8), .alloc [.int .i64 (0), .int .i64 (0), .int .i64 (0), .int .i64 (0)] 4, 0, none⟩] [3, 6, 7, 8])
     (.seq
      (.seq
       (.reg false [⟨0, (some 9), .mv (.c (.int .i64 (0))), 0, none⟩] [3, 6, 7, 8, 9])
       (.blk 0
        (.loop [3, 6, 7, 8, 9]
         (.seq
          (.seq
           (.reg false [⟨0, (some 39), .mv (.t 9), 0, none⟩, ⟨1, (some 40), .bin .lss (.t 39) (.c (.int .i64 (4))), 0, none⟩] [3, 6, 7, 8, 9, 40])
           (.cond (.t 40)
            (.skip)
            (.exit 0)))
          (.seq
           (.blk 1
            (.reg true [⟨0, (some 43), .mv (.t 9), 0, none⟩, ⟨1, (some 44), .mv (.t 9), 0, none⟩, ⟨2, (some 45), .iaddr (some 4) 1 (.t 3) (.t 44), 0, none⟩, ⟨5, (some 48), .faddr 1 (.t 7), 0, none⟩, ⟨3, (some 46), .load none (.t 45), 0, none⟩, ⟨4, (some 47), .cvt .u64 (.t 46), 0, none⟩, ⟨6, (some 49), .load none (.t 48), 0, none⟩, ⟨7, (some 50), .cvt .u64 (.t 49), 0, none⟩, ⟨8, (some 51), .bin .rem (.t 47) (.t 50), 0, none⟩, ⟨9, (some 52), .cvt .i64 (.t 51), 0, none⟩, ⟨10, (some 53), .iaddr (some 4) 1 (.t 8) (.t 43), 0, none⟩, ⟨11, none, .store 1 (.t 53) (.t 52), 0, none⟩] [3, 6, 7, 8, 9]))
           (.reg false [⟨0, (some 41), .mv (.t 9), 0, none⟩, ⟨1, (some 42), .bin .add (.t 41) (.c (.int .i64 (1))), 0, none⟩, ⟨2, (some 9), .mv (.t 42), 0, none⟩] [3, 6, 7, 8, 9]))))))
      (.seq
       (.reg false [⟨0, (some 55), .load (some 3) (.t 6), 0, none⟩, ⟨1, (some 56), .iaddr (some 4) 1 (.t 8) (.c (.int .i64 (0))), 0, none⟩, ⟨2, (some 57), .load none (.t 56), 0, none⟩, ⟨3, (some 58), .call 39 [.t 55, .t 57], 2, none⟩, ⟨4, (some 54), .mv (.t 58), 0, none⟩, ⟨5, (some 59), .ext 0 (.t 54), 0, none⟩, ⟨6, (some 60), .ext 1 (.t 54), 0, none⟩, ⟨7, (some 10), .mv (.t 59), 0, none⟩, ⟨8, (some 11), .mv (.t 60), 0, none⟩] [6, 7, 8, 10, 11])
       (.seq
        (.reg false [⟨0, (some 62), .load (some 3) (.t 6), 0, none⟩, ⟨1, (some 63), .iaddr (some 4) 1 (.t 8) (.c (.int .i64 (0))), 0, none⟩, ⟨2, (some 64), .load none (.t 63), 0, none⟩, ⟨3, (some 65), .iaddr (some 4) 1 (.t 8) (.c (.int .i64 (1))), 0, none⟩, ⟨4, (some 66), .load none (.t 65), 0, none⟩, ⟨5, (some 67), .iaddr (some 4) 1 (.t 8) (.c (.int .i64 (2))), 0, none⟩, ⟨6, (some 68), .load none (.t 67), 0, none⟩, ⟨7, (some 69), .call 28 [.t 62, .t 64, .t 66, .t 68], 2, none⟩, ⟨8, (some 61), .mv (.t 69), 0, none⟩, ⟨9, (some 70), .ext 0 (.t 61), 0, none⟩, ⟨10, (some 71), .ext 1 (.t 61), 0, none⟩, ⟨11, (some 12), .alloc [.int .i64 (0), .int .i64 (0), .int .i64 (0)] 3, 0, none⟩, ⟨12, none, .store 3 (.t 12) (.t 70), 0, none⟩, ⟨13, (some 13), .mv (.t 71), 0, none⟩] [6, 7, 8, 10, 11, 12, 13])
        (.seq
         (.reg false [⟨0, (some 73), .load (some 3) (.t 6), 0, none⟩, ⟨1, (some 74), .iaddr (some 4) 1 (.t 8) (.c (.int .i64 (0))), 0, none⟩, ⟨2, (some 75), .load none (.t 74), 0, none⟩, ⟨3, (some 76), .iaddr (some 4) 1 (.t 8) (.c (.int .i64 (1))), 0, none⟩, ⟨4, (some 77), .load none (.t 76), 0, none⟩, ⟨5, (some 78), .iaddr (some 4) 1 (.t 8) (.c (.int .i64 (3))), 0, none⟩, ⟨6, (some 79), .load none (.t 78), 0, none⟩, ⟨7, (some 80), .call 28 [.t 73, .t 75, .t 77, .t 79], 2, none⟩, ⟨8, (some 72), .mv (.t 80), 0, none⟩, ⟨9, (some 81), .ext 0 (.t 72), 0, none⟩, ⟨10, (some 82), .ext 1 (.t 72), 0, none⟩, ⟨11, (some 14), .alloc [.int .i64 (0), .int .i64 (0), .int .i64 (0)] 3, 0, none⟩, ⟨12, none, .store 3 (.t 14) (.t 81), 0, none⟩, ⟨13, (some 15), .mv (.t 82), 0, none⟩] [6, 7, 8, 10, 11, 12, 13, 14, 15])
         (.seq
          (.seq
           (.reg false [⟨0, (some 83), .mv (.t 11), 0, none⟩, ⟨1, (some 84), .bin .neq (.t 83) (.c (.int .i64 (0))), 0, none⟩, ⟨2, (some 85), .mv (.t 84), 0, none⟩, ⟨3, (some 86), .mv (.t 13), 0, (some (85, false))⟩, ⟨4, (some 87), .bin .neq (.t 86) (.c (.int .i64 (0))), 0, (some (85, false))⟩, ⟨5, (some 88), .pick (.t 85) (.c (.bool true)) (.t 87), 0, none⟩, ⟨6, (some 89), .mv (.t 88), 0, none⟩, ⟨7, (some 90), .mv (.t 15), 0, (some (89, false))⟩, ⟨8, (some 91), .bin .neq (.t 90) (.c (.int .i64 (0))), 0, (some (89, false))⟩, ⟨9, (some 92), .pick (.t 89) (.c (.bool true)) (.t 91), 0, none⟩, ⟨10, (some 93), .mv (.t 92), 0, none⟩, ⟨11, (some 94), .load (some 3) (.t 6), 0, (some (93, false))⟩, ⟨12, (some 95), .mv (.t 10), 0, (some (93, false))⟩, ⟨13, (some 96), .load (some 3) (.t 12), 0, (some (93, false))⟩, ⟨14, (some 97), .call 31 [.t 94, .t 95, .t 96], 2, (some (93, false))⟩, ⟨15, (some 98), .un .not (.t 97), 0, (some (93, false))⟩, ⟨16, (some 99), .pick (.t 93) (.c (.bool true)) (.t 98), 0, none⟩, ⟨17, (some 100), .mv (.t 99), 0, none⟩, ⟨18, (some 101), .load (some 3) (.t 6), 0, (some (100, false))⟩, ⟨19, (some 102), .mv (.t 10), 0, (some (100, false))⟩, ⟨20, (some 103), .load (some 3) (.t 14), 0, (some (100, false))⟩, ⟨21, (some 104), .call 31 [.t 101, .t 102, .t 103], 2, (some (100, false))⟩, ⟨22, (some 105), .un .not (.t 104), 0, (some (100, false))⟩, ⟨23, (some 106), .pick (.t 100) (.c (.bool true)) (.t 105), 0, none⟩] [6, 7, 8, 10, 12, 14, 106])
           (.cond (.t 106)
            (.seq
             (.reg false [⟨0, (some 4), .mv (.c (.bool false)), 0, none⟩] [4])
             (.ret))
            (.skip)))
          (.seq
           (.reg false [⟨0, (some 108), .load (some 3) (.t 6), 0, none⟩, ⟨1, (some 109), .load (some 3) (.t 12), 0, none⟩, ⟨2, (some 110), .load (some 3) (.t 14), 0, none⟩, ⟨3, (some 111), .call 33 [.t 108, .t 109, .t 110], 2, none⟩, ⟨4, (some 107), .mv (.t 111), 0, none⟩, ⟨5, (some 112), .ext 0 (.t 107), 0, none⟩, ⟨6, (some 113), .ext 1 (.t 107), 0, none⟩, ⟨7, (some 16), .mv (.t 112), 0, none⟩, ⟨8, (some 17), .mv (.t 113), 0, none⟩] [6, 7, 8, 10, 16, 17])
           (.seq
            (.seq
             (.reg false [⟨0, (some 114), .iaddr (some 4) 1 (.t 8) (.c (.int .i64 (2))), 0, none⟩, ⟨1, (some 115), .load none (.t 114), 0, none⟩, ⟨2, (some 116), .iaddr (some 4) 1 (.t 8) (.c (.int .i64 (3))), 0, none⟩, ⟨3, (some 117), .load none (.t 116), 0, none⟩, ⟨4, (some 118), .bin .eql (.t 115) (.t 117), 0, none⟩] [6, 7, 8, 10, 16, 17, 118])
             (.cond (.t 118)
              (.seq
               (.reg false [⟨0, (some 119), .mv (.t 17), 0, none⟩, ⟨1, (some 120), .bin .neq (.t 119) (.c (.int .i64 (81))), 0, none⟩] [6, 7, 8, 10, 120])
               (.cond (.t 120)
                (.seq
                 (.reg false [⟨0, (some 4), .mv (.c (.bool false)), 0, none⟩] [4])
                 (.ret))
                (.skip)))
              (.seq
               (.reg false [⟨0, (some 121), .mv (.t 17), 0, none⟩, ⟨1, (some 122), .bin .neq (.t 121) (.c (.int .i64 (0))), 0, none⟩, ⟨2, (some 123), .mv (.t 122), 0, none⟩, ⟨3, (some 124), .mv (.t 16), 0, (some (123, false))⟩, ⟨4, (some 125), .iaddr (some 4) 1 (.t 8) (.c (.int .i64 (0))), 0, (some (123, false))⟩, ⟨5, (some 126), .load none (.t 125), 0, (some (123, false))⟩, ⟨6, (some 127), .bin .neq (.t 124) (.t 126), 0, (some (123, false))⟩, ⟨7, (some 128), .pick (.t 123) (.c (.bool true)) (.t 127), 0, none⟩] [6, 7, 8, 10, 128])
               (.cond (.t 128)
                (.seq
                 (.reg false [⟨0, (some 4), .mv (.c (.bool false)), 0, none⟩] [4])
                 (.ret))
                (.skip)))))
            (.seq
             (.seq
              (.reg false [⟨0, (some 18), .mv (.c (.int .i64 (0))), 0, none⟩] [6, 7, 8, 10, 18])
              (.blk 2
               (.loop [6, 7, 8, 10, 18]
                (.seq
                 (.seq
                  (.reg false [⟨0, (some 129), .mv (.t 18), 0, none⟩, ⟨1, (some 130), .faddr 1 (.t 7), 0, none⟩, ⟨2, (some 131), .load none (.t 130), 0, none⟩, ⟨3, (some 132), .bin .lss (.t 129) (.t 131), 0, none⟩] [6, 7, 8, 10, 18, 132])
                  (.cond (.t 132)
                   (.skip)
                   (.exit 2)))
                 (.seq
                  (.blk 3
                   (.seq
                    (.reg false [⟨0, (some 136), .load (some 3) (.t 6), 0, none⟩, ⟨1, (some 137), .iaddr (some 4) 1 (.t 8) (.c (.int .i64 (0))), 0, none⟩, ⟨2, (some 138), .load none (.t 137), 0, none⟩, ⟨3, (some 139), .mv (.t 18), 0, none⟩, ⟨4, (some 140), .iaddr (some 4) 1 (.t 8) (.c (.int .i64 (2))), 0, none⟩, ⟨5, (some 141), .load none (.t 140), 0, none⟩, ⟨6, (some 142), .call 28 [.t 136, .t 138, .t 139, .t 141], 2, none⟩, ⟨7, (some 135), .mv (.t 142), 0, none⟩, ⟨8, (some 143), .ext 0 (.t 135), 0, none⟩, ⟨9, (some 144), .ext 1 (.t 135), 0, none⟩, ⟨10, (some 19), .alloc [.int .i64 (0), .int .i64 (0), .int .i64 (0)] 3, 0, none⟩, ⟨11, none, .store 3 (.t 19) (.t 143), 0, none⟩, ⟨12, (some 20), .mv (.t 144), 0, none⟩] [6, 7, 8, 10, 18, 19, 20])
                    (.seq
                     (.reg false [⟨0, (some 146), .load (some 3) (.t 6), 0, none⟩, ⟨1, (some 147), .mv (.t 10), 0, none⟩, ⟨2, (some 148), .iaddr (some 4) 1 (.t 8) (.c (.int .i64 (2))), 0, none⟩, ⟨3, (some 149), .load none (.t 148), 0, none⟩, ⟨4, (some 150), .faddr 2 (.t 19), 0, none⟩, ⟨5, (some 151), .load none (.t 150), 0, none⟩, ⟨6, (some 152), .call 35 [.t 146, .t 147, .t 149, .t 151], 2, none⟩, ⟨7, (some 145), .mv (.t 152), 0, none⟩, ⟨8, (some 153), .ext 0 (.t 145), 0, none⟩, ⟨9, (some 154), .ext 1 (.t 145), 0, none⟩, ⟨10, (some 21), .alloc [.int .i64 (0), .int .i64 (0), .int .i64 (0)] 3, 0, none⟩, ⟨11, none, .store 3 (.t 21) (.t 153), 0, none⟩, ⟨12, (some 22), .mv (.t 154), 0, none⟩] [6, 7, 8, 10, 18, 19, 20, 21, 22])
                     (.seq
                      (.seq
                       (.reg false [⟨0, (some 155), .mv (.t 20), 0, none⟩, ⟨1, (some 156), .bin .neq (.t 155) (.c (.int .i64 (0))), 0, none⟩, ⟨2, (some 157), .mv (.t 156), 0, none⟩, ⟨3, (some 158), .mv (.t 22), 0, (some (157, false))⟩, ⟨4, (some 159), .bin .neq (.t 158) (.c (.int .i64 (0))), 0, (some (157, false))⟩, ⟨5, (some 160), .pick (.t 157) (.c (.bool true)) (.t 159), 0, none⟩, ⟨6, (some 161), .mv (.t 160), 0, none⟩, ⟨7, (some 162), .load (some 3) (.t 19), 0, (some (161, false))⟩, ⟨8, (some 163), .load (some 3) (.t 21), 0, (some (161, false))⟩, ⟨9, (some 164), .eqs 3 true (.t 162) (.t 163), 0, (some (161, false))⟩, ⟨10, (some 165), .pick (.t 161) (.c (.bool true)) (.t 164), 0, none⟩] [6, 7, 8, 10, 18, 165])
                       (.cond (.t 165)
                        (.seq
                         (.reg false [⟨0, (some 4), .mv (.c (.bool false)), 0, none⟩] [4])
                         (.ret))
                        (.skip)))
                      (.seq
                       (.reg false [⟨0, (some 167), .load (some 3) (.t 6), 0, none⟩, ⟨1, (some 168), .mv (.t 10), 0, none⟩, ⟨2, (some 169), .iaddr (some 4) 1 (.t 8) (.c (.int .i64 (2))), 0, none⟩, ⟨3, (some 170), .load none (.t 169), 0, none⟩, ⟨4, (some 171), .mv (.t 18), 0, none⟩, ⟨5, (some 172), .call 35 [.t 167, .t 168, .t 170, .t 171], 2, none⟩, ⟨6, (some 166), .mv (.t 172), 0, none⟩, ⟨7, (some 173), .ext 0 (.t 166), 0, none⟩, ⟨8, (some 174), .ext 1 (.t 166), 0, none⟩, ⟨9, (some 23), .alloc [.int .i64 (0), .int .i64 (0), .int .i64 (0)] 3, 0, none⟩, ⟨10, none, .store 3 (.t 23) (.t 173), 0, none⟩, ⟨11, (some 24), .mv (.t 174), 0, none⟩] [6, 7, 8, 10, 18, 23, 24])
                       (.seq
                        (.reg false [⟨0, (some 25), .mv (.c (.bool false)), 0, none⟩] [6, 7, 8, 10, 18, 23, 24, 25])
                        (.seq
                         (.seq
                          (.reg false [⟨0, (some 26), .mv (.c (.int .i64 (0))), 0, none⟩] [6, 7, 8, 10, 18, 23, 24, 25, 26])
                          (.blk 4
                           (.loop [6, 7, 8, 10, 18, 23, 24, 25, 26]
                            (.seq
                             (.seq
                              (.reg false [⟨0, (some 175), .mv (.t 26), 0, none⟩, ⟨1, (some 176), .faddr 1 (.t 7), 0, none⟩, ⟨2, (some 177), .load none (.t 176), 0, none⟩, ⟨3, (some 178), .bin .lss (.t 175) (.t 177), 0, none⟩] [6, 7, 8, 10, 18, 23, 24, 25, 26, 178])
                              (.cond (.t 178)
                               (.skip)
                               (.exit 4)))
                             (.seq
                              (.blk 5
                               (.seq
                                (.reg false [⟨0, (some 182), .load (some 3) (.t 6), 0, none⟩, ⟨1, (some 183), .iaddr (some 4) 1 (.t 8) (.c (.int .i64 (0))), 0, none⟩, ⟨2, (some 184), .load none (.t 183), 0, none⟩, ⟨3, (some 185), .mv (.t 26), 0, none⟩, ⟨4, (some 186), .iaddr (some 4) 1 (.t 8) (.c (.int .i64 (2))), 0, none⟩, ⟨5, (some 187), .load none (.t 186), 0, none⟩, ⟨6, (some 188), .call 28 [.t 182, .t 184, .t 185, .t 187], 2, none⟩, ⟨7, (some 181), .mv (.t 188), 0, none⟩, ⟨8, (some 189), .ext 0 (.t 181), 0, none⟩, ⟨9, (some 190), .ext 1 (.t 181), 0, none⟩, ⟨10, (some 27), .alloc [.int .i64 (0), .int .i64 (0), .int .i64 (0)] 3, 0, none⟩, ⟨11, none, .store 3 (.t 27) (.t 189), 0, none⟩, ⟨12, (some 28), .mv (.t 190), 0, none⟩] [6, 7, 8, 10, 18, 23, 24, 25, 26, 27, 28])
                                (.reg false [⟨0, (some 191), .mv (.t 25), 0, none⟩, ⟨1, (some 192), .mv (.t 191), 0, none⟩, ⟨2, (some 193), .mv (.t 28), 0, (some (192, false))⟩, ⟨3, (some 194), .bin .eql (.t 193) (.c (.int .i64 (0))), 0, (some (192, false))⟩, ⟨4, (some 195), .mv (.t 194), 0, (some (192, false))⟩, ⟨5, (some 196), .load (some 3) (.t 27), 0, (some (195, true))⟩, ⟨6, (some 197), .load (some 3) (.t 23), 0, (some (195, true))⟩, ⟨7, (some 198), .eqs 3 false (.t 196) (.t 197), 0, (some (195, true))⟩, ⟨8, (some 199), .pick (.t 195) (.t 198) (.c (.bool false)), 0, (some (192, false))⟩, ⟨9, (some 200), .pick (.t 192) (.c (.bool true)) (.t 199), 0, none⟩, ⟨10, (some 25), .mv (.t 200), 0, none⟩] [6, 7, 8, 10, 18, 23, 24, 25, 26])))
                              (.reg false [⟨0, (some 179), .mv (.t 26), 0, none⟩, ⟨1, (some 180), .bin .add (.t 179) (.c (.int .i64 (1))), 0, none⟩, ⟨2, (some 26), .mv (.t 180), 0, none⟩] [6, 7, 8, 10, 18, 23, 24, 25, 26]))))))
                         (.seq
                          (.reg false [⟨0, (some 201), .mv (.t 24), 0, none⟩, ⟨1, (some 202), .bin .neq (.t 201) (.c (.int .i64 (0))), 0, none⟩, ⟨2, (some 203), .mv (.t 202), 0, none⟩, ⟨3, (some 204), .mv (.t 25), 0, (some (203, false))⟩, ⟨4, (some 205), .un .not (.t 204), 0, (some (203, false))⟩, ⟨5, (some 206), .pick (.t 203) (.c (.bool true)) (.t 205), 0, none⟩, ⟨6, (some 207), .mv (.t 206), 0, none⟩, ⟨7, (some 208), .load (some 3) (.t 6), 0, (some (207, false))⟩, ⟨8, (some 209), .mv (.t 10), 0, (some (207, false))⟩, ⟨9, (some 210), .load (some 3) (.t 23), 0, (some (207, false))⟩, ⟨10, (some 211), .call 31 [.t 208, .t 209, .t 210], 2, (some (207, false))⟩, ⟨11, (some 212), .un .not (.t 211), 0, (some (207, false))⟩, ⟨12, (some 213), .pick (.t 207) (.c (.bool true)) (.t 212), 0, none⟩] [6, 7, 8, 10, 18, 213])
                          (.cond (.t 213)
                           (.seq
                            (.reg false [⟨0, (some 4), .mv (.c (.bool false)), 0, none⟩] [4])
                            (.ret))
                           (.skip))))))))))
                  (.reg false [⟨0, (some 133), .mv (.t 18), 0, none⟩, ⟨1, (some 134), .bin .add (.t 133) (.c (.int .i64 (1))), 0, none⟩, ⟨2, (some 18), .mv (.t 134), 0, none⟩] [6, 7, 8, 10, 18]))))))
             (.seq
              (.reg false [⟨0, (some 214), .call 18 [], 2, none⟩, ⟨1, (some 4), .mv (.t 214), 0, none⟩] [4])
              (.ret)))))))))))))

theorem ok7 : okF Tryz.prog 7 2 c7 [.tmp 4] = true := by kernel_rfl

/-- dauber/dauberlaw08.ShareGroups -/
def c8 : C :=
 .seq
  (.reg false [⟨0, (some 2), .box 3 (.t 0), 0, none⟩, ⟨1, (some 4), .mv (.c (.bool false)), 0, none⟩] [1, 2])
  (.seq
   (.reg false [⟨0, (some 33), .mv (.t 1), 0, none⟩, ⟨1, (some 34), .call 40 [.t 33], 2, none⟩, ⟨2, (some 32), .mv (.t 34), 0, none⟩, ⟨3, (some 35), .ext 0 (.t 32), 0, none⟩, ⟨4, (some 36), .ext 1 (.t 32), 0, none⟩, ⟨5, (some 5), .alloc [.int .i64 (0), .int .i64 (0), .int .i64 (0)] 3, 0, none⟩, ⟨6, none, .store 3 (.t 5) (.t 35), 0, none⟩, ⟨7, (some 6), .mv (.t 36), 0, none⟩] [1, 2, 5, 6])
   (.seq
    (.reg false [⟨0, (some 38), .mv (.t 1), 0, none⟩, ⟨1, (some 39), .call 41 [.t 38], 2, none⟩, ⟨2, (some 37), .mv (.t 39), 0, none⟩, ⟨3, (some 40), .ext 0 (.t 37), 0, none⟩, ⟨4, (some 41), .ext 1 (.t 37), 0, none⟩, ⟨5, (some 7), .alloc [.int .i64 (0), .int .i64 (0), .int .i64 (0)] 3, 0, none⟩, ⟨6, none, .store 3 (.t 7) (.t 40), 0, none⟩, ⟨7, (some 8), .mv (.t 41), 0, none⟩] [2, 5, 6, 7, 8])
    (.seq
     (.seq
      (.reg false [⟨0, (some 42), .mv (.t 8), 0, none⟩, ⟨1, (some 43), .mv (.t 42), 0, none⟩, ⟨2, (some 44), .mv (.t 6), 0, (some (43, true))⟩, ⟨3, (some 45), .bin .neq (.t 44) (.c (.int .i64 (0))), 0, (some (43, true))⟩, ⟨4, (some 46), .mv (.t 45), 0, (some (43, true))⟩, ⟨5, (some 47), .load (some 3) (.t 5), 0, (some (46, false))⟩, ⟨6, (some 48), .load (some 3) (.t 7), 0, (some (46, false))⟩, ⟨7, (some 49), .eqs 3 true (.t 47) (.t 48), 0, (some (46, false))⟩, ⟨8, (some 50), .pick (.t 46) (.c (.bool true)) (.t 49), 0, (some (43, true))⟩, ⟨9, (some 51), .pick (.t 43) (.t 50) (.c (.bool false)), 0, none⟩, ⟨10, (some 52), .mv (.t 51), 0, none⟩, ⟨11, (some 53), .mv (.t 8), 0, (some (52, false))⟩, ⟨12, (some 54), .un .not (.t 53), 0, (some (52, false))⟩, ⟨13, (some 55), .mv (.t 54), 0, (some (52, false))⟩, ⟨14, (some 56), .mv (.t 6), 0, (some (55, true))⟩, ⟨15, (some 57), .bin .neq (.t 56) (.c (.int .i64 (1))), 0, (some (55, true))⟩, ⟨16, (some 58), .mv (.t 57), 0, (some (55, true))⟩, ⟨17, (some 59), .load (some 3) (.t 5), 0, (some (58, false))⟩, ⟨18, (some 60), .build [.int .i64 (0), .int .i64 (0), .int .i64 (0)] [], 0, (some (58, false))⟩, ⟨19, (some 61), .eqs 3 true (.t 59) (.t 60), 0, (some (58, false))⟩, ⟨20, (some 62), .pick (.t 58) (.c (.bool true)) (.t 61), 0, (some (55, true))⟩, ⟨21, (some 63), .pick (.t 55) (.t 62) (.c (.bool false)), 0, (some (52, false))⟩, ⟨22, (some 64), .pick (.t 52) (.c (.bool true)) (.t 63), 0, none⟩] [2, 64])
      (.cond (.t 64)
       (.seq
        (.reg false [⟨0, (some 4), .mv (.c (.bool false)), 0, none⟩] [4])
        (.ret))
       (.skip)))
     (.seq
      (.reg false [⟨0, (some 65), .load (some 3) (.t 2), 0, none⟩, ⟨1, (some 9), .alloc [.int .i64 (0), .int .i64 (0), .int .i64 (0)] 3, 0, none⟩, ⟨2, none, .store 3 (.t 9) (.t 65), 0, none⟩] [2, 9])
      (.seq
       (.reg false [⟨0, (some 66), .load (some 3) (.t 2), 0, none⟩, ⟨1, (some 67), .call 42 [.t 66], 2, none⟩, ⟨2, (some 10), .mv (.t 67), 0, none⟩] [9, 10])
       (.seq
        (.seq
         (.reg false [⟨0, (some 68), .load (some 3) (.t 9), 0, none⟩, ⟨1, (some 69), .call 43 [.t 68], 2, none⟩, ⟨2, (some 70), .mv (.t 10), 0, none⟩, ⟨3, (some 71), .bin .neq (.t 69) (.t 70), 0, none⟩] [9, 10, 71])
         (.cond (.t 71)
          (.seq
           (.reg false [⟨0, (some 4), .mv (.c (.bool false)), 0, none⟩] [4])
           (.ret))
          (.skip)))
        (.seq
         (.seq
          (.reg false [⟨0, (some 72), .mv (.t 10), 0, none⟩, ⟨1, (some 73), .bin .eql (.t 72) (.c (.int .i64 (0))), 0, none⟩] [9, 10, 73])
          (.cond (.t 73)
           (.seq
            (.reg false [⟨0, (some 74), .call 18 [], 2, none⟩, ⟨1, (some 4), .mv (.t 74), 0, none⟩] [4])
            (.ret))
           (.skip)))
         (.seq
          (.reg false [⟨0, (some 76), .load (some 3) (.t 9), 0, none⟩, ⟨1, (some 77), .call 39 [.t 76, .c (.int .i64 (0))], 2, none⟩, ⟨2, (some 75), .mv (.t 77), 0, none⟩, ⟨3, (some 78), .ext 0 (.t 75), 0, none⟩, ⟨4, (some 79), .ext 1 (.t 75), 0, none⟩, ⟨5, (some 11), .mv (.t 78), 0, none⟩, ⟨6, (some 12), .mv (.t 79), 0, none⟩] [9, 10, 11, 12])
          (.seq
           (.reg false [⟨0, (some 81), .load (some 3) (.t 9), 0, none⟩, ⟨1, (some 82), .call 19 [.t 81, .c (.nils), .c (.int .i64 (0))], 2, none⟩, ⟨2, (some 80), .mv (.t 82), 0, none⟩, ⟨3, (some 83), .ext 0 (.t 80), 0, none⟩, ⟨4, (some 84), .ext 1 (.t 80), 0, none⟩, ⟨5, (some 13), .mv (.t 83), 0, none⟩, ⟨6, (some 14), .mv (.t 84), 0, none⟩] [9, 10, 11, 12, 13, 14])
           (.seq
            (.reg false [⟨0, (some 86), .load (some 3) (.t 9), 0, none⟩, ⟨1, (some 87), .call 20 [.t 86, .c (.nils)], 2, none⟩, ⟨2, (some 85), .mv (.t 87), 0, none⟩, ⟨3, (some 88), .ext 0 (.t 85), 0, none⟩, ⟨4, (some 89), .ext 1 (.t 85), 0, none⟩, ⟨5, (some 15), .mv (.t 88), 0, none⟩, ⟨6, (some 16), .mv (.t 89), 0, none⟩] [9, 10, 11, 12, 13, 14, 15, 16])
            (.seq
             (.reg false [⟨0, (some 91), .load (some 3) (.t 9), 0, none⟩, ⟨1, (some 92), .call 11 [.t 91, .c (.nils), .c (.nils)], 2, none⟩, ⟨2, (some 90), .mv (.t 92), 0, none⟩, ⟨3, (some 93), .ext 0 (.t 90), 0, none⟩, ⟨4, (some 94), .ext 1 (.t 90), 0, none⟩, ⟨5, (some 17), .mv (.t 93), 0, none⟩, ⟨6, (some 18), .mv (.t 94), 0, none⟩] [9, 10, 11, 12, 13, 14, 15, 16, 17, 18])
             (.seq
              (.reg false [⟨0, (some 96), .load (some 3) (.t 9), 0, none⟩, ⟨1, (some 97), .call 12 [.t 96, .c (.nils), .c (.nils)], 2, none⟩, ⟨2, (some 95), .mv (.t 97), 0, none⟩, ⟨3, (some 98), .ext 0 (.t 95), 0, none⟩, ⟨4, (some 99), .ext 1 (.t 95), 0, none⟩, ⟨5, (some 19), .mv (.t 98), 0, none⟩, ⟨6, (some 20), .mv (.t 99), 0, none⟩] [9, 10, 11, 12, 13, 14, 15, 16, 17, 18, 19, 20])
              (.seq
               (.reg false [⟨0, (some 101), .load (some 3) (.t 9), 0, none⟩, ⟨1, (some 102), .call 44 [.t 101, .c (.int .i64 (0)), .c (.nils), .c (.nils)], 2, none⟩, ⟨2, (some 100), .mv (.t 102), 0, none⟩, ⟨3, (some 103), .ext 0 (.t 100), 0, none⟩, ⟨4, (some 104), .ext 1 (.t 100), 0, none⟩, ⟨5, (some 105), .ext 2 (.t 100), 0, none⟩, ⟨6, (some 21), .mv (.t 103), 0, none⟩, ⟨7, (some 22), .mv (.t 104), 0, none⟩, ⟨8, (some 23), .mv (.t 105), 0, none⟩] [9, 10, 11, 12, 13, 14, 15, 16, 17, 18, 19, 20, 21, 22, 23])
               (.seq
                (.reg false [⟨0, (some 107), .load (some 3) (.t 9), 0, none⟩, ⟨1, (some 108), .call 21 [.t 107, .c (.nils), .c (.nils)], 2, none⟩, ⟨2, (some 106), .mv (.t 108), 0, none⟩, ⟨3, (some 109), .ext 0 (.t 106), 0, none⟩, ⟨4, (some 110), .ext 1 (.t 106), 0, none⟩, ⟨5, (some 24), .mv (.t 109), 0, none⟩, ⟨6, (some 25), .mv (.t 110), 0, none⟩] [9, 10, 11, 12, 13, 14, 15, 16, 17, 18, 19, 20, 21, 22, 23, 24, 25])
                (.seq
                 (.reg false [⟨0, (some 112), .load (some 3) (.t 9), 0, none⟩, ⟨1, (some 113), .call 28 [.t 112, .c (.int .i64 (0)), .c (.int .i64 (0)), .c (.int .i64 (0))], 2, none⟩, ⟨2, (some 111), .mv (.t 113), 0, none⟩, ⟨3, (some 114), .ext 0 (.t 111), 0, none⟩, ⟨4, (some 115), .ext 1 (.t 111), 0, none⟩, ⟨5, (some 26), .alloc [.int .i64 (0), .int .i64 (0), .int .i64 (0)] 3, 0, none⟩, ⟨6, none, .store 3 (.t 26) (.t 114), 0, none⟩, ⟨7, (some 27), .mv (.t 115), 0, none⟩] [9, 10, 11, 12, 13, 14, 15, 16, 17, 18, 19, 20, 21, 22, 23, 24, 25, 26, 27])
                 (.seq
                  (.reg false [⟨0, (some 117), .load (some 3) (.t 9), 0, none⟩, ⟨1, (some 118), .build [.int .i64 (0), .int .i64 (0), .int .i64 (0)] [], 0, none⟩, ⟨2, (some 119), .build [.int .i64 (0), .int .i64 (0), .int .i64 (0)] [], 0, none⟩, ⟨3, (some 120), .call 33 [.t 117, .t 118, .t 119], 2, none⟩, ⟨4, (some 116), .mv (.t 120), 0, none⟩, ⟨5, (some 121), .ext 0 (.t 116), 0, none⟩, ⟨6, (some 122), .ext 1 (.t 116), 0, none⟩, ⟨7, (some 28), .mv (.t 121), 0, none⟩, ⟨8, (some 29), .mv (.t 122), 0, none⟩] [9, 10, 11, 12, 13, 14, 15, 16, 17, 18, 19, 20, 21, 22, 23, 24, 25, 26, 27, 28, 29])
                  (.seq
                   (.reg false [⟨0, (some 124), .load (some 3) (.t 9), 0, none⟩, ⟨1, (some 125), .call 35 [.t 124, .c (.int .i64 (1)), .c (.int .i64 (0)), .c (.int .i64 (0))], 2, none⟩, ⟨2, (some 123), .mv (.t 125), 0, none⟩, ⟨3, (some 126), .ext 0 (.t 123), 0, none⟩, ⟨4, (some 127), .ext 1 (.t 123), 0, none⟩, ⟨5, (some 30), .alloc [.int .i64 (0), .int .i64 (0), .int .i64 (0)] 3, 0, none⟩, ⟨6, none, .store 3 (.t 30) (.t 126), 0, none⟩, ⟨7, (some 31), .mv (.t 127), 0, none⟩] [9, 10, 11, 12, 13, 14, 15, 16, 17, 18, 19, 20, 21, 22, 23, 24, 25, 26, 27, 28, 29, 30, 31])
                   (.seq
                    (.reg false [⟨0, (some 128), .mv (.t 12), 0, none⟩, ⟨1, (some 129), .mv (.t 10), 0, none⟩, ⟨2, (some 130), .bin .eql (.t 128) (.t 129), 0, none⟩, ⟨3, (some 131), .mv (.t 130), 0, none⟩, ⟨4, (some 132), .mv (.t 14), 0, (some (131, true))⟩, ⟨5, (some 133), .mv (.t 10), 0, (some (131, true))⟩, ⟨6, (some 134), .bin .eql (.t 132) (.t 133), 0, (some (131, true))⟩, ⟨7, (some 135), .pick (.t 131) (.t 134) (.c (.bool false)), 0, none⟩, ⟨8, (some 136), .mv (.t 135), 0, none⟩, ⟨9, (some 137), .mv (.t 16), 0, (some (136, true))⟩, ⟨10, (some 138), .mv (.t 10), 0, (some (136, true))⟩, ⟨11, (some 139), .bin .eql (.t 137) (.t 138), 0, (some (136, true))⟩, ⟨12, (some 140), .pick (.t 136) (.t 139) (.c (.bool false)), 0, none⟩, ⟨13, (some 141), .mv (.t 140), 0, none⟩, ⟨14, (some 142), .mv (.t 18), 0, (some (141, true))⟩, ⟨15, (some 143), .mv (.t 10), 0, (some (141, true))⟩, ⟨16, (some 144), .bin .eql (.t 142) (.t 143), 0, (some (141, true))⟩, ⟨17, (some 145), .pick (.t 141) (.t 144) (.c (.bool false)), 0, none⟩, ⟨18, (some 146), .mv (.t 145), 0, none⟩, ⟨19, (some 147), .mv (.t 20), 0, (some (146, true))⟩, ⟨20, (some 148), .mv (.t 10), 0, (some (146, true))⟩, ⟨21, (some 149), .bin .eql (.t 147) (.t 148), 0, (some (146, true))⟩, ⟨22, (some 150), .pick (.t 146) (.t 149) (.c (.bool false)), 0, none⟩, ⟨23, (some 151), .mv (.t 150), 0, none⟩, ⟨24, (some 152), .mv (.t 23), 0, (some (151, true))⟩, ⟨25, (some 153), .mv (.t 10), 0, (some (151, true))⟩, ⟨26, (some 154), .bin .eql (.t 152) (.t 153), 0, (some (151, true))⟩, ⟨27, (some 155), .pick (.t 151) (.t 154) (.c (.bool false)), 0, none⟩, ⟨28, (some 156), .mv (.t 155), 0, none⟩, ⟨29, (some 157), .mv (.t 25), 0, (some (156, true))⟩, ⟨30, (some 158), .mv (.t 10), 0, (some (156, true))⟩, ⟨31, (some 159), .bin .eql (.t 157) (.t 158), 0, (some (156, true))⟩, ⟨32, (some 160), .pick (.t 156) (.t 159) (.c (.bool false)), 0, none⟩, ⟨33, (some 161), .mv (.t 160), 0, none⟩, ⟨34, (some 162), .mv (.t 27), 0, (some (161, true))⟩, ⟨35, (some 163), .mv (.t 10), 0, (some (161, true))⟩, ⟨36, (some 164), .bin .eql (.t 162) (.t 163), 0, (some (161, true))⟩, ⟨37, (some 165), .pick (.t 161) (.t 164) (.c (.bool false)), 0, none⟩, ⟨38, (some 166), .mv (.t 165), 0, none⟩, ⟨39, (some 167), .mv (.t 29), 0, (some (166, true))⟩, ⟨40, (some 168), .mv (.t 10), 0, (some (166, true))⟩, ⟨41, (some 169), .bin .eql (.t 167) (.t 168), 0, (some (166, true))⟩, ⟨42, (some 170), .pick (.t 166) (.t 169) (.c (.bool false)), 0, none⟩, ⟨43, (some 171), .mv (.t 170), 0, none⟩, ⟨44, (some 172), .mv (.t 31), 0, (some (171, true))⟩, ⟨45, (some 173), .mv (.t 10), 0, (some (171, true))⟩, ⟨46, (some 174), .bin .eql (.t 172) (.t 173), 0, (some (171, true))⟩, ⟨47, (some 175), .pick (.t 171) (.t 174) (.c (.bool false)), 0, none⟩, ⟨48, (some 176), .mv (.t 175), 0, none⟩, ⟨49, (some 177), .mv (.t 11), 0, (some (176, true))⟩, ⟨50, (some 178), .bin .eql (.t 177) (.c (.int .i64 (0))), 0, (some (176, true))⟩, ⟨51, (some 179), .pick (.t 176) (.t 178) (.c (.bool false)), 0, none⟩, ⟨52, (some 180), .mv (.t 179), 0, none⟩, ⟨53, (some 181), .mv (.t 13), 0, (some (180, true))⟩, ⟨54, (some 182), .len none (.t 181), 0, (some (180, true))⟩, ⟨55, (some 183), .bin .eql (.t 182) (.c (.int .i64 (0))), 0, (some (180, true))⟩, ⟨56, (some 184), .pick (.t 180) (.t 183) (.c (.bool false)), 0, none⟩, ⟨57, (some 185), .mv (.t 184), 0, none⟩, ⟨58, (some 186), .mv (.t 15), 0, (some (185, true))⟩, ⟨59, (some 187), .len none (.t 186), 0, (some (185, true))⟩, ⟨60, (some 188), .bin .eql (.t 187) (.c (.int .i64 (0))), 0, (some (185, true))⟩, ⟨61, (some 189), .pick (.t 185) (.t 188) (.c (.bool false)), 0, none⟩, ⟨62, (some 190), .mv (.t 189), 0, none⟩, ⟨63, (some 191), .mv (.t 17), 0, (some (190, true))⟩, ⟨64, (some 192), .bin .eql (.t 191) (.c (.int .i64 (0))), 0, (some (190, true))⟩, ⟨65, (some 193), .pick (.t 190) (.t 192) (.c (.bool false)), 0, none⟩, ⟨66, (some 194), .mv (.t 193), 0, none⟩, ⟨67, (some 195), .mv (.t 19), 0, (some (194, true))⟩, ⟨68, (some 196), .len none (.t 195), 0, (some (194, true))⟩, ⟨69, (some 197), .bin .eql (.t 196) (.c (.int .i64 (0))), 0, (some (194, true))⟩, ⟨70, (some 198), .pick (.t 194) (.t 197) (.c (.bool false)), 0, none⟩, ⟨71, (some 199), .mv (.t 198), 0, none⟩, ⟨72, (some 200), .mv (.t 21), 0, (some (199, true))⟩, ⟨73, (some 201), .bin .eql (.t 200) (.c (.int .i64 (0))), 0, (some (199, true))⟩, ⟨74, (some 202), .pick (.t 199) (.t 201) (.c (.bool false)), 0, none⟩, ⟨75, (some 203), .mv (.t 202), 0, none⟩, ⟨76, (some 204), .mv (.t 22), 0, (some (203, true))⟩, ⟨77, (some 205), .len none (.t 204), 0, (some (203, true))⟩, ⟨78, (some 206), .bin .eql (.t 205) (.c (.int .i64 (0))), 0, (some (203, true))⟩, ⟨79, (some 207), .pick (.t 203) (.t 206) (.c (.bool false)), 0, none⟩, ⟨80, (some 208), .mv (.t 207), 0, none⟩, ⟨81, (some 209), .mv (.t 24), 0, (some (208, true))⟩, ⟨82, (some 210), .len none (.t 209), 0, (some (208, true))⟩, ⟨83, (some 211), .bin .eql (.t 210) (.c (.int .i64 (0))), 0, (some (208, true))⟩, ⟨84, (some 212), .pick (.t 208) (.t 211) (.c (.bool false)), 0, none⟩, ⟨85, (some 213), .mv (.t 212), 0, none⟩, ⟨86, (some 214), .load (some 3) (.t 26), 0, (some (213, true))⟩, ⟨87, (some 215), .build [.int .i64 (0), .int .i64 (0), .int .i64 (0)] [], 0, (some (213, true))⟩, ⟨88, (some 216), .eqs 3 false (.t 214) (.t 215), 0, (some (213, true))⟩, ⟨89, (some 217), .pick (.t 213) (.t 216) (.c (.bool false)), 0, none⟩, ⟨90, (some 218), .mv (.t 217), 0, none⟩, ⟨91, (some 219), .mv (.t 28), 0, (some (218, true))⟩, ⟨92, (some 220), .bin .eql (.t 219) (.c (.int .i64 (0))), 0, (some (218, true))⟩, ⟨93, (some 221), .pick (.t 218) (.t 220) (.c (.bool false)), 0, none⟩, ⟨94, (some 222), .mv (.t 221), 0, none⟩, ⟨95, (some 223), .load (some 3) (.t 30), 0, (some (222, true))⟩, ⟨96, (some 224), .build [.int .i64 (0), .int .i64 (0), .int .i64 (0)] [], 0, (some (222, true))⟩, ⟨97, (some 225), .eqs 3 false (.t 223) (.t 224), 0, (some (222, true))⟩, ⟨98, (some 226), .pick (.t 222) (.t 225) (.c (.bool false)), 0, none⟩, ⟨99, (some 227), .mv (.t 226), 0, none⟩, ⟨100, (some 228), .load (some 3) (.t 9), 0, (some (227, true))⟩, ⟨101, (some 229), .call 45 [.t 228, .c (.int .i64 (1))], 2, (some (227, true))⟩, ⟨102, (some 230), .un .not (.t 229), 0, (some (227, true))⟩, ⟨103, (some 231), .pick (.t 227) (.t 230) (.c (.bool false)), 0, none⟩, ⟨104, (some 232), .mv (.t 231), 0, none⟩, ⟨105, (some 233), .load (some 3) (.t 9), 0, (some (232, true))⟩, ⟨106, (some 234), .bsl 1 1 [.int .i64 (0)] [(0, 1, .c (.int .i64 (1)))], 0, (some (232, true))⟩, ⟨107, (some 235), .call 25 [.t 233, .t 234, .c (.int .i64 (1)), .c (.int .i64 (0))], 2, (some (232, true))⟩, ⟨108, (some 236), .un .not (.t 235), 0, (some (232, true))⟩, ⟨109, (some 237), .pick (.t 232) (.t 236) (.c (.bool false)), 0, none⟩, ⟨110, (some 238), .mv (.t 237), 0, none⟩, ⟨111, (some 239), .load (some 3) (.t 9), 0, (some (238, true))⟩, ⟨112, (some 240), .build [.int .i64 (0), .int .i64 (0), .int .i64 (0)] [(0, 1, .c (.int .i64 (1)))], 0, (some (238, true))⟩, ⟨113, (some 241), .call 31 [.t 239, .c (.int .i64 (1)), .t 240], 2, (some (238, true))⟩, ⟨114, (some 242), .un .not (.t 241), 0, (some (238, true))⟩, ⟨115, (some 243), .pick (.t 238) (.t 242) (.c (.bool false)), 0, none⟩, ⟨116, (some 244), .mv (.t 243), 0, none⟩, ⟨117, (some 245), .call 18 [], 2, (some (244, true))⟩, ⟨118, (some 246), .pick (.t 244) (.t 245) (.c (.bool false)), 0, none⟩, ⟨119, (some 4), .mv (.t 246), 0, none⟩] [4])
                    (.ret)))))))))))))))))))

theorem ok8 : okF Tryz.prog 8 2 c8 [.tmp 4] = true := by kernel_rfl

/-- dauber/dauberlaw08.group -/
def c9 : C :=
 .seq
  (.reg false [⟨0, (some 2), .alloc [.int .i64 (0), .int .i64 (0), .int .i64 (0)] 3, 0, none⟩, ⟨1, (some 3), .alloc [.int .i64 (0), .int .i64 (0), .int .i64 (0)] 3, 0, none⟩] [0, 2, 3])
  (.seq
   (.reg false [⟨0, (some 7), .build (List.replicate 12 (.int .i64 (0))) [(0, 1, .c (.int .i64 (3))), (1, 1, .c (.int .i64 (5))), (2, 1, .c (.int .i64 (7))), (3, 1, .c (.int .i64 (11))), (4, 1, .c (.int .i64 (13))), (5, 1, .c (.int .i64 (17))), (6, 1, .c (.int .i64 (31))), (7, 1, .c (.int .i64 (97))), (8, 1, .c (.int .i64 (101))), (9, 1, .c (.int .i64 (251))), (10, 1, .c (.int .i64 (1009))), (11, 1, .c (.int .i64 (65521)))], 0, none⟩, ⟨1, (some 4), .alloc (List.replicate 12 (.int .i64 (0))) 12, 0, none⟩, ⟨2, none, .store 12 (.t 4) (.t 7), 0, none⟩] [0, 2, 3, 4])
   (.seq
    (.reg false [⟨0, (some 9), .mv (.t 0), 0, none⟩, ⟨1, (some 10), .call 41 [.t 9], 2, none⟩, ⟨2, (some 8), .mv (.t 10), 0, none⟩, ⟨3, (some 11), .ext 0 (.t 8), 0, none⟩, ⟨4, (some 12), .ext 1 (.t 8), 0, none⟩, ⟨5, (some 5), .alloc [.int .i64 (0), .int .i64 (0), .int .i64 (0)] 3, 0, none⟩, ⟨6, none, .store 3 (.t 5) (.t 11), 0, none⟩, ⟨7, (some 6), .mv (.t 12), 0, none⟩] [0, 2, 3, 4, 5, 6])
    (.seq
     (.seq
      (.reg false [⟨0, (some 13), .mv (.t 6), 0, none⟩, ⟨1, (some 14), .un .not (.t 13), 0, none⟩] [0, 2, 3, 4, 5, 14])
      (.cond (.t 14)
       (.reg false [⟨0, (some 16), .mv (.t 0), 0, none⟩, ⟨1, (some 17), .cvt .u64 (.t 16), 0, none⟩, ⟨2, (some 18), .bin .rem (.t 17) (.c (.int .u64 (12))), 0, none⟩, ⟨3, (some 19), .iaddr (some 12) 1 (.t 4) (.t 18), 0, none⟩, ⟨4, (some 20), .load none (.t 19), 0, none⟩, ⟨5, (some 21), .call 41 [.t 20], 2, none⟩, ⟨6, (some 15), .mv (.t 21), 0, none⟩, ⟨7, (some 22), .ext 0 (.t 15), 0, none⟩, ⟨8, (some 23), .ext 1 (.t 15), 0, none⟩, ⟨9, none, .store 3 (.t 5) (.t 22), 0, none⟩] [2, 3, 5])
       (.skip)))
     (.seq
      (.reg true [⟨0, (some 24), .load (some 3) (.t 5), 0, none⟩, ⟨1, (some 25), .loadx (some 3) (.t 5) [2], 0, none⟩, ⟨2, none, .store 3 (.t 2) (.t 24), 0, none⟩, ⟨3, none, .store 3 (.t 3) (.t 25), 0, none⟩] [2, 3])
      (.ret)))))

theorem ok9 : okF Tryz.prog 9 1 c9 [.cell (some 3) 2, .cell (some 3) 3] = true := by kernel_rfl

/-- dauber/dauberlaw08.raw -/
def c10 : C :=
 .seq
  (.reg false [⟨0, (some 4), .mv (.c (.nils)), 0, none⟩] [0, 1])
  (.seq
   (.reg false [⟨0, (some 5), .nilo 1, 0, none⟩] [0, 1, 5])
   (.seq
    (.reg false [⟨0, (some 6), .mv (.t 5), 0, none⟩, ⟨1, (some 7), .mv (.t 0), 0, none⟩, ⟨2, (some 8), .mv (.t 0), 0, none⟩, ⟨3, (some 9), .len none (.t 8), 0, none⟩, ⟨4, (some 10), .mv (.t 1), 0, none⟩, ⟨5, (some 11), .mn [.t 9, .t 10], 0, none⟩, ⟨6, (some 12), .slc none 1 (.t 7) none (some (.t 11)) none, 0, none⟩, ⟨7, (some 13), .app 1 8 (.t 6) (.t 12), 0, none⟩, ⟨8, (some 4), .mv (.t 13), 0, none⟩] [4])
    (.ret)))

theorem ok10 : okF Tryz.prog 10 2 c10 [.tmp 4] = true := by kernel_rfl

/-- dauber/share.Recover -/
def c11 : C :=
 .seq
  (.reg false [⟨0, (some 3), .box 3 (.t 0), 0, none⟩, ⟨1, (some 4), .box 1 (.t 1), 0, none⟩, ⟨2, (some 6), .mv (.c (.int .i64 (0))), 0, none⟩, ⟨3, (some 7), .mv (.c (.int .i64 (0))), 0, none⟩] [2, 3, 4])
  (.seq
   (.seq
    (.reg false [⟨0, (some 17), .load (some 3) (.t 3), 0, none⟩, ⟨1, (some 18), .load none (.t 4), 0, none⟩, ⟨2, (some 19), .mv (.t 2), 0, none⟩, ⟨3, (some 20), .call 46 [.t 17, .t 18, .t 19], 2, none⟩, ⟨4, (some 8), .mv (.t 20), 0, none⟩] [2, 3, 4, 8])
    (.seq
     (.reg false [⟨0, (some 21), .mv (.t 8), 0, none⟩, ⟨1, (some 22), .bin .neq (.t 21) (.c (.int .i64 (0))), 0, none⟩] [2, 3, 4, 8, 22])
     (.cond (.t 22)
      (.seq
       (.reg false [⟨0, (some 23), .mv (.t 8), 0, none⟩, ⟨1, (some 6), .mv (.c (.int .i64 (0))), 0, none⟩, ⟨2, (some 7), .mv (.t 23), 0, none⟩] [6, 7])
       (.ret))
      (.skip))))
   (.seq
    (.reg false [⟨0, (some 24), .load (some 3) (.t 3), 0, none⟩, ⟨1, (some 25), .call 47 [.t 24], 2, none⟩, ⟨2, (some 9), .alloc [.int .i64 (0)] 1, 0, none⟩, ⟨3, none, .store 1 (.t 9) (.t 25), 0, none⟩] [2, 4, 9])
    (.seq
     (.reg false [⟨0, (some 10), .alloc [.int .i64 (0)] 1, 0, none⟩, ⟨1, none, .store 1 (.t 10) (.c (.int .i64 (0))), 0, none⟩] [2, 4, 9, 10])
     (.seq
      (.seq
       (.reg false [⟨0, (some 26), .load none (.t 4), 0, none⟩, ⟨1, (some 27), .mv (.t 2), 0, none⟩, ⟨2, (some 28), .call 48 [.t 26, .t 27], 2, none⟩] [4, 9, 10, 28])
       (.blk 0
        (.rf (.t 28) [29, 30]
         (.seq
          (.reg false [⟨0, (some 11), .mv (.t 29), 0, none⟩] [4, 9, 10, 11, 30])
          (.reg false [⟨0, (some 12), .mv (.t 30), 0, none⟩] [4, 9, 10, 11, 12]))
         (.blk 1
          (.seq
           (.reg false [⟨0, (some 31), .mv (.t 12), 0, none⟩, ⟨1, (some 13), .mv (.t 31), 0, none⟩, ⟨2, (some 14), .mv (.c (.int .i64 (1))), 0, none⟩] [4, 9, 10, 11, 13, 14])
           (.seq
            (.seq
             (.reg false [⟨0, (some 32), .load none (.t 4), 0, none⟩, ⟨1, (some 33), .len none (.t 32), 0, none⟩, ⟨2, (some 34), .mv (.c (.int .i64 (0))), 0, none⟩] [9, 10, 11, 13, 14, 32, 33, 34])
             (.blk 2
              (.loop [9, 10, 11, 13, 14, 32, 33, 34]
               (.seq
                (.reg false [⟨0, (some 35), .bin .lss (.t 34) (.t 33), 0, none⟩] [9, 10, 11, 13, 14, 32, 33, 34, 35])
                (.seq
                 (.cond (.t 35)
                  (.skip)
                  (.exit 2))
                 (.seq
                  (.blk 3
                   (.seq
                    (.reg false [⟨0, (some 36), .iaddr none 1 (.t 32) (.t 34), 0, none⟩, ⟨1, (some 37), .load none (.t 36), 0, none⟩, ⟨2, (some 16), .mv (.t 37), 0, none⟩] [9, 10, 11, 13, 14, 16, 32, 33, 34])
                    (.seq
                     (.reg false [⟨0, (some 38), .mv (.t 16), 0, none⟩, ⟨1, (some 39), .mv (.t 11), 0, none⟩, ⟨2, (some 40), .bin .neq (.t 38) (.t 39), 0, none⟩] [9, 10, 11, 13, 14, 16, 32, 33, 34, 40])
                     (.cond (.t 40)
                      (.reg true [⟨1, (some 42), .mv (.t 13), 0, none⟩, ⟨2, (some 43), .mv (.t 16), 0, none⟩, ⟨5, (some 46), .mv (.t 14), 0, none⟩, ⟨7, (some 48), .mv (.t 16), 0, none⟩, ⟨8, (some 49), .mv (.t 11), 0, none⟩, ⟨0, (some 41), .load none (.t 9), 0, none⟩, ⟨4, (some 45), .load none (.t 9), 0, none⟩, ⟨6, (some 47), .load none (.t 9), 0, none⟩, ⟨3, (some 44), .call 49 [.t 41, .t 42, .t 43], 1, none⟩, ⟨9, (some 50), .call 50 [.t 47, .t 48, .t 49], 1, none⟩, ⟨10, (some 51), .call 49 [.t 45, .t 46, .t 50], 1, none⟩, ⟨11, (some 13), .mv (.t 44), 0, none⟩, ⟨12, (some 14), .mv (.t 51), 0, none⟩] [9, 10, 11, 13, 14, 32, 33, 34])
                      (.skip)))))
                  (.reg false [⟨0, (some 52), .bin .add (.t 34) (.c (.int .i64 (1))), 0, none⟩, ⟨1, (some 34), .mv (.t 52), 0, none⟩] [9, 10, 11, 13, 14, 32, 33, 34])))))))
            (.reg true [⟨3, (some 56), .mv (.t 13), 0, none⟩, ⟨5, (some 58), .mv (.t 14), 0, none⟩, ⟨0, (some 53), .load none (.t 9), 0, none⟩, ⟨1, (some 54), .load none (.t 10), 0, none⟩, ⟨2, (some 55), .load none (.t 9), 0, none⟩, ⟨4, (some 57), .load none (.t 9), 0, none⟩, ⟨6, (some 59), .call 52 [.t 57, .t 58], 1, none⟩, ⟨7, (some 60), .call 49 [.t 55, .t 56, .t 59], 1, none⟩, ⟨8, (some 61), .call 51 [.t 53, .t 54, .t 60], 1, none⟩, ⟨9, none, .store 1 (.t 10) (.t 61), 0, none⟩] [])))))))
      (.seq
       (.reg false [⟨0, (some 62), .load none (.t 10), 0, none⟩, ⟨1, (some 6), .mv (.t 62), 0, none⟩, ⟨2, (some 7), .mv (.c (.int .i64 (0))), 0, none⟩] [6, 7])
       (.ret))))))

theorem ok11 : okF Tryz.prog 11 3 c11 [.tmp 6, .tmp 7] = true := by kernel_rfl

/-- dauber/share.Poly -/
def c12 : C :=
 .seq
  (.reg false [⟨0, (some 3), .box 3 (.t 0), 0, none⟩, ⟨1, (some 6), .mv (.c (.nils)), 0, none⟩, ⟨2, (some 7), .mv (.c (.int .i64 (0))), 0, none⟩] [1, 2, 3])
  (.seq
   (.seq
    (.reg false [⟨0, (some 12), .load (some 3) (.t 3), 0, none⟩, ⟨1, (some 13), .mv (.t 1), 0, none⟩, ⟨2, (some 14), .mv (.t 2), 0, none⟩, ⟨3, (some 15), .call 46 [.t 12, .t 13, .t 14], 2, none⟩, ⟨4, (some 8), .mv (.t 15), 0, none⟩] [1, 2, 3, 8])
    (.seq
     (.reg false [⟨0, (some 16), .mv (.t 8), 0, none⟩, ⟨1, (some 17), .bin .neq (.t 16) (.c (.int .i64 (0))), 0, none⟩] [1, 2, 3, 8, 17])
     (.cond (.t 17)
      (.seq
       (.reg false [⟨0, (some 18), .mv (.t 8), 0, none⟩, ⟨1, (some 6), .mv (.c (.nils)), 0, none⟩, ⟨2, (some 7), .mv (.t 18), 0, none⟩] [6, 7])
       (.ret))
      (.skip))))
   (.seq
    (.seq
     (.reg false [⟨0, (some 19), .mv (.t 1), 0, none⟩, ⟨1, (some 20), .len none (.t 19), 0, none⟩, ⟨2, (some 21), .bin .gtr (.t 20) (.c (.int .i64 (16))), 0, none⟩] [1, 2, 3, 21])
     (.cond (.t 21)
      (.seq
       (.reg false [⟨0, (some 6), .mv (.c (.nils)), 0, none⟩, ⟨1, (some 7), .mv (.c (.int .i64 (2))), 0, none⟩] [6, 7])
       (.ret))
      (.skip)))
    (.seq
     (.reg false [⟨0, (some 23), .faddr 1 (.t 3), 0, none⟩, ⟨1, (some 24), .load none (.t 23), 0, none⟩, ⟨2, (some 25), .call 53 [.t 24], 2, none⟩, ⟨3, (some 22), .mv (.t 25), 0, none⟩, ⟨4, (some 26), .ext 0 (.t 22), 0, none⟩, ⟨5, (some 27), .ext 1 (.t 22), 0, none⟩, ⟨6, (some 9), .mv (.t 26), 0, none⟩, ⟨7, (some 10), .mv (.t 27), 0, none⟩] [1, 2, 9, 10])
     (.seq
      (.seq
       (.reg false [⟨0, (some 28), .mv (.t 10), 0, none⟩, ⟨1, (some 29), .bin .neq (.t 28) (.c (.int .i64 (0))), 0, none⟩] [1, 2, 9, 10, 29])
       (.cond (.t 29)
        (.seq
         (.reg false [⟨0, (some 30), .mv (.t 10), 0, none⟩, ⟨1, (some 6), .mv (.c (.nils)), 0, none⟩, ⟨2, (some 7), .mv (.t 30), 0, none⟩] [6, 7])
         (.ret))
        (.skip)))
      (.seq
       (.reg false [⟨0, (some 32), .mv (.t 9), 0, none⟩, ⟨1, (some 33), .mv (.t 1), 0, none⟩, ⟨2, (some 34), .call 55 [.t 33], 2, none⟩, ⟨3, (some 35), .mv (.t 2), 0, none⟩, ⟨4, (some 36), .call 55 [.t 35], 2, none⟩, ⟨5, (some 37), .call 54 [.t 32, .t 34, .t 36], 2, none⟩, ⟨6, (some 31), .mv (.t 37), 0, none⟩, ⟨7, (some 38), .ext 0 (.t 31), 0, none⟩, ⟨8, (some 39), .ext 1 (.t 31), 0, none⟩, ⟨9, (some 11), .mv (.t 38), 0, none⟩, ⟨10, (some 10), .mv (.t 39), 0, none⟩] [1, 10, 11])
       (.seq
        (.seq
         (.reg false [⟨0, (some 40), .mv (.t 10), 0, none⟩, ⟨1, (some 41), .bin .neq (.t 40) (.c (.int .i64 (0))), 0, none⟩] [1, 10, 11, 41])
         (.cond (.t 41)
          (.seq
           (.reg false [⟨0, (some 42), .mv (.t 10), 0, none⟩, ⟨1, (some 6), .mv (.c (.nils)), 0, none⟩, ⟨2, (some 7), .mv (.t 42), 0, none⟩] [6, 7])
           (.ret))
          (.skip)))
        (.seq
         (.reg false [⟨0, (some 43), .mv (.t 11), 0, none⟩, ⟨1, (some 44), .call 56 [.t 43], 2, none⟩, ⟨2, (some 45), .mv (.t 1), 0, none⟩, ⟨3, (some 46), .len none (.t 45), 0, none⟩, ⟨4, (some 47), .mv (.t 11), 0, none⟩, ⟨5, (some 48), .len none (.t 47), 0, none⟩, ⟨6, (some 49), .bin .sub (.t 46) (.t 48), 0, none⟩, ⟨7, (some 50), .appz 1 8 [.int .i64 (0)] (.t 44) (.t 49), 0, none⟩, ⟨8, (some 6), .mv (.t 50), 0, none⟩, ⟨9, (some 7), .mv (.c (.int .i64 (0))), 0, none⟩] [6, 7])
         (.ret))))))))

theorem ok12 : okF Tryz.prog 12 3 c12 [.tmp 6, .tmp 7] = true := by kernel_rfl

/-- dauber/dauberref08.Pairs -/
def c13 : C :=
 .seq
  (.reg false [⟨0, (some 3), .box 3 (.t 0), 0, none⟩, ⟨1, (some 6), .mv (.c (.int .i64 (0))), 0, none⟩] [1, 2, 3])
  (.seq
   (.seq
    (.reg false [⟨0, (some 10), .mv (.t 1), 0, none⟩, ⟨1, (some 11), .len none (.t 10), 0, none⟩, ⟨2, (some 12), .mv (.t 2), 0, none⟩, ⟨3, (some 13), .len none (.t 12), 0, none⟩, ⟨4, (some 14), .bin .neq (.t 11) (.t 13), 0, none⟩] [1, 2, 3, 14])
    (.cond (.t 14)
     (.seq
      (.reg false [⟨0, (some 6), .mv (.c (.int .i64 (7))), 0, none⟩] [6])
      (.ret))
     (.skip)))
   (.seq
    (.seq
     (.reg false [⟨0, (some 15), .mv (.t 1), 0, none⟩, ⟨1, (some 16), .len none (.t 15), 0, none⟩, ⟨2, (some 17), .bin .lss (.t 16) (.c (.int .i64 (1))), 0, none⟩, ⟨3, (some 18), .mv (.t 17), 0, none⟩, ⟨4, (some 19), .mv (.t 1), 0, (some (18, false))⟩, ⟨5, (some 20), .len none (.t 19), 0, (some (18, false))⟩, ⟨6, (some 21), .bin .gtr (.t 20) (.c (.int .i64 (64))), 0, (some (18, false))⟩, ⟨7, (some 22), .pick (.t 18) (.c (.bool true)) (.t 21), 0, none⟩] [1, 2, 3, 22])
     (.cond (.t 22)
      (.seq
       (.reg false [⟨0, (some 6), .mv (.c (.int .i64 (2))), 0, none⟩] [6])
       (.ret))
      (.skip)))
    (.seq
     (.seq
      (.reg false [⟨0, (some 7), .mv (.c (.int .i64 (0))), 0, none⟩] [1, 2, 3, 7])
      (.blk 0
       (.loop [1, 2, 3, 7]
        (.seq
         (.seq
          (.reg false [⟨0, (some 23), .mv (.t 7), 0, none⟩, ⟨1, (some 24), .mv (.t 1), 0, none⟩, ⟨2, (some 25), .len none (.t 24), 0, none⟩, ⟨3, (some 26), .bin .lss (.t 23) (.t 25), 0, none⟩] [1, 2, 3, 7, 26])
          (.cond (.t 26)
           (.skip)
           (.exit 0)))
         (.seq
          (.blk 1
           (.seq
            (.reg true [⟨0, (some 29), .mv (.t 1), 0, none⟩, ⟨1, (some 30), .mv (.t 7), 0, none⟩, ⟨2, (some 31), .iaddr none 1 (.t 29) (.t 30), 0, none⟩, ⟨3, (some 32), .load none (.t 31), 0, none⟩, ⟨4, (some 33), .bin .lss (.t 32) (.c (.int .i64 (1))), 0, none⟩, ⟨5, (some 34), .mv (.t 33), 0, none⟩, ⟨6, (some 35), .mv (.t 1), 0, (some (34, false))⟩, ⟨7, (some 36), .mv (.t 7), 0, (some (34, false))⟩, ⟨8, (some 37), .iaddr none 1 (.t 35) (.t 36), 0, (some (34, false))⟩, ⟨10, (some 39), .faddr 1 (.t 3), 0, (some (34, false))⟩, ⟨9, (some 38), .load none (.t 37), 0, (some (34, false))⟩, ⟨11, (some 40), .load none (.t 39), 0, (some (34, false))⟩, ⟨12, (some 41), .bin .geq (.t 38) (.t 40), 0, (some (34, false))⟩, ⟨13, (some 42), .pick (.t 34) (.c (.bool true)) (.t 41), 0, none⟩, ⟨14, (some 43), .mv (.t 42), 0, none⟩, ⟨16, (some 45), .mv (.t 2), 0, (some (43, false))⟩, ⟨17, (some 46), .mv (.t 7), 0, (some (43, false))⟩, ⟨18, (some 47), .iaddr none 1 (.t 45) (.t 46), 0, (some (43, false))⟩, ⟨15, (some 44), .load (some 3) (.t 3), 0, (some (43, false))⟩, ⟨19, (some 48), .load none (.t 47), 0, (some (43, false))⟩, ⟨20, (some 49), .call 29 [.t 44, .t 48], 2, (some (43, false))⟩, ⟨21, (some 50), .un .not (.t 49), 0, (some (43, false))⟩, ⟨22, (some 51), .pick (.t 43) (.c (.bool true)) (.t 50), 0, none⟩] [1, 2, 3, 7, 51])
            (.cond (.t 51)
             (.seq
              (.reg false [⟨0, (some 6), .mv (.c (.int .i64 (1))), 0, none⟩] [6])
              (.ret))
             (.skip))))
          (.reg false [⟨0, (some 27), .mv (.t 7), 0, none⟩, ⟨1, (some 28), .bin .add (.t 27) (.c (.int .i64 (1))), 0, none⟩, ⟨2, (some 7), .mv (.t 28), 0, none⟩] [1, 2, 3, 7]))))))
     (.seq
      (.seq
       (.reg false [⟨0, (some 8), .mv (.c (.int .i64 (0))), 0, none⟩] [1, 8])
       (.blk 2
        (.loop [1, 8]
         (.seq
          (.seq
           (.reg false [⟨0, (some 52), .mv (.t 8), 0, none⟩, ⟨1, (some 53), .mv (.t 1), 0, none⟩, ⟨2, (some 54), .len none (.t 53), 0, none⟩, ⟨3, (some 55), .bin .lss (.t 52) (.t 54), 0, none⟩] [1, 8, 55])
           (.cond (.t 55)
            (.skip)
            (.exit 2)))
          (.seq
           (.blk 3
            (.seq
             (.reg false [⟨0, (some 9), .mv (.c (.int .i64 (0))), 0, none⟩] [1, 8, 9])
             (.blk 4
              (.loop [1, 8, 9]
               (.seq
                (.seq
                 (.reg false [⟨0, (some 58), .mv (.t 9), 0, none⟩, ⟨1, (some 59), .mv (.t 8), 0, none⟩, ⟨2, (some 60), .bin .lss (.t 58) (.t 59), 0, none⟩] [1, 8, 9, 60])
                 (.cond (.t 60)
                  (.skip)
                  (.exit 4)))
                (.seq
                 (.blk 5
                  (.seq
                   (.reg true [⟨0, (some 63), .mv (.t 1), 0, none⟩, ⟨1, (some 64), .mv (.t 8), 0, none⟩, ⟨2, (some 65), .iaddr none 1 (.t 63) (.t 64), 0, none⟩, ⟨4, (some 67), .mv (.t 1), 0, none⟩, ⟨5, (some 68), .mv (.t 9), 0, none⟩, ⟨6, (some 69), .iaddr none 1 (.t 67) (.t 68), 0, none⟩, ⟨3, (some 66), .load none (.t 65), 0, none⟩, ⟨7, (some 70), .load none (.t 69), 0, none⟩, ⟨8, (some 71), .bin .eql (.t 66) (.t 70), 0, none⟩] [1, 8, 9, 71])
                   (.cond (.t 71)
                    (.seq
                     (.reg false [⟨0, (some 6), .mv (.c (.int .i64 (81))), 0, none⟩] [6])
                     (.ret))
                    (.skip))))
                 (.reg false [⟨0, (some 61), .mv (.t 9), 0, none⟩, ⟨1, (some 62), .bin .add (.t 61) (.c (.int .i64 (1))), 0, none⟩, ⟨2, (some 9), .mv (.t 62), 0, none⟩] [1, 8, 9])))))))
           (.reg false [⟨0, (some 56), .mv (.t 8), 0, none⟩, ⟨1, (some 57), .bin .add (.t 56) (.c (.int .i64 (1))), 0, none⟩, ⟨2, (some 8), .mv (.t 57), 0, none⟩] [1, 8]))))))
      (.seq
       (.reg false [⟨0, (some 6), .mv (.c (.int .i64 (0))), 0, none⟩] [6])
       (.ret))))))

theorem ok13 : okF Tryz.prog 13 3 c13 [.tmp 6] = true := by kernel_rfl

/-- dauber/dauberref08.Through -/
def c14 : C :=
 .seq
  (.reg false [⟨0, (some 3), .box 3 (.t 0), 0, none⟩, ⟨1, (some 6), .mv (.c (.nils)), 0, none⟩] [1, 2, 3])
  (.seq
   (.reg false [⟨0, (some 13), .faddr 1 (.t 3), 0, none⟩, ⟨1, (some 14), .load none (.t 13), 0, none⟩, ⟨2, (some 15), .call 57 [.t 14], 2, none⟩, ⟨3, (some 12), .mv (.t 15), 0, none⟩, ⟨4, (some 16), .ext 0 (.t 12), 0, none⟩, ⟨5, (some 17), .ext 1 (.t 12), 0, none⟩, ⟨6, (some 7), .alloc [.int .i64 (0), .int .i64 (0), .int .i64 (0), .int .i64 (0)] 4, 0, none⟩, ⟨7, none, .store 4 (.t 7) (.t 16), 0, none⟩, ⟨8, (some 8), .mv (.t 17), 0, none⟩] [1, 2, 7])
   (.seq
    (.reg true [⟨1, (some 19), .mv (.t 1), 0, none⟩, ⟨3, (some 21), .mv (.t 2), 0, none⟩, ⟨0, (some 18), .load (some 4) (.t 7), 0, none⟩, ⟨2, (some 20), .call 59 [.t 19], 1, none⟩, ⟨4, (some 22), .call 59 [.t 21], 1, none⟩, ⟨5, (some 23), .call 58 [.t 18, .t 20, .t 22], 1, none⟩, ⟨6, (some 9), .mv (.t 23), 0, none⟩] [1, 9])
    (.seq
     (.reg false [⟨0, (some 24), .mv (.t 1), 0, none⟩, ⟨1, (some 25), .len none (.t 24), 0, none⟩, ⟨2, (some 26), .mksl 1 8 [.int .i64 (0)] (.t 25) (.t 25), 0, none⟩, ⟨3, (some 10), .mv (.t 26), 0, none⟩] [9, 10])
     (.seq
      (.seq
       (.reg false [⟨0, (some 11), .mv (.c (.int .i64 (0))), 0, none⟩] [9, 10, 11])
       (.blk 0
        (.loop [9, 10, 11]
         (.seq
          (.seq
           (.reg false [⟨0, (some 27), .mv (.t 11), 0, none⟩, ⟨1, (some 28), .mv (.t 9), 0, none⟩, ⟨2, (some 29), .len none (.t 28), 0, none⟩, ⟨3, (some 30), .bin .lss (.t 27) (.t 29), 0, none⟩] [9, 10, 11, 30])
           (.cond (.t 30)
            (.skip)
            (.exit 0)))
          (.seq
           (.blk 1
            (.reg false [⟨0, (some 33), .mv (.t 10), 0, none⟩, ⟨1, (some 34), .mv (.t 11), 0, none⟩, ⟨2, (some 35), .mv (.t 9), 0, none⟩, ⟨3, (some 36), .mv (.t 11), 0, none⟩, ⟨4, (some 37), .iaddr none 1 (.t 35) (.t 36), 0, none⟩, ⟨5, (some 38), .load none (.t 37), 0, none⟩, ⟨6, (some 39), .iaddr none 1 (.t 33) (.t 34), 0, none⟩, ⟨7, none, .store 1 (.t 39) (.t 38), 0, none⟩] [9, 10, 11]))
           (.reg false [⟨0, (some 31), .mv (.t 11), 0, none⟩, ⟨1, (some 32), .bin .add (.t 31) (.c (.int .i64 (1))), 0, none⟩, ⟨2, (some 11), .mv (.t 32), 0, none⟩] [9, 10, 11]))))))
      (.seq
       (.reg false [⟨0, (some 40), .mv (.t 10), 0, none⟩, ⟨1, (some 6), .mv (.t 40), 0, none⟩] [6])
       (.ret))))))

theorem ok14 : okF Tryz.prog 14 3 c14 [.tmp 6] = true := by kernel_rfl

/-- dauber/dauberlaw08.same -/
def c15 : C :=
 .seq
  (.reg false [⟨0, (some 4), .mv (.c (.bool false)), 0, none⟩] [0, 1])
  (.seq
   (.seq
    (.reg false [⟨0, (some 6), .mv (.t 0), 0, none⟩, ⟨1, (some 7), .len none (.t 6), 0, none⟩, ⟨2, (some 8), .mv (.t 1), 0, none⟩, ⟨3, (some 9), .len none (.t 8), 0, none⟩, ⟨4, (some 10), .bin .neq (.t 7) (.t 9), 0, none⟩] [0, 1, 10])
    (.cond (.t 10)
     (.seq
      (.reg false [⟨0, (some 4), .mv (.c (.bool false)), 0, none⟩] [4])
      (.ret))
     (.skip)))
   (.seq
    (.seq
     (.reg false [⟨0, (some 5), .mv (.c (.int .i64 (0))), 0, none⟩] [0, 1, 5])
     (.blk 0
      (.loop [0, 1, 5]
       (.seq
        (.seq
         (.reg false [⟨0, (some 11), .mv (.t 5), 0, none⟩, ⟨1, (some 12), .mv (.t 0), 0, none⟩, ⟨2, (some 13), .len none (.t 12), 0, none⟩, ⟨3, (some 14), .bin .lss (.t 11) (.t 13), 0, none⟩] [0, 1, 5, 14])
         (.cond (.t 14)
          (.skip)
          (.exit 0)))
        (.seq
         (.blk 1
          (.seq
           (.reg true [⟨0, (some 17), .mv (.t 0), 0, none⟩, ⟨1, (some 18), .mv (.t 5), 0, none⟩, ⟨2, (some 19), .iaddr none 1 (.t 17) (.t 18), 0, none⟩, ⟨4, (some 21), .mv (.t 1), 0, none⟩, ⟨5, (some 22), .mv (.t 5), 0, none⟩, ⟨6, (some 23), .iaddr none 1 (.t 21) (.t 22), 0, none⟩, ⟨3, (some 20), .load none (.t 19), 0, none⟩, ⟨7, (some 24), .load none (.t 23), 0, none⟩, ⟨8, (some 25), .bin .neq (.t 20) (.t 24), 0, none⟩] [0, 1, 5, 25])
           (.cond (.t 25)
            (.seq
             (.reg false [⟨0, (some 4), .mv (.c (.bool false)), 0, none⟩] [4])
             (.ret))
            (.skip))))
         (.reg false [⟨0, (some 15), .mv (.t 5), 0, none⟩, ⟨1, (some 16), .bin .add (.t 15) (.c (.int .i64 (1))), 0, none⟩, ⟨2, (some 5), .mv (.t 16), 0, none⟩] [0, 1, 5]))))))
    (.seq
     (.reg false [⟨0, (some 4), .mv (.c (.bool true)), 0, none⟩] [4])
     (.ret))))

theorem ok15 : okF Tryz.prog 15 2 c15 [.tmp 4] = true := by kernel_rfl

/-- dauber/dauberlaw08.places -/
def c16 : C :=
 .seq
  (.reg false [⟨0, (some 3), .box 3 (.t 0), 0, none⟩, ⟨1, (some 6), .mv (.c (.nils)), 0, none⟩] [1, 2, 3])
  (.seq
   (.reg false [⟨0, (some 7), .nilo 1, 0, none⟩] [1, 2, 3, 7])
   (.seq
    (.seq
     (.reg false [⟨0, (some 8), .mv (.c (.int .i64 (0))), 0, none⟩] [1, 2, 3, 7, 8])
     (.blk 0
      (.loop [1, 2, 3, 7, 8]
       (.seq
        (.seq
         (.reg false [⟨0, (some 12), .mv (.t 8), 0, none⟩, ⟨1, (some 13), .mv (.t 1), 0, none⟩, ⟨2, (some 14), .len none (.t 13), 0, none⟩, ⟨3, (some 15), .bin .lss (.t 12) (.t 14), 0, none⟩, ⟨4, (some 16), .mv (.t 15), 0, none⟩, ⟨5, (some 17), .mv (.t 7), 0, (some (16, true))⟩, ⟨6, (some 18), .len none (.t 17), 0, (some (16, true))⟩, ⟨7, (some 19), .mv (.t 2), 0, (some (16, true))⟩, ⟨8, (some 20), .bin .lss (.t 18) (.t 19), 0, (some (16, true))⟩, ⟨9, (some 21), .pick (.t 16) (.t 20) (.c (.bool false)), 0, none⟩] [1, 2, 3, 7, 8, 21])
         (.cond (.t 21)
          (.skip)
          (.exit 0)))
        (.seq
         (.blk 1
          (.seq
           (.reg true [⟨0, (some 24), .mv (.t 1), 0, none⟩, ⟨1, (some 25), .mv (.t 8), 0, none⟩, ⟨2, (some 26), .iaddr none 1 (.t 24) (.t 25), 0, none⟩, ⟨5, (some 29), .faddr 1 (.t 3), 0, none⟩, ⟨3, (some 27), .load none (.t 26), 0, none⟩, ⟨4, (some 28), .cvt .u64 (.t 27), 0, none⟩, ⟨6, (some 30), .load none (.t 29), 0, none⟩, ⟨7, (some 31), .bin .sub (.t 30) (.c (.int .i64 (1))), 0, none⟩, ⟨8, (some 32), .cvt .u64 (.t 31), 0, none⟩, ⟨9, (some 33), .bin .rem (.t 28) (.t 32), 0, none⟩, ⟨10, (some 34), .cvt .i64 (.t 33), 0, none⟩, ⟨11, (some 35), .bin .add (.c (.int .i64 (1))) (.t 34), 0, none⟩, ⟨12, (some 9), .mv (.t 35), 0, none⟩] [1, 2, 3, 7, 8, 9])
           (.seq
            (.reg false [⟨0, (some 10), .mv (.c (.bool true)), 0, none⟩] [1, 2, 3, 7, 8, 9, 10])
            (.seq
             (.seq
              (.reg false [⟨0, (some 11), .mv (.c (.int .i64 (0))), 0, none⟩] [1, 2, 3, 7, 8, 9, 10, 11])
              (.blk 2
               (.loop [1, 2, 3, 7, 8, 9, 10, 11]
                (.seq
                 (.seq
                  (.reg false [⟨0, (some 36), .mv (.t 11), 0, none⟩, ⟨1, (some 37), .mv (.t 7), 0, none⟩, ⟨2, (some 38), .len none (.t 37), 0, none⟩, ⟨3, (some 39), .bin .lss (.t 36) (.t 38), 0, none⟩] [1, 2, 3, 7, 8, 9, 10, 11, 39])
                  (.cond (.t 39)
                   (.skip)
                   (.exit 2)))
                 (.seq
                  (.blk 3
                   (.reg false [⟨0, (some 42), .mv (.t 10), 0, none⟩, ⟨1, (some 43), .mv (.t 42), 0, none⟩, ⟨2, (some 44), .mv (.t 7), 0, (some (43, true))⟩, ⟨3, (some 45), .mv (.t 11), 0, (some (43, true))⟩, ⟨4, (some 46), .iaddr none 1 (.t 44) (.t 45), 0, (some (43, true))⟩, ⟨5, (some 47), .load none (.t 46), 0, (some (43, true))⟩, ⟨6, (some 48), .mv (.t 9), 0, (some (43, true))⟩, ⟨7, (some 49), .bin .neq (.t 47) (.t 48), 0, (some (43, true))⟩, ⟨8, (some 50), .pick (.t 43) (.t 49) (.c (.bool false)), 0, none⟩, ⟨9, (some 10), .mv (.t 50), 0, none⟩] [1, 2, 3, 7, 8, 9, 10, 11]))
                  (.reg false [⟨0, (some 40), .mv (.t 11), 0, none⟩, ⟨1, (some 41), .bin .add (.t 40) (.c (.int .i64 (1))), 0, none⟩, ⟨2, (some 11), .mv (.t 41), 0, none⟩] [1, 2, 3, 7, 8, 9, 10, 11]))))))
             (.seq
              (.reg false [⟨0, (some 51), .mv (.t 10), 0, none⟩] [1, 2, 3, 7, 8, 9, 51])
              (.cond (.t 51)
               (.reg false [⟨0, (some 52), .mv (.t 7), 0, none⟩, ⟨1, (some 53), .mv (.t 9), 0, none⟩, ⟨2, (some 54), .bsl 1 1 [.int .i64 (0)] [(0, 1, .t 53)], 0, none⟩, ⟨3, (some 55), .app 1 8 (.t 52) (.t 54), 0, none⟩, ⟨4, (some 7), .mv (.t 55), 0, none⟩] [1, 2, 3, 7, 8])
               (.skip)))))))
         (.reg false [⟨0, (some 22), .mv (.t 8), 0, none⟩, ⟨1, (some 23), .bin .add (.t 22) (.c (.int .i64 (1))), 0, none⟩, ⟨2, (some 8), .mv (.t 23), 0, none⟩] [1, 2, 3, 7, 8]))))))
    (.seq
     (.seq
      (.reg false [⟨0, (some 56), .mv (.t 7), 0, none⟩, ⟨1, (some 57), .len none (.t 56), 0, none⟩, ⟨2, (some 58), .bin .eql (.t 57) (.c (.int .i64 (0))), 0, none⟩] [7, 58])
      (.cond (.t 58)
       (.reg false [⟨0, (some 59), .bsl 1 1 [.int .i64 (0)] [(0, 1, .c (.int .i64 (1)))], 0, none⟩, ⟨1, (some 7), .mv (.t 59), 0, none⟩] [7])
       (.skip)))
     (.seq
      (.reg false [⟨0, (some 60), .mv (.t 7), 0, none⟩, ⟨1, (some 6), .mv (.t 60), 0, none⟩] [6])
      (.ret)))))

theorem ok16 : okF Tryz.prog 16 3 c16 [.tmp 6] = true := by kernel_rfl

/-- dauber/dauberlaw08.numbers -/
def c17 : C :=
 .seq
  (.reg false [⟨0, (some 3), .box 3 (.t 0), 0, none⟩, ⟨1, (some 6), .mv (.c (.nils)), 0, none⟩] [1, 2, 3])
  (.seq
   (.reg false [⟨0, (some 7), .nilo 1, 0, none⟩] [1, 2, 3, 7])
   (.seq
    (.seq
     (.reg false [⟨0, (some 8), .mv (.c (.int .i64 (0))), 0, none⟩] [1, 2, 3, 7, 8])
     (.blk 0
      (.loop [1, 2, 3, 7, 8]
       (.seq
        (.seq
         (.reg false [⟨0, (some 10), .mv (.t 8), 0, none⟩, ⟨1, (some 11), .mv (.t 2), 0, none⟩, ⟨2, (some 12), .bin .lss (.t 10) (.t 11), 0, none⟩] [1, 2, 3, 7, 8, 12])
         (.cond (.t 12)
          (.skip)
          (.exit 0)))
        (.seq
         (.blk 1
          (.seq
           (.reg false [⟨0, (some 15), .mv (.t 8), 0, none⟩, ⟨1, (some 9), .mv (.t 15), 0, none⟩] [1, 2, 3, 7, 8, 9])
           (.seq
            (.seq
             (.reg false [⟨0, (some 16), .mv (.t 8), 0, none⟩, ⟨1, (some 17), .mv (.t 1), 0, none⟩, ⟨2, (some 18), .len none (.t 17), 0, none⟩, ⟨3, (some 19), .bin .lss (.t 16) (.t 18), 0, none⟩] [1, 2, 3, 7, 8, 9, 19])
             (.cond (.t 19)
              (.reg true [⟨0, (some 20), .mv (.t 1), 0, none⟩, ⟨1, (some 21), .mv (.t 8), 0, none⟩, ⟨2, (some 22), .iaddr none 1 (.t 20) (.t 21), 0, none⟩, ⟨5, (some 25), .faddr 1 (.t 3), 0, none⟩, ⟨3, (some 23), .load none (.t 22), 0, none⟩, ⟨4, (some 24), .cvt .u64 (.t 23), 0, none⟩, ⟨6, (some 26), .load none (.t 25), 0, none⟩, ⟨7, (some 27), .cvt .u64 (.t 26), 0, none⟩, ⟨8, (some 28), .bin .rem (.t 24) (.t 27), 0, none⟩, ⟨9, (some 29), .cvt .i64 (.t 28), 0, none⟩, ⟨10, (some 9), .mv (.t 29), 0, none⟩] [1, 2, 3, 7, 8, 9])
              (.skip)))
            (.reg false [⟨0, (some 30), .mv (.t 7), 0, none⟩, ⟨1, (some 31), .mv (.t 9), 0, none⟩, ⟨2, (some 32), .faddr 1 (.t 3), 0, none⟩, ⟨3, (some 33), .load none (.t 32), 0, none⟩, ⟨4, (some 34), .bin .rem (.t 31) (.t 33), 0, none⟩, ⟨5, (some 35), .bsl 1 1 [.int .i64 (0)] [(0, 1, .t 34)], 0, none⟩, ⟨6, (some 36), .app 1 8 (.t 30) (.t 35), 0, none⟩, ⟨7, (some 7), .mv (.t 36), 0, none⟩] [1, 2, 3, 7, 8]))))
         (.reg false [⟨0, (some 13), .mv (.t 8), 0, none⟩, ⟨1, (some 14), .bin .add (.t 13) (.c (.int .i64 (1))), 0, none⟩, ⟨2, (some 8), .mv (.t 14), 0, none⟩] [1, 2, 3, 7, 8]))))))
    (.seq
     (.reg false [⟨0, (some 37), .mv (.t 7), 0, none⟩, ⟨1, (some 6), .mv (.t 37), 0, none⟩] [6])
     (.ret))))

theorem ok17 : okF Tryz.prog 17 3 c17 [.tmp 6] = true := by kernel_rfl

/-- dauber/dauberlaw08.awake -/
def c18 : C :=
 .seq
  (.reg false [⟨0, (some 0), .mv (.c (.bool false)), 0, none⟩] [])
  (.seq
   (.reg false [⟨0, (some 9), .call 40 [.c (.int .i64 (11))], 2, none⟩, ⟨1, (some 8), .mv (.t 9), 0, none⟩, ⟨2, (some 10), .ext 0 (.t 8), 0, none⟩, ⟨3, (some 11), .ext 1 (.t 8), 0, none⟩, ⟨4, (some 1), .alloc [.int .i64 (0), .int .i64 (0), .int .i64 (0)] 3, 0, none⟩, ⟨5, none, .store 3 (.t 1) (.t 10), 0, none⟩, ⟨6, (some 2), .mv (.t 11), 0, none⟩] [1, 2])
   (.seq
    (.reg false [⟨0, (some 13), .load (some 3) (.t 1), 0, none⟩, ⟨1, (some 14), .bsl 1 2 [.int .i64 (0), .int .i64 (0)] [(0, 1, .c (.int .i64 (7))), (1, 1, .c (.int .i64 (3)))], 0, none⟩, ⟨2, (some 15), .call 19 [.t 13, .t 14, .c (.int .i64 (3))], 2, none⟩, ⟨3, (some 12), .mv (.t 15), 0, none⟩, ⟨4, (some 16), .ext 0 (.t 12), 0, none⟩, ⟨5, (some 17), .ext 1 (.t 12), 0, none⟩, ⟨6, (some 3), .mv (.t 16), 0, none⟩, ⟨7, (some 4), .mv (.t 17), 0, none⟩] [1, 2, 3, 4])
    (.seq
     (.reg false [⟨0, (some 19), .load (some 3) (.t 1), 0, none⟩, ⟨1, (some 20), .bsl 1 4 [.int .i64 (0), .int .i64 (0), .int .i64 (0), .int .i64 (0)] [(0, 1, .c (.int .i64 (1))), (1, 1, .c (.int .i64 (2))), (2, 1, .c (.int .i64 (3))), (3, 1, .c (.int .i64 (4)))], 0, none⟩, ⟨2, (some 21), .bsl 1 4 [.int .i64 (0), .int .i64 (0), .int .i64 (0), .int .i64 (0)] [(0, 1, .c (.int .i64 (10))), (1, 1, .c (.int .i64 (2))), (2, 1, .c (.int .i64 (5))), (3, 1, .c (.int .i64 (0)))], 0, none⟩, ⟨3, (some 22), .call 44 [.t 19, .c (.int .i64 (1)), .t 20, .t 21], 2, none⟩, ⟨4, (some 18), .mv (.t 22), 0, none⟩, ⟨5, (some 23), .ext 0 (.t 18), 0, none⟩, ⟨6, (some 24), .ext 1 (.t 18), 0, none⟩, ⟨7, (some 25), .ext 2 (.t 18), 0, none⟩, ⟨8, (some 5), .mv (.t 23), 0, none⟩, ⟨9, (some 6), .mv (.t 24), 0, none⟩, ⟨10, (some 7), .mv (.t 25), 0, none⟩] [1, 2, 3, 4, 5, 6, 7])
     (.seq
      (.reg false [⟨0, (some 26), .mv (.t 2), 0, none⟩, ⟨1, (some 27), .bin .eql (.t 26) (.c (.int .i64 (0))), 0, none⟩, ⟨2, (some 28), .mv (.t 27), 0, none⟩, ⟨3, (some 29), .mv (.t 4), 0, (some (28, true))⟩, ⟨4, (some 30), .bin .eql (.t 29) (.c (.int .i64 (0))), 0, (some (28, true))⟩, ⟨5, (some 31), .pick (.t 28) (.t 30) (.c (.bool false)), 0, none⟩, ⟨6, (some 32), .mv (.t 31), 0, none⟩, ⟨7, (some 33), .mv (.t 7), 0, (some (32, true))⟩, ⟨8, (some 34), .bin .eql (.t 33) (.c (.int .i64 (0))), 0, (some (32, true))⟩, ⟨9, (some 35), .pick (.t 32) (.t 34) (.c (.bool false)), 0, none⟩, ⟨10, (some 36), .mv (.t 35), 0, none⟩, ⟨11, (some 37), .faddr 0 (.t 1), 0, (some (36, true))⟩, ⟨12, (some 38), .load none (.t 37), 0, (some (36, true))⟩, ⟨13, (some 39), .bin .eql (.t 38) (.c (.int .i64 (23))), 0, (some (36, true))⟩, ⟨14, (some 40), .pick (.t 36) (.t 39) (.c (.bool false)), 0, none⟩, ⟨15, (some 41), .mv (.t 40), 0, none⟩, ⟨16, (some 42), .mv (.t 3), 0, (some (41, true))⟩, ⟨17, (some 43), .len none (.t 42), 0, (some (41, true))⟩, ⟨18, (some 44), .bin .eql (.t 43) (.c (.int .i64 (3))), 0, (some (41, true))⟩, ⟨19, (some 45), .pick (.t 41) (.t 44) (.c (.bool false)), 0, none⟩, ⟨20, (some 46), .mv (.t 45), 0, none⟩, ⟨21, (some 47), .mv (.t 3), 0, (some (46, true))⟩, ⟨22, (some 48), .iaddr none 1 (.t 47) (.c (.int .i64 (0))), 0, (some (46, true))⟩, ⟨23, (some 49), .load none (.t 48), 0, (some (46, true))⟩, ⟨24, (some 50), .bin .eql (.t 49) (.c (.int .i64 (10))), 0, (some (46, true))⟩, ⟨25, (some 51), .pick (.t 46) (.t 50) (.c (.bool false)), 0, none⟩, ⟨26, (some 52), .mv (.t 51), 0, none⟩, ⟨27, (some 53), .mv (.t 5), 0, (some (52, true))⟩, ⟨28, (some 54), .bin .eql (.t 53) (.c (.int .i64 (7))), 0, (some (52, true))⟩, ⟨29, (some 55), .pick (.t 52) (.t 54) (.c (.bool false)), 0, none⟩, ⟨30, (some 56), .mv (.t 55), 0, none⟩, ⟨31, (some 57), .mv (.t 6), 0, (some (56, true))⟩, ⟨32, (some 58), .len none (.t 57), 0, (some (56, true))⟩, ⟨33, (some 59), .bin .eql (.t 58) (.c (.int .i64 (1))), 0, (some (56, true))⟩, ⟨34, (some 60), .pick (.t 56) (.t 59) (.c (.bool false)), 0, none⟩, ⟨35, (some 61), .mv (.t 60), 0, none⟩, ⟨36, (some 62), .mv (.t 6), 0, (some (61, true))⟩, ⟨37, (some 63), .iaddr none 1 (.t 62) (.c (.int .i64 (0))), 0, (some (61, true))⟩, ⟨38, (some 64), .load none (.t 63), 0, (some (61, true))⟩, ⟨39, (some 65), .bin .eql (.t 64) (.c (.int .i64 (3))), 0, (some (61, true))⟩, ⟨40, (some 66), .pick (.t 61) (.t 65) (.c (.bool false)), 0, none⟩, ⟨41, (some 0), .mv (.t 66), 0, none⟩] [0])
      (.ret)))))

theorem ok18 : okF Tryz.prog 18 0 c18 [.tmp 0] = true := by kernel_rfl

/-- dauber/share.Shares -/
def c19 : C :=
 .seq
  (.reg false [⟨0, (some 3), .box 3 (.t 0), 0, none⟩, ⟨1, (some 6), .mv (.c (.nils)), 0, none⟩, ⟨2, (some 7), .mv (.c (.int .i64 (0))), 0, none⟩] [1, 2, 3])
  (.seq
   (.seq
    (.reg false [⟨0, (some 11), .load (some 3) (.t 3), 0, none⟩, ⟨1, (some 12), .mv (.t 1), 0, none⟩, ⟨2, (some 13), .call 60 [.t 11, .t 12], 2, none⟩, ⟨3, (some 8), .mv (.t 13), 0, none⟩] [1, 2, 3, 8])
    (.seq
     (.reg false [⟨0, (some 14), .mv (.t 8), 0, none⟩, ⟨1, (some 15), .bin .neq (.t 14) (.c (.int .i64 (0))), 0, none⟩] [1, 2, 3, 8, 15])
     (.cond (.t 15)
      (.seq
       (.reg false [⟨0, (some 16), .mv (.t 8), 0, none⟩, ⟨1, (some 6), .mv (.c (.nils)), 0, none⟩, ⟨2, (some 7), .mv (.t 16), 0, none⟩] [6, 7])
       (.ret))
      (.skip))))
   (.seq
    (.seq
     (.reg false [⟨0, (some 17), .mv (.t 2), 0, none⟩, ⟨1, (some 18), .bin .lss (.t 17) (.c (.int .i64 (1))), 0, none⟩, ⟨2, (some 19), .mv (.t 18), 0, none⟩, ⟨3, (some 20), .mv (.t 2), 0, (some (19, false))⟩, ⟨4, (some 21), .bin .gtr (.t 20) (.c (.int .i64 (64))), 0, (some (19, false))⟩, ⟨5, (some 22), .pick (.t 19) (.c (.bool true)) (.t 21), 0, none⟩, ⟨6, (some 23), .mv (.t 22), 0, none⟩, ⟨7, (some 24), .mv (.t 2), 0, (some (23, false))⟩, ⟨8, (some 25), .faddr 1 (.t 3), 0, (some (23, false))⟩, ⟨9, (some 26), .load none (.t 25), 0, (some (23, false))⟩, ⟨10, (some 27), .bin .geq (.t 24) (.t 26), 0, (some (23, false))⟩, ⟨11, (some 28), .pick (.t 23) (.c (.bool true)) (.t 27), 0, none⟩] [1, 2, 3, 28])
     (.cond (.t 28)
      (.seq
       (.reg false [⟨0, (some 6), .mv (.c (.nils)), 0, none⟩, ⟨1, (some 7), .mv (.c (.int .i64 (1))), 0, none⟩] [6, 7])
       (.ret))
      (.skip)))
    (.seq
     (.reg false [⟨0, (some 9), .nilo 1, 0, none⟩] [1, 2, 3, 9])
     (.seq
      (.seq
       (.reg false [⟨0, (some 29), .mv (.t 2), 0, none⟩, ⟨1, (some 30), .mv (.c (.int .i64 (0))), 0, none⟩] [1, 3, 9, 29, 30])
       (.blk 0
        (.loop [1, 3, 9, 29, 30]
         (.seq
          (.reg false [⟨0, (some 31), .bin .lss (.t 30) (.t 29), 0, none⟩] [1, 3, 9, 29, 30, 31])
          (.seq
           (.cond (.t 31)
            (.skip)
            (.exit 0))
           (.seq
            (.blk 1
             (.seq
              (.reg false [⟨0, (some 32), .mv (.t 30), 0, none⟩, ⟨1, (some 10), .mv (.t 32), 0, none⟩] [1, 3, 9, 10, 29, 30])
              (.reg false [⟨0, (some 33), .mv (.t 9), 0, none⟩, ⟨1, (some 34), .load (some 3) (.t 3), 0, none⟩, ⟨2, (some 35), .mv (.t 1), 0, none⟩, ⟨3, (some 36), .mv (.t 10), 0, none⟩, ⟨4, (some 37), .bin .add (.t 36) (.c (.int .i64 (1))), 0, none⟩, ⟨5, (some 38), .call 61 [.t 34, .t 35, .t 37], 2, none⟩, ⟨6, (some 39), .bsl 1 1 [.int .i64 (0)] [(0, 1, .t 38)], 0, none⟩, ⟨7, (some 40), .app 1 8 (.t 33) (.t 39), 0, none⟩, ⟨8, (some 9), .mv (.t 40), 0, none⟩] [1, 3, 9, 29, 30])))
            (.reg false [⟨0, (some 41), .bin .add (.t 30) (.c (.int .i64 (1))), 0, none⟩, ⟨1, (some 30), .mv (.t 41), 0, none⟩] [1, 3, 9, 29, 30])))))))
      (.seq
       (.reg false [⟨0, (some 42), .mv (.t 9), 0, none⟩, ⟨1, (some 6), .mv (.t 42), 0, none⟩, ⟨2, (some 7), .mv (.c (.int .i64 (0))), 0, none⟩] [6, 7])
       (.ret))))))

theorem ok19 : okF Tryz.prog 19 3 c19 [.tmp 6, .tmp 7] = true := by kernel_rfl

/-- dauber/share.Commit -/
def c20 : C :=
 .seq
  (.reg false [⟨0, (some 2), .box 3 (.t 0), 0, none⟩, ⟨1, (some 4), .mv (.c (.nils)), 0, none⟩, ⟨2, (some 5), .mv (.c (.int .i64 (0))), 0, none⟩] [1, 2])
  (.seq
   (.seq
    (.reg false [⟨0, (some 10), .load (some 3) (.t 2), 0, none⟩, ⟨1, (some 11), .mv (.t 1), 0, none⟩, ⟨2, (some 12), .call 60 [.t 10, .t 11], 2, none⟩, ⟨3, (some 6), .mv (.t 12), 0, none⟩] [1, 2, 6])
    (.seq
     (.reg false [⟨0, (some 13), .mv (.t 6), 0, none⟩, ⟨1, (some 14), .bin .neq (.t 13) (.c (.int .i64 (0))), 0, none⟩] [1, 2, 6, 14])
     (.cond (.t 14)
      (.seq
       (.reg false [⟨0, (some 15), .mv (.t 6), 0, none⟩, ⟨1, (some 4), .mv (.c (.nils)), 0, none⟩, ⟨2, (some 5), .mv (.t 15), 0, none⟩] [4, 5])
       (.ret))
      (.skip))))
   (.seq
    (.reg false [⟨0, (some 7), .nilo 1, 0, none⟩] [1, 2, 7])
    (.seq
     (.seq
      (.reg false [⟨0, (some 16), .mv (.t 1), 0, none⟩, ⟨1, (some 17), .len none (.t 16), 0, none⟩, ⟨2, (some 18), .mv (.c (.int .i64 (0))), 0, none⟩] [2, 7, 16, 17, 18])
      (.blk 0
       (.loop [2, 7, 16, 17, 18]
        (.seq
         (.reg false [⟨0, (some 19), .bin .lss (.t 18) (.t 17), 0, none⟩] [2, 7, 16, 17, 18, 19])
         (.seq
          (.cond (.t 19)
           (.skip)
           (.exit 0))
          (.seq
           (.blk 1
            (.seq
             (.reg false [⟨0, (some 20), .iaddr none 1 (.t 16) (.t 18), 0, none⟩, ⟨1, (some 21), .load none (.t 20), 0, none⟩, ⟨2, (some 9), .mv (.t 21), 0, none⟩] [2, 7, 9, 16, 17, 18])
             (.reg false [⟨0, (some 22), .mv (.t 7), 0, none⟩, ⟨1, (some 23), .load (some 3) (.t 2), 0, none⟩, ⟨2, (some 24), .mv (.t 9), 0, none⟩, ⟨3, (some 25), .call 62 [.t 23, .t 24], 2, none⟩, ⟨4, (some 26), .bsl 1 1 [.int .i64 (0)] [(0, 1, .t 25)], 0, none⟩, ⟨5, (some 27), .app 1 8 (.t 22) (.t 26), 0, none⟩, ⟨6, (some 7), .mv (.t 27), 0, none⟩] [2, 7, 16, 17, 18])))
           (.reg false [⟨0, (some 28), .bin .add (.t 18) (.c (.int .i64 (1))), 0, none⟩, ⟨1, (some 18), .mv (.t 28), 0, none⟩] [2, 7, 16, 17, 18])))))))
     (.seq
      (.reg false [⟨0, (some 29), .mv (.t 7), 0, none⟩, ⟨1, (some 4), .mv (.t 29), 0, none⟩, ⟨2, (some 5), .mv (.c (.int .i64 (0))), 0, none⟩] [4, 5])
      (.ret)))))

theorem ok20 : okF Tryz.prog 20 2 c20 [.tmp 4, .tmp 5] = true := by kernel_rfl

/-- dauber/share.Sum -/
def c21 : C :=
 .seq
  (.reg false [⟨0, (some 3), .box 3 (.t 0), 0, none⟩, ⟨1, (some 6), .mv (.c (.nils)), 0, none⟩, ⟨2, (some 7), .mv (.c (.int .i64 (0))), 0, none⟩] [1, 2, 3])
  (.seq
   (.seq
    (.reg false [⟨0, (some 14), .mv (.t 1), 0, none⟩, ⟨1, (some 15), .mv (.t 2), 0, none⟩, ⟨2, (some 16), .bsl 1 2 [.nils, .nils] [(0, 1, .t 14), (1, 1, .t 15)], 0, none⟩, ⟨3, (some 17), .len none (.t 16), 0, none⟩, ⟨4, (some 18), .mv (.c (.int .i64 (0))), 0, none⟩] [1, 2, 3, 16, 17, 18])
    (.blk 0
     (.loop [1, 2, 3, 16, 17, 18]
      (.seq
       (.reg false [⟨0, (some 19), .bin .lss (.t 18) (.t 17), 0, none⟩] [1, 2, 3, 16, 17, 18, 19])
       (.seq
        (.cond (.t 19)
         (.skip)
         (.exit 0))
        (.seq
         (.blk 1
          (.seq
           (.reg false [⟨0, (some 20), .iaddr none 1 (.t 16) (.t 18), 0, none⟩, ⟨1, (some 21), .load none (.t 20), 0, none⟩, ⟨2, (some 9), .mv (.t 21), 0, none⟩] [1, 2, 3, 9, 16, 17, 18])
           (.seq
            (.reg false [⟨0, (some 22), .load (some 3) (.t 3), 0, none⟩, ⟨1, (some 23), .mv (.t 9), 0, none⟩, ⟨2, (some 24), .call 60 [.t 22, .t 23], 2, none⟩, ⟨3, (some 10), .mv (.t 24), 0, none⟩] [1, 2, 3, 10, 16, 17, 18])
            (.seq
             (.reg false [⟨0, (some 25), .mv (.t 10), 0, none⟩, ⟨1, (some 26), .bin .neq (.t 25) (.c (.int .i64 (0))), 0, none⟩] [1, 2, 3, 10, 16, 17, 18, 26])
             (.cond (.t 26)
              (.seq
               (.reg false [⟨0, (some 27), .mv (.t 10), 0, none⟩, ⟨1, (some 6), .mv (.c (.nils)), 0, none⟩, ⟨2, (some 7), .mv (.t 27), 0, none⟩] [6, 7])
               (.ret))
              (.skip))))))
         (.reg false [⟨0, (some 28), .bin .add (.t 18) (.c (.int .i64 (1))), 0, none⟩, ⟨1, (some 18), .mv (.t 28), 0, none⟩] [1, 2, 3, 16, 17, 18])))))))
   (.seq
    (.seq
     (.reg false [⟨0, (some 29), .mv (.t 1), 0, none⟩, ⟨1, (some 30), .len none (.t 29), 0, none⟩, ⟨2, (some 31), .mv (.t 2), 0, none⟩, ⟨3, (some 32), .len none (.t 31), 0, none⟩, ⟨4, (some 33), .bin .neq (.t 30) (.t 32), 0, none⟩] [1, 2, 3, 33])
     (.cond (.t 33)
      (.seq
       (.reg false [⟨0, (some 6), .mv (.c (.nils)), 0, none⟩, ⟨1, (some 7), .mv (.c (.int .i64 (7))), 0, none⟩] [6, 7])
       (.ret))
      (.skip)))
    (.seq
     (.reg false [⟨0, (some 11), .nilo 1, 0, none⟩] [1, 2, 3, 11])
     (.seq
      (.seq
       (.reg false [⟨0, (some 34), .mv (.t 1), 0, none⟩, ⟨1, (some 35), .len none (.t 34), 0, none⟩, ⟨2, (some 36), .mv (.c (.int .i64 (0))), 0, none⟩] [2, 3, 11, 34, 35, 36])
       (.blk 2
        (.loop [2, 3, 11, 34, 35, 36]
         (.seq
          (.reg false [⟨0, (some 37), .bin .lss (.t 36) (.t 35), 0, none⟩] [2, 3, 11, 34, 35, 36, 37])
          (.seq
           (.cond (.t 37)
            (.skip)
            (.exit 2))
           (.seq
            (.blk 3
             (.seq
              (.reg false [⟨0, (some 38), .mv (.t 36), 0, none⟩, ⟨1, (some 39), .iaddr none 1 (.t 34) (.t 36), 0, none⟩, ⟨2, (some 40), .load none (.t 39), 0, none⟩, ⟨3, (some 12), .mv (.t 38), 0, none⟩, ⟨4, (some 13), .mv (.t 40), 0, none⟩] [2, 3, 11, 12, 13, 34, 35, 36])
              (.reg true [⟨0, (some 41), .mv (.t 11), 0, none⟩, ⟨3, (some 44), .mv (.t 13), 0, none⟩, ⟨4, (some 45), .mv (.t 2), 0, none⟩, ⟨5, (some 46), .mv (.t 12), 0, none⟩, ⟨6, (some 47), .iaddr none 1 (.t 45) (.t 46), 0, none⟩, ⟨1, (some 42), .load (some 3) (.t 3), 0, none⟩, ⟨7, (some 48), .load none (.t 47), 0, none⟩, ⟨2, (some 43), .call 47 [.t 42], 1, none⟩, ⟨8, (some 49), .call 51 [.t 43, .t 44, .t 48], 1, none⟩, ⟨9, (some 50), .bsl 1 1 [.int .i64 (0)] [(0, 1, .t 49)], 0, none⟩, ⟨10, (some 51), .app 1 8 (.t 41) (.t 50), 0, none⟩, ⟨11, (some 11), .mv (.t 51), 0, none⟩] [2, 3, 11, 34, 35, 36])))
            (.reg false [⟨0, (some 52), .bin .add (.t 36) (.c (.int .i64 (1))), 0, none⟩, ⟨1, (some 36), .mv (.t 52), 0, none⟩] [2, 3, 11, 34, 35, 36])))))))
      (.seq
       (.reg false [⟨0, (some 53), .mv (.t 11), 0, none⟩, ⟨1, (some 6), .mv (.t 53), 0, none⟩, ⟨2, (some 7), .mv (.c (.int .i64 (0))), 0, none⟩] [6, 7])
       (.ret))))))

theorem ok21 : okF Tryz.prog 21 3 c21 [.tmp 6, .tmp 7] = true := by kernel_rfl

/-- dauber/dauberref08.Poly -/
def c22 : C :=
 .seq
  (.reg false [⟨0, (some 2), .box 3 (.t 0), 0, none⟩, ⟨1, (some 4), .mv (.c (.int .i64 (0))), 0, none⟩] [1, 2])
  (.seq
   (.seq
    (.reg false [⟨0, (some 6), .mv (.t 1), 0, none⟩, ⟨1, (some 7), .len none (.t 6), 0, none⟩, ⟨2, (some 8), .bin .lss (.t 7) (.c (.int .i64 (1))), 0, none⟩, ⟨3, (some 9), .mv (.t 8), 0, none⟩, ⟨4, (some 10), .mv (.t 1), 0, (some (9, false))⟩, ⟨5, (some 11), .len none (.t 10), 0, (some (9, false))⟩, ⟨6, (some 12), .bin .gtr (.t 11) (.c (.int .i64 (16))), 0, (some (9, false))⟩, ⟨7, (some 13), .pick (.t 9) (.c (.bool true)) (.t 12), 0, none⟩] [1, 2, 13])
    (.cond (.t 13)
     (.seq
      (.reg false [⟨0, (some 4), .mv (.c (.int .i64 (2))), 0, none⟩] [4])
      (.ret))
     (.skip)))
   (.seq
    (.seq
     (.reg false [⟨0, (some 5), .mv (.c (.int .i64 (0))), 0, none⟩] [1, 2, 5])
     (.blk 0
      (.loop [1, 2, 5]
       (.seq
        (.seq
         (.reg false [⟨0, (some 14), .mv (.t 5), 0, none⟩, ⟨1, (some 15), .mv (.t 1), 0, none⟩, ⟨2, (some 16), .len none (.t 15), 0, none⟩, ⟨3, (some 17), .bin .lss (.t 14) (.t 16), 0, none⟩] [1, 2, 5, 17])
         (.cond (.t 17)
          (.skip)
          (.exit 0)))
        (.seq
         (.blk 1
          (.seq
           (.reg true [⟨1, (some 21), .mv (.t 1), 0, none⟩, ⟨2, (some 22), .mv (.t 5), 0, none⟩, ⟨3, (some 23), .iaddr none 1 (.t 21) (.t 22), 0, none⟩, ⟨0, (some 20), .load (some 3) (.t 2), 0, none⟩, ⟨4, (some 24), .load none (.t 23), 0, none⟩, ⟨5, (some 25), .call 29 [.t 20, .t 24], 2, none⟩, ⟨6, (some 26), .un .not (.t 25), 0, none⟩] [1, 2, 5, 26])
           (.cond (.t 26)
            (.seq
             (.reg false [⟨0, (some 4), .mv (.c (.int .i64 (1))), 0, none⟩] [4])
             (.ret))
            (.skip))))
         (.reg false [⟨0, (some 18), .mv (.t 5), 0, none⟩, ⟨1, (some 19), .bin .add (.t 18) (.c (.int .i64 (1))), 0, none⟩, ⟨2, (some 5), .mv (.t 19), 0, none⟩] [1, 2, 5]))))))
    (.seq
     (.reg false [⟨0, (some 4), .mv (.c (.int .i64 (0))), 0, none⟩] [4])
     (.ret))))

theorem ok22 : okF Tryz.prog 22 2 c22 [.tmp 4] = true := by kernel_rfl

/-- dauber/dauberref08.Value -/
def c23 : C :=
 .seq
  (.reg false [⟨0, (some 3), .box 3 (.t 0), 0, none⟩, ⟨1, (some 6), .mv (.c (.int .i64 (0))), 0, none⟩] [1, 2, 3])
  (.seq
   (.reg false [⟨0, (some 7), .mv (.c (.int .i64 (0))), 0, none⟩] [1, 2, 3, 7])
   (.seq
    (.seq
     (.reg false [⟨0, (some 9), .mv (.t 1), 0, none⟩, ⟨1, (some 10), .len none (.t 9), 0, none⟩, ⟨2, (some 11), .bin .sub (.t 10) (.c (.int .i64 (1))), 0, none⟩, ⟨3, (some 8), .mv (.t 11), 0, none⟩] [1, 2, 3, 7, 8])
     (.blk 0
      (.loop [1, 2, 3, 7, 8]
       (.seq
        (.seq
         (.reg false [⟨0, (some 12), .mv (.t 8), 0, none⟩, ⟨1, (some 13), .bin .geq (.t 12) (.c (.int .i64 (0))), 0, none⟩] [1, 2, 3, 7, 8, 13])
         (.cond (.t 13)
          (.skip)
          (.exit 0)))
        (.seq
         (.blk 1
          (.reg true [⟨0, (some 16), .mv (.t 7), 0, none⟩, ⟨1, (some 17), .mv (.t 2), 0, none⟩, ⟨2, (some 18), .bin .mul (.t 16) (.t 17), 0, none⟩, ⟨3, (some 19), .mv (.t 1), 0, none⟩, ⟨4, (some 20), .mv (.t 8), 0, none⟩, ⟨5, (some 21), .iaddr none 1 (.t 19) (.t 20), 0, none⟩, ⟨8, (some 24), .faddr 1 (.t 3), 0, none⟩, ⟨6, (some 22), .load none (.t 21), 0, none⟩, ⟨7, (some 23), .bin .add (.t 18) (.t 22), 0, none⟩, ⟨9, (some 25), .load none (.t 24), 0, none⟩, ⟨10, (some 26), .bin .rem (.t 23) (.t 25), 0, none⟩, ⟨11, (some 7), .mv (.t 26), 0, none⟩] [1, 2, 3, 7, 8]))
         (.reg false [⟨0, (some 14), .mv (.t 8), 0, none⟩, ⟨1, (some 15), .bin .sub (.t 14) (.c (.int .i64 (1))), 0, none⟩, ⟨2, (some 8), .mv (.t 15), 0, none⟩] [1, 2, 3, 7, 8]))))))
    (.seq
     (.reg false [⟨0, (some 27), .mv (.t 7), 0, none⟩, ⟨1, (some 6), .mv (.t 27), 0, none⟩] [6])
     (.ret))))

theorem ok23 : okF Tryz.prog 23 3 c23 [.tmp 6] = true := by kernel_rfl

/-- dauber/dauberref08.Commit -/
def c24 : C :=
 .seq
  (.reg false [⟨0, (some 2), .box 3 (.t 0), 0, none⟩, ⟨1, (some 4), .mv (.c (.nils)), 0, none⟩] [1, 2])
  (.seq
   (.reg false [⟨0, (some 5), .nilo 1, 0, none⟩] [1, 2, 5])
   (.seq
    (.seq
     (.reg false [⟨0, (some 6), .mv (.c (.int .i64 (0))), 0, none⟩] [1, 2, 5, 6])
     (.blk 0
      (.loop [1, 2, 5, 6]
       (.seq
        (.seq
         (.reg false [⟨0, (some 7), .mv (.t 6), 0, none⟩, ⟨1, (some 8), .mv (.t 1), 0, none⟩, ⟨2, (some 9), .len none (.t 8), 0, none⟩, ⟨3, (some 10), .bin .lss (.t 7) (.t 9), 0, none⟩] [1, 2, 5, 6, 10])
         (.cond (.t 10)
          (.skip)
          (.exit 0)))
        (.seq
         (.blk 1
          (.reg true [⟨0, (some 13), .mv (.t 5), 0, none⟩, ⟨1, (some 14), .faddr 2 (.t 2), 0, none⟩, ⟨3, (some 16), .mv (.t 1), 0, none⟩, ⟨4, (some 17), .mv (.t 6), 0, none⟩, ⟨5, (some 18), .iaddr none 1 (.t 16) (.t 17), 0, none⟩, ⟨7, (some 20), .faddr 0 (.t 2), 0, none⟩, ⟨2, (some 15), .load none (.t 14), 0, none⟩, ⟨6, (some 19), .load none (.t 18), 0, none⟩, ⟨8, (some 21), .load none (.t 20), 0, none⟩, ⟨9, (some 22), .call 63 [.t 15, .t 19, .t 21], 2, none⟩, ⟨10, (some 23), .bsl 1 1 [.int .i64 (0)] [(0, 1, .t 22)], 0, none⟩, ⟨11, (some 24), .app 1 8 (.t 13) (.t 23), 0, none⟩, ⟨12, (some 5), .mv (.t 24), 0, none⟩] [1, 2, 5, 6]))
         (.reg false [⟨0, (some 11), .mv (.t 6), 0, none⟩, ⟨1, (some 12), .bin .add (.t 11) (.c (.int .i64 (1))), 0, none⟩, ⟨2, (some 6), .mv (.t 12), 0, none⟩] [1, 2, 5, 6]))))))
    (.seq
     (.reg false [⟨0, (some 25), .mv (.t 5), 0, none⟩, ⟨1, (some 4), .mv (.t 25), 0, none⟩] [4])
     (.ret))))

theorem ok24 : okF Tryz.prog 24 2 c24 [.tmp 4] = true := by kernel_rfl

/-- dauber/share.Fits -/
def c25 : C :=
 .seq
  (.reg false [⟨0, (some 4), .box 3 (.t 0), 0, none⟩, ⟨1, (some 8), .mv (.c (.bool false)), 0, none⟩] [1, 2, 3, 4])
  (.seq
   (.seq
    (.reg false [⟨0, (some 11), .load (some 3) (.t 4), 0, none⟩, ⟨1, (some 12), .call 43 [.t 11], 2, none⟩, ⟨2, (some 13), .bin .neq (.t 12) (.c (.int .i64 (0))), 0, none⟩, ⟨3, (some 14), .mv (.t 13), 0, none⟩, ⟨4, (some 15), .mv (.t 1), 0, (some (14, false))⟩, ⟨5, (some 16), .len none (.t 15), 0, (some (14, false))⟩, ⟨6, (some 17), .bin .lss (.t 16) (.c (.int .i64 (1))), 0, (some (14, false))⟩, ⟨7, (some 18), .pick (.t 14) (.c (.bool true)) (.t 17), 0, none⟩, ⟨8, (some 19), .mv (.t 18), 0, none⟩, ⟨9, (some 20), .mv (.t 1), 0, (some (19, false))⟩, ⟨10, (some 21), .len none (.t 20), 0, (some (19, false))⟩, ⟨11, (some 22), .bin .gtr (.t 21) (.c (.int .i64 (16))), 0, (some (19, false))⟩, ⟨12, (some 23), .pick (.t 19) (.c (.bool true)) (.t 22), 0, none⟩, ⟨13, (some 24), .mv (.t 23), 0, none⟩, ⟨14, (some 25), .load (some 3) (.t 4), 0, (some (24, false))⟩, ⟨15, (some 26), .mv (.t 1), 0, (some (24, false))⟩, ⟨16, (some 27), .call 64 [.t 25, .t 26], 2, (some (24, false))⟩, ⟨17, (some 28), .un .not (.t 27), 0, (some (24, false))⟩, ⟨18, (some 29), .pick (.t 24) (.c (.bool true)) (.t 28), 0, none⟩] [1, 2, 3, 4, 29])
    (.cond (.t 29)
     (.seq
      (.reg false [⟨0, (some 8), .mv (.c (.bool false)), 0, none⟩] [8])
      (.ret))
     (.skip)))
   (.seq
    (.seq
     (.reg false [⟨0, (some 30), .faddr 1 (.t 4), 0, none⟩, ⟨1, (some 31), .load none (.t 30), 0, none⟩, ⟨2, (some 32), .bin .sub (.t 31) (.c (.int .i64 (1))), 0, none⟩, ⟨3, (some 33), .mn [.c (.int .i64 (64)), .t 32], 0, none⟩, ⟨4, (some 34), .mv (.t 2), 0, none⟩, ⟨5, (some 35), .bsl 1 1 [.int .i64 (0)] [(0, 1, .t 34)], 0, none⟩, ⟨6, (some 36), .call 65 [.c (.int .i64 (1)), .t 33, .t 35], 2, none⟩, ⟨7, (some 37), .un .not (.t 36), 0, none⟩, ⟨8, (some 38), .mv (.t 37), 0, none⟩, ⟨9, (some 39), .load (some 3) (.t 4), 0, (some (38, false))⟩, ⟨10, (some 40), .mv (.t 3), 0, (some (38, false))⟩, ⟨11, (some 41), .bsl 1 1 [.int .i64 (0)] [(0, 1, .t 40)], 0, (some (38, false))⟩, ⟨12, (some 42), .call 66 [.t 39, .t 41], 2, (some (38, false))⟩, ⟨13, (some 43), .un .not (.t 42), 0, (some (38, false))⟩, ⟨14, (some 44), .pick (.t 38) (.c (.bool true)) (.t 43), 0, none⟩] [1, 2, 3, 4, 44])
     (.cond (.t 44)
      (.seq
       (.reg false [⟨0, (some 8), .mv (.c (.bool false)), 0, none⟩] [8])
       (.ret))
      (.skip)))
    (.seq
     (.reg false [⟨0, (some 9), .mv (.c (.int .i64 (1))), 0, none⟩] [1, 2, 3, 4, 9])
     (.seq
      (.seq
       (.reg false [⟨0, (some 45), .mv (.t 1), 0, none⟩, ⟨1, (some 46), .len none (.t 45), 0, none⟩, ⟨2, (some 47), .bin .sub (.t 46) (.c (.int .i64 (1))), 0, none⟩, ⟨3, (some 10), .mv (.t 47), 0, none⟩] [1, 2, 3, 4, 9, 10])
       (.blk 0
        (.loop [1, 2, 3, 4, 9, 10]
         (.seq
          (.seq
           (.reg false [⟨0, (some 48), .mv (.t 10), 0, none⟩, ⟨1, (some 49), .bin .geq (.t 48) (.c (.int .i64 (0))), 0, none⟩] [1, 2, 3, 4, 9, 10, 49])
           (.cond (.t 49)
            (.skip)
            (.exit 0)))
          (.seq
           (.blk 1
            (.reg true [⟨4, (some 56), .mv (.t 9), 0, none⟩, ⟨5, (some 57), .mv (.t 2), 0, none⟩, ⟨7, (some 59), .mv (.t 1), 0, none⟩, ⟨8, (some 60), .mv (.t 10), 0, none⟩, ⟨9, (some 61), .iaddr none 1 (.t 59) (.t 60), 0, none⟩, ⟨0, (some 52), .load (some 3) (.t 4), 0, none⟩, ⟨2, (some 54), .load (some 3) (.t 4), 0, none⟩, ⟨10, (some 62), .load none (.t 61), 0, none⟩, ⟨1, (some 53), .call 67 [.t 52], 1, none⟩, ⟨3, (some 55), .call 67 [.t 54], 1, none⟩, ⟨6, (some 58), .call 68 [.t 55, .t 56, .t 57], 1, none⟩, ⟨11, (some 63), .call 49 [.t 53, .t 58, .t 62], 1, none⟩, ⟨12, (some 9), .mv (.t 63), 0, none⟩] [1, 2, 3, 4, 9, 10]))
           (.reg false [⟨0, (some 50), .mv (.t 10), 0, none⟩, ⟨1, (some 51), .bin .sub (.t 50) (.c (.int .i64 (1))), 0, none⟩, ⟨2, (some 10), .mv (.t 51), 0, none⟩] [1, 2, 3, 4, 9, 10]))))))
      (.seq
       (.reg false [⟨0, (some 64), .mv (.t 9), 0, none⟩, ⟨1, (some 65), .load (some 3) (.t 4), 0, none⟩, ⟨2, (some 66), .mv (.t 3), 0, none⟩, ⟨3, (some 67), .call 62 [.t 65, .t 66], 2, none⟩, ⟨4, (some 68), .bin .eql (.t 64) (.t 67), 0, none⟩, ⟨5, (some 8), .mv (.t 68), 0, none⟩] [8])
       (.ret))))))

theorem ok25 : okF Tryz.prog 25 4 c25 [.tmp 8] = true := by kernel_rfl

/-- dauber/dauberref08.Fits -/
def c26 : C :=
 .seq
  (.reg false [⟨0, (some 4), .box 3 (.t 0), 0, none⟩, ⟨1, (some 8), .mv (.c (.bool false)), 0, none⟩] [1, 2, 3, 4])
  (.seq
   (.reg false [⟨0, (some 9), .load (some 3) (.t 4), 0, none⟩, ⟨1, (some 10), .call 42 [.t 9], 2, none⟩, ⟨2, (some 11), .bin .eql (.t 10) (.c (.int .i64 (0))), 0, none⟩, ⟨3, (some 12), .mv (.t 11), 0, none⟩, ⟨4, (some 13), .load (some 3) (.t 4), 0, (some (12, true))⟩, ⟨5, (some 14), .mv (.t 1), 0, (some (12, true))⟩, ⟨6, (some 15), .mv (.t 2), 0, (some (12, true))⟩, ⟨7, (some 16), .mv (.t 3), 0, (some (12, true))⟩, ⟨8, (some 17), .call 69 [.t 13, .t 14, .t 15, .t 16], 2, (some (12, true))⟩, ⟨9, (some 18), .pick (.t 12) (.t 17) (.c (.bool false)), 0, none⟩, ⟨10, (some 8), .mv (.t 18), 0, none⟩] [8])
   (.ret))

theorem ok26 : okF Tryz.prog 26 4 c26 [.tmp 8] = true := by kernel_rfl

/-- dauber/dauberlaw08.proof -/
def c27 : C :=
 .seq
  (.reg false [⟨0, (some 1), .box 3 (.t 0), 0, none⟩, ⟨1, (some 2), .alloc [.int .i64 (0), .int .i64 (0), .int .i64 (0)] 3, 0, none⟩] [1, 2])
  (.seq
   (.reg false [⟨0, (some 3), .iaddr (some 3) 1 (.t 1) (.c (.int .i64 (0))), 0, none⟩, ⟨1, (some 4), .load none (.t 3), 0, none⟩, ⟨2, (some 5), .iaddr (some 3) 1 (.t 1) (.c (.int .i64 (1))), 0, none⟩, ⟨3, (some 6), .load none (.t 5), 0, none⟩, ⟨4, (some 7), .iaddr (some 3) 1 (.t 1) (.c (.int .i64 (2))), 0, none⟩, ⟨5, (some 8), .load none (.t 7), 0, none⟩, ⟨6, (some 9), .build [.int .i64 (0), .int .i64 (0), .int .i64 (0)] [(0, 1, .t 4), (1, 1, .t 6), (2, 1, .t 8)], 0, none⟩, ⟨7, none, .store 3 (.t 2) (.t 9), 0, none⟩] [2])
   (.ret))

theorem ok27 : okF Tryz.prog 27 1 c27 [.cell (some 3) 2] = true := by kernel_rfl

/-- dauber/share.Prove -/
def c28 : C :=
 .seq
  (.reg false [⟨0, (some 4), .box 3 (.t 0), 0, none⟩, ⟨1, (some 8), .alloc [.int .i64 (0), .int .i64 (0), .int .i64 (0)] 3, 0, none⟩, ⟨2, (some 9), .mv (.c (.int .i64 (0))), 0, none⟩] [1, 2, 3, 4, 8])
  (.seq
   (.seq
    (.reg false [⟨0, (some 11), .load (some 3) (.t 4), 0, none⟩, ⟨1, (some 12), .call 43 [.t 11], 2, none⟩, ⟨2, (some 10), .mv (.t 12), 0, none⟩] [1, 2, 3, 4, 8, 10])
    (.seq
     (.reg false [⟨0, (some 13), .mv (.t 10), 0, none⟩, ⟨1, (some 14), .bin .neq (.t 13) (.c (.int .i64 (0))), 0, none⟩] [1, 2, 3, 4, 8, 10, 14])
     (.cond (.t 14)
      (.seq
       (.reg false [⟨0, (some 15), .build [.int .i64 (0), .int .i64 (0), .int .i64 (0)] [], 0, none⟩, ⟨1, (some 16), .mv (.t 10), 0, none⟩, ⟨2, none, .store 3 (.t 8) (.t 15), 0, none⟩, ⟨3, (some 9), .mv (.t 16), 0, none⟩] [8, 9])
       (.ret))
      (.skip))))
   (.seq
    (.seq
     (.reg false [⟨0, (some 17), .load (some 3) (.t 4), 0, none⟩, ⟨1, (some 18), .mv (.t 1), 0, none⟩, ⟨2, (some 19), .mv (.t 2), 0, none⟩, ⟨3, (some 20), .mv (.t 3), 0, none⟩, ⟨4, (some 21), .bsl 1 3 [.int .i64 (0), .int .i64 (0), .int .i64 (0)] [(0, 1, .t 18), (1, 1, .t 19), (2, 1, .t 20)], 0, none⟩, ⟨5, (some 22), .call 66 [.t 17, .t 21], 2, none⟩, ⟨6, (some 23), .un .not (.t 22), 0, none⟩] [1, 2, 3, 4, 8, 23])
     (.cond (.t 23)
      (.seq
       (.reg false [⟨0, (some 24), .build [.int .i64 (0), .int .i64 (0), .int .i64 (0)] [], 0, none⟩, ⟨1, none, .store 3 (.t 8) (.t 24), 0, none⟩, ⟨2, (some 9), .mv (.c (.int .i64 (1))), 0, none⟩] [8, 9])
       (.ret))
      (.skip)))
    (.seq
     (.reg true [⟨1, (some 26), .mv (.t 2), 0, none⟩, ⟨3, (some 28), .mv (.t 3), 0, none⟩, ⟨6, (some 31), .mv (.t 2), 0, none⟩, ⟨9, (some 34), .mv (.t 3), 0, none⟩, ⟨10, (some 35), .mv (.t 1), 0, none⟩, ⟨0, (some 25), .load (some 3) (.t 4), 0, none⟩, ⟨4, (some 29), .load (some 3) (.t 4), 0, none⟩, ⟨7, (some 32), .load (some 3) (.t 4), 0, none⟩, ⟨2, (some 27), .call 62 [.t 25, .t 26], 1, none⟩, ⟨5, (some 30), .call 47 [.t 29], 1, none⟩, ⟨8, (some 33), .call 47 [.t 32], 1, none⟩, ⟨11, (some 36), .call 49 [.t 33, .t 34, .t 35], 1, none⟩, ⟨12, (some 37), .call 51 [.t 30, .t 31, .t 36], 1, none⟩, ⟨13, (some 38), .build [.int .i64 (0), .int .i64 (0), .int .i64 (0)] [(0, 1, .t 27), (1, 1, .t 28), (2, 1, .t 37)], 0, none⟩, ⟨14, none, .store 3 (.t 8) (.t 38), 0, none⟩, ⟨15, (some 9), .mv (.c (.int .i64 (0))), 0, none⟩] [8, 9])
     (.ret))))

theorem ok28 : okF Tryz.prog 28 4 c28 [.cell (some 3) 8, .tmp 9] = true := by kernel_rfl

/-- dauber/dauberref08.Number -/
def c29 : C :=
 .seq
  (.reg false [⟨0, (some 2), .box 3 (.t 0), 0, none⟩, ⟨1, (some 4), .mv (.c (.bool false)), 0, none⟩] [1, 2])
  (.seq
   (.reg false [⟨0, (some 5), .mv (.t 1), 0, none⟩, ⟨1, (some 6), .bin .geq (.t 5) (.c (.int .i64 (0))), 0, none⟩, ⟨2, (some 7), .mv (.t 6), 0, none⟩, ⟨3, (some 8), .mv (.t 1), 0, (some (7, true))⟩, ⟨4, (some 9), .faddr 1 (.t 2), 0, (some (7, true))⟩, ⟨5, (some 10), .load none (.t 9), 0, (some (7, true))⟩, ⟨6, (some 11), .bin .lss (.t 8) (.t 10), 0, (some (7, true))⟩, ⟨7, (some 12), .pick (.t 7) (.t 11) (.c (.bool false)), 0, none⟩, ⟨8, (some 4), .mv (.t 12), 0, none⟩] [4])
   (.ret))

theorem ok29 : okF Tryz.prog 29 2 c29 [.tmp 4] = true := by kernel_rfl

/-- dauber/dauberref08.Prove -/
def c30 : C :=
 .seq
  (.reg false [⟨0, (some 4), .box 3 (.t 0), 0, none⟩, ⟨1, (some 8), .alloc [.int .i64 (0), .int .i64 (0), .int .i64 (0)] 3, 0, none⟩] [1, 2, 3, 4, 8])
  (.seq
   (.reg true [⟨0, (some 9), .faddr 2 (.t 4), 0, none⟩, ⟨2, (some 11), .mv (.t 2), 0, none⟩, ⟨3, (some 12), .faddr 0 (.t 4), 0, none⟩, ⟨6, (some 15), .mv (.t 3), 0, none⟩, ⟨7, (some 16), .mv (.t 2), 0, none⟩, ⟨8, (some 17), .mv (.t 3), 0, none⟩, ⟨9, (some 18), .mv (.t 1), 0, none⟩, ⟨10, (some 19), .bin .mul (.t 17) (.t 18), 0, none⟩, ⟨11, (some 20), .bin .add (.t 16) (.t 19), 0, none⟩, ⟨12, (some 21), .faddr 1 (.t 4), 0, none⟩, ⟨1, (some 10), .load none (.t 9), 0, none⟩, ⟨4, (some 13), .load none (.t 12), 0, none⟩, ⟨13, (some 22), .load none (.t 21), 0, none⟩, ⟨14, (some 23), .bin .rem (.t 20) (.t 22), 0, none⟩, ⟨5, (some 14), .call 63 [.t 10, .t 11, .t 13], 1, none⟩, ⟨15, (some 24), .build [.int .i64 (0), .int .i64 (0), .int .i64 (0)] [(0, 1, .t 14), (1, 1, .t 15), (2, 1, .t 23)], 0, none⟩, ⟨16, none, .store 3 (.t 8) (.t 24), 0, none⟩] [8])
   (.ret))

theorem ok30 : okF Tryz.prog 30 4 c30 [.cell (some 3) 8] = true := by kernel_rfl

/-- dauber/share.Holds -/
def c31 : C :=
 .seq
  (.reg false [⟨0, (some 3), .box 3 (.t 0), 0, none⟩, ⟨1, (some 5), .box 3 (.t 2), 0, none⟩, ⟨2, (some 6), .mv (.c (.bool false)), 0, none⟩] [1, 3, 5])
  (.seq
   (.seq
    (.reg false [⟨0, (some 7), .load (some 3) (.t 3), 0, none⟩, ⟨1, (some 8), .call 43 [.t 7], 2, none⟩, ⟨2, (some 9), .bin .neq (.t 8) (.c (.int .i64 (0))), 0, none⟩, ⟨3, (some 10), .mv (.t 9), 0, none⟩, ⟨4, (some 11), .load (some 3) (.t 3), 0, (some (10, false))⟩, ⟨5, (some 12), .mv (.t 1), 0, (some (10, false))⟩, ⟨6, (some 13), .bsl 1 1 [.int .i64 (0)] [(0, 1, .t 12)], 0, (some (10, false))⟩, ⟨7, (some 14), .call 64 [.t 11, .t 13], 2, (some (10, false))⟩, ⟨8, (some 15), .un .not (.t 14), 0, (some (10, false))⟩, ⟨9, (some 16), .pick (.t 10) (.c (.bool true)) (.t 15), 0, none⟩, ⟨10, (some 17), .mv (.t 16), 0, none⟩, ⟨11, (some 18), .load (some 3) (.t 5), 0, (some (17, false))⟩, ⟨12, (some 19), .load (some 3) (.t 3), 0, (some (17, false))⟩, ⟨13, (some 20), .call 70 [.t 18, .t 19], 2, (some (17, false))⟩, ⟨14, (some 21), .un .not (.t 20), 0, (some (17, false))⟩, ⟨15, (some 22), .pick (.t 17) (.c (.bool true)) (.t 21), 0, none⟩] [1, 3, 5, 22])
    (.cond (.t 22)
     (.seq
      (.reg false [⟨0, (some 6), .mv (.c (.bool false)), 0, none⟩] [6])
      (.ret))
     (.skip)))
   (.seq
    (.reg true [⟨2, (some 25), .mv (.t 1), 0, none⟩, ⟨3, (some 26), .faddr 1 (.t 5), 0, none⟩, ⟨5, (some 28), .faddr 2 (.t 5), 0, none⟩, ⟨0, (some 23), .load (some 3) (.t 5), 0, none⟩, ⟨1, (some 24), .load (some 3) (.t 3), 0, none⟩, ⟨4, (some 27), .load none (.t 26), 0, none⟩, ⟨6, (some 29), .load none (.t 28), 0, none⟩, ⟨7, (some 30), .call 71 [.t 24, .t 25, .t 27, .t 29], 1, none⟩, ⟨8, (some 31), .eqs 3 false (.t 23) (.t 30), 0, none⟩, ⟨9, (some 6), .mv (.t 31), 0, none⟩] [6])
    (.ret)))

theorem ok31 : okF Tryz.prog 31 3 c31 [.tmp 6] = true := by kernel_rfl

/-- dauber/dauberref08.Holds -/
def c32 : C :=
 .seq
  (.reg false [⟨0, (some 3), .box 3 (.t 0), 0, none⟩, ⟨1, (some 5), .box 3 (.t 2), 0, none⟩, ⟨2, (some 6), .mv (.c (.bool false)), 0, none⟩] [1, 3, 5])
  (.seq
   (.reg true [⟨0, (some 7), .load (some 3) (.t 3), 0, none⟩, ⟨1, (some 8), .call 42 [.t 7], 1, none⟩, ⟨2, (some 9), .bin .eql (.t 8) (.c (.int .i64 (0))), 0, none⟩, ⟨3, (some 10), .mv (.t 9), 0, none⟩, ⟨5, (some 12), .mv (.t 1), 0, (some (10, true))⟩, ⟨4, (some 11), .load (some 3) (.t 3), 0, (some (10, true))⟩, ⟨6, (some 13), .call 36 [.t 11, .t 12], 1, (some (10, true))⟩, ⟨7, (some 14), .pick (.t 10) (.t 13) (.c (.bool false)), 0, none⟩, ⟨8, (some 15), .mv (.t 14), 0, none⟩, ⟨9, (some 16), .load (some 3) (.t 3), 0, (some (15, true))⟩, ⟨10, (some 17), .load (some 3) (.t 5), 0, (some (15, true))⟩, ⟨11, (some 18), .call 72 [.t 16, .t 17], 1, (some (15, true))⟩, ⟨12, (some 19), .pick (.t 15) (.t 18) (.c (.bool false)), 0, none⟩, ⟨13, (some 20), .mv (.t 19), 0, none⟩, ⟨14, (some 21), .faddr 2 (.t 3), 0, (some (20, true))⟩, ⟨16, (some 23), .faddr 2 (.t 5), 0, (some (20, true))⟩, ⟨18, (some 25), .faddr 0 (.t 3), 0, (some (20, true))⟩, ⟨21, (some 28), .faddr 0 (.t 5), 0, (some (20, true))⟩, ⟨23, (some 30), .mv (.t 1), 0, (some (20, true))⟩, ⟨24, (some 31), .faddr 1 (.t 5), 0, (some (20, true))⟩, ⟨26, (some 33), .faddr 0 (.t 3), 0, (some (20, true))⟩, ⟨30, (some 37), .faddr 0 (.t 3), 0, (some (20, true))⟩, ⟨15, (some 22), .load none (.t 21), 0, (some (20, true))⟩, ⟨17, (some 24), .load none (.t 23), 0, (some (20, true))⟩, ⟨19, (some 26), .load none (.t 25), 0, (some (20, true))⟩, ⟨22, (some 29), .load none (.t 28), 0, (some (20, true))⟩, ⟨25, (some 32), .load none (.t 31), 0, (some (20, true))⟩, ⟨27, (some 34), .load none (.t 33), 0, (some (20, true))⟩, ⟨31, (some 38), .load none (.t 37), 0, (some (20, true))⟩, ⟨20, (some 27), .call 63 [.t 22, .t 24, .t 26], 1, (some (20, true))⟩, ⟨28, (some 35), .call 63 [.t 30, .t 32, .t 34], 1, (some (20, true))⟩, ⟨29, (some 36), .bin .mul (.t 29) (.t 35), 0, (some (20, true))⟩, ⟨32, (some 39), .bin .rem (.t 36) (.t 38), 0, (some (20, true))⟩, ⟨33, (some 40), .bin .eql (.t 27) (.t 39), 0, (some (20, true))⟩, ⟨34, (some 41), .pick (.t 20) (.t 40) (.c (.bool false)), 0, none⟩, ⟨35, (some 6), .mv (.t 41), 0, none⟩] [6])
   (.ret))

theorem ok32 : okF Tryz.prog 32 3 c32 [.tmp 6] = true := by kernel_rfl

/-- dauber/share.Extract -/
def c33 : C :=
 .seq
  (.reg false [⟨0, (some 3), .box 3 (.t 0), 0, none⟩, ⟨1, (some 4), .box 3 (.t 1), 0, none⟩, ⟨2, (some 5), .box 3 (.t 2), 0, none⟩, ⟨3, (some 6), .mv (.c (.int .i64 (0))), 0, none⟩, ⟨4, (some 7), .mv (.c (.int .i64 (0))), 0, none⟩] [3, 4, 5])
  (.seq
   (.seq
    (.reg false [⟨0, (some 10), .load (some 3) (.t 3), 0, none⟩, ⟨1, (some 11), .call 43 [.t 10], 2, none⟩, ⟨2, (some 8), .mv (.t 11), 0, none⟩] [3, 4, 5, 8])
    (.seq
     (.reg false [⟨0, (some 12), .mv (.t 8), 0, none⟩, ⟨1, (some 13), .bin .neq (.t 12) (.c (.int .i64 (0))), 0, none⟩] [3, 4, 5, 8, 13])
     (.cond (.t 13)
      (.seq
       (.reg false [⟨0, (some 14), .mv (.t 8), 0, none⟩, ⟨1, (some 6), .mv (.c (.int .i64 (0))), 0, none⟩, ⟨2, (some 7), .mv (.t 14), 0, none⟩] [6, 7])
       (.ret))
      (.skip))))
   (.seq
    (.seq
     (.reg false [⟨0, (some 15), .load (some 3) (.t 4), 0, none⟩, ⟨1, (some 16), .load (some 3) (.t 3), 0, none⟩, ⟨2, (some 17), .call 70 [.t 15, .t 16], 2, none⟩, ⟨3, (some 18), .un .not (.t 17), 0, none⟩, ⟨4, (some 19), .mv (.t 18), 0, none⟩, ⟨5, (some 20), .load (some 3) (.t 5), 0, (some (19, false))⟩, ⟨6, (some 21), .load (some 3) (.t 3), 0, (some (19, false))⟩, ⟨7, (some 22), .call 70 [.t 20, .t 21], 2, (some (19, false))⟩, ⟨8, (some 23), .un .not (.t 22), 0, (some (19, false))⟩, ⟨9, (some 24), .pick (.t 19) (.c (.bool true)) (.t 23), 0, none⟩, ⟨10, (some 25), .mv (.t 24), 0, none⟩, ⟨11, (some 26), .faddr 0 (.t 4), 0, (some (25, false))⟩, ⟨12, (some 27), .load none (.t 26), 0, (some (25, false))⟩, ⟨13, (some 28), .faddr 0 (.t 5), 0, (some (25, false))⟩, ⟨14, (some 29), .load none (.t 28), 0, (some (25, false))⟩, ⟨15, (some 30), .bin .neq (.t 27) (.t 29), 0, (some (25, false))⟩, ⟨16, (some 31), .pick (.t 25) (.c (.bool true)) (.t 30), 0, none⟩] [3, 4, 5, 31])
     (.cond (.t 31)
      (.seq
       (.reg false [⟨0, (some 6), .mv (.c (.int .i64 (0))), 0, none⟩, ⟨1, (some 7), .mv (.c (.int .i64 (82))), 0, none⟩] [6, 7])
       (.ret))
      (.skip)))
    (.seq
     (.seq
      (.reg false [⟨0, (some 32), .faddr 1 (.t 4), 0, none⟩, ⟨1, (some 33), .load none (.t 32), 0, none⟩, ⟨2, (some 34), .faddr 1 (.t 5), 0, none⟩, ⟨3, (some 35), .load none (.t 34), 0, none⟩, ⟨4, (some 36), .bin .eql (.t 33) (.t 35), 0, none⟩] [3, 4, 5, 36])
      (.cond (.t 36)
       (.seq
        (.reg false [⟨0, (some 6), .mv (.c (.int .i64 (0))), 0, none⟩, ⟨1, (some 7), .mv (.c (.int .i64 (81))), 0, none⟩] [6, 7])
        (.ret))
       (.skip)))
     (.seq
      (.reg false [⟨0, (some 37), .load (some 3) (.t 3), 0, none⟩, ⟨1, (some 38), .call 47 [.t 37], 2, none⟩, ⟨2, (some 9), .mv (.t 38), 0, none⟩] [4, 5, 9])
      (.seq
       (.reg true [⟨0, (some 39), .mv (.t 9), 0, none⟩, ⟨1, (some 40), .mv (.t 9), 0, none⟩, ⟨2, (some 41), .faddr 2 (.t 4), 0, none⟩, ⟨4, (some 43), .faddr 2 (.t 5), 0, none⟩, ⟨7, (some 46), .mv (.t 9), 0, none⟩, ⟨8, (some 47), .mv (.t 9), 0, none⟩, ⟨9, (some 48), .faddr 1 (.t 4), 0, none⟩, ⟨11, (some 50), .faddr 1 (.t 5), 0, none⟩, ⟨3, (some 42), .load none (.t 41), 0, none⟩, ⟨5, (some 44), .load none (.t 43), 0, none⟩, ⟨10, (some 49), .load none (.t 48), 0, none⟩, ⟨12, (some 51), .load none (.t 50), 0, none⟩, ⟨6, (some 45), .call 50 [.t 40, .t 42, .t 44], 1, none⟩, ⟨13, (some 52), .call 50 [.t 47, .t 49, .t 51], 1, none⟩, ⟨14, (some 53), .call 52 [.t 46, .t 52], 1, none⟩, ⟨15, (some 54), .call 49 [.t 39, .t 45, .t 53], 1, none⟩, ⟨16, (some 6), .mv (.t 54), 0, none⟩, ⟨17, (some 7), .mv (.c (.int .i64 (0))), 0, none⟩] [6, 7])
       (.ret))))))

theorem ok33 : okF Tryz.prog 33 3 c33 [.tmp 6, .tmp 7] = true := by kernel_rfl

/-- dauber/dauberref08.Extract -/
def c34 : C :=
 .seq
  (.reg false [⟨0, (some 3), .box 3 (.t 0), 0, none⟩, ⟨1, (some 4), .box 3 (.t 1), 0, none⟩, ⟨2, (some 5), .box 3 (.t 2), 0, none⟩, ⟨3, (some 6), .mv (.c (.int .i64 (0))), 0, none⟩, ⟨4, (some 7), .mv (.c (.int .i64 (0))), 0, none⟩] [3, 4, 5])
  (.seq
   (.seq
    (.reg false [⟨0, (some 10), .load (some 3) (.t 3), 0, none⟩, ⟨1, (some 11), .load (some 3) (.t 4), 0, none⟩, ⟨2, (some 12), .call 72 [.t 10, .t 11], 2, none⟩, ⟨3, (some 13), .un .not (.t 12), 0, none⟩, ⟨4, (some 14), .mv (.t 13), 0, none⟩, ⟨5, (some 15), .load (some 3) (.t 3), 0, (some (14, false))⟩, ⟨6, (some 16), .load (some 3) (.t 5), 0, (some (14, false))⟩, ⟨7, (some 17), .call 72 [.t 15, .t 16], 2, (some (14, false))⟩, ⟨8, (some 18), .un .not (.t 17), 0, (some (14, false))⟩, ⟨9, (some 19), .pick (.t 14) (.c (.bool true)) (.t 18), 0, none⟩, ⟨10, (some 20), .mv (.t 19), 0, none⟩, ⟨11, (some 21), .faddr 0 (.t 4), 0, (some (20, false))⟩, ⟨12, (some 22), .load none (.t 21), 0, (some (20, false))⟩, ⟨13, (some 23), .faddr 0 (.t 5), 0, (some (20, false))⟩, ⟨14, (some 24), .load none (.t 23), 0, (some (20, false))⟩, ⟨15, (some 25), .bin .neq (.t 22) (.t 24), 0, (some (20, false))⟩, ⟨16, (some 26), .pick (.t 20) (.c (.bool true)) (.t 25), 0, none⟩] [3, 4, 5, 26])
    (.cond (.t 26)
     (.seq
      (.reg false [⟨0, (some 6), .mv (.c (.int .i64 (0))), 0, none⟩, ⟨1, (some 7), .mv (.c (.int .i64 (82))), 0, none⟩] [6, 7])
      (.ret))
     (.skip)))
   (.seq
    (.seq
     (.reg false [⟨0, (some 27), .faddr 1 (.t 4), 0, none⟩, ⟨1, (some 28), .load none (.t 27), 0, none⟩, ⟨2, (some 29), .faddr 1 (.t 5), 0, none⟩, ⟨3, (some 30), .load none (.t 29), 0, none⟩, ⟨4, (some 31), .bin .eql (.t 28) (.t 30), 0, none⟩] [3, 4, 5, 31])
     (.cond (.t 31)
      (.seq
       (.reg false [⟨0, (some 6), .mv (.c (.int .i64 (0))), 0, none⟩, ⟨1, (some 7), .mv (.c (.int .i64 (81))), 0, none⟩] [6, 7])
       (.ret))
      (.skip)))
    (.seq
     (.reg false [⟨0, (some 32), .faddr 2 (.t 4), 0, none⟩, ⟨1, (some 33), .load none (.t 32), 0, none⟩, ⟨2, (some 34), .faddr 2 (.t 5), 0, none⟩, ⟨3, (some 35), .load none (.t 34), 0, none⟩, ⟨4, (some 36), .bin .sub (.t 33) (.t 35), 0, none⟩, ⟨5, (some 37), .faddr 1 (.t 3), 0, none⟩, ⟨6, (some 38), .load none (.t 37), 0, none⟩, ⟨7, (some 39), .bin .add (.t 36) (.t 38), 0, none⟩, ⟨8, (some 40), .faddr 1 (.t 3), 0, none⟩, ⟨9, (some 41), .load none (.t 40), 0, none⟩, ⟨10, (some 42), .bin .rem (.t 39) (.t 41), 0, none⟩, ⟨11, (some 8), .mv (.t 42), 0, none⟩] [3, 4, 5, 8])
     (.seq
      (.reg false [⟨0, (some 43), .faddr 1 (.t 4), 0, none⟩, ⟨1, (some 44), .load none (.t 43), 0, none⟩, ⟨2, (some 45), .faddr 1 (.t 5), 0, none⟩, ⟨3, (some 46), .load none (.t 45), 0, none⟩, ⟨4, (some 47), .bin .sub (.t 44) (.t 46), 0, none⟩, ⟨5, (some 48), .faddr 1 (.t 3), 0, none⟩, ⟨6, (some 49), .load none (.t 48), 0, none⟩, ⟨7, (some 50), .bin .add (.t 47) (.t 49), 0, none⟩, ⟨8, (some 51), .faddr 1 (.t 3), 0, none⟩, ⟨9, (some 52), .load none (.t 51), 0, none⟩, ⟨10, (some 53), .bin .rem (.t 50) (.t 52), 0, none⟩, ⟨11, (some 9), .mv (.t 53), 0, none⟩] [3, 8, 9])
      (.seq
       (.reg true [⟨0, (some 54), .mv (.t 8), 0, none⟩, ⟨1, (some 55), .mv (.t 9), 0, none⟩, ⟨2, (some 56), .faddr 1 (.t 3), 0, none⟩, ⟨5, (some 59), .faddr 1 (.t 3), 0, none⟩, ⟨9, (some 63), .faddr 1 (.t 3), 0, none⟩, ⟨3, (some 57), .load none (.t 56), 0, none⟩, ⟨4, (some 58), .bin .sub (.t 57) (.c (.int .i64 (2))), 0, none⟩, ⟨6, (some 60), .load none (.t 59), 0, none⟩, ⟨10, (some 64), .load none (.t 63), 0, none⟩, ⟨7, (some 61), .call 63 [.t 55, .t 58, .t 60], 1, none⟩, ⟨8, (some 62), .bin .mul (.t 54) (.t 61), 0, none⟩, ⟨11, (some 65), .bin .rem (.t 62) (.t 64), 0, none⟩, ⟨12, (some 6), .mv (.t 65), 0, none⟩, ⟨13, (some 7), .mv (.c (.int .i64 (0))), 0, none⟩] [6, 7])
       (.ret))))))

theorem ok34 : okF Tryz.prog 34 3 c34 [.tmp 6, .tmp 7] = true := by kernel_rfl

/-- dauber/share.Imitate -/
def c35 : C :=
 .seq
  (.reg false [⟨0, (some 4), .box 3 (.t 0), 0, none⟩, ⟨1, (some 8), .alloc [.int .i64 (0), .int .i64 (0), .int .i64 (0)] 3, 0, none⟩, ⟨2, (some 9), .mv (.c (.int .i64 (0))), 0, none⟩] [1, 2, 3, 4, 8])
  (.seq
   (.seq
    (.reg false [⟨0, (some 11), .load (some 3) (.t 4), 0, none⟩, ⟨1, (some 12), .call 43 [.t 11], 2, none⟩, ⟨2, (some 10), .mv (.t 12), 0, none⟩] [1, 2, 3, 4, 8, 10])
    (.seq
     (.reg false [⟨0, (some 13), .mv (.t 10), 0, none⟩, ⟨1, (some 14), .bin .neq (.t 13) (.c (.int .i64 (0))), 0, none⟩] [1, 2, 3, 4, 8, 10, 14])
     (.cond (.t 14)
      (.seq
       (.reg false [⟨0, (some 15), .build [.int .i64 (0), .int .i64 (0), .int .i64 (0)] [], 0, none⟩, ⟨1, (some 16), .mv (.t 10), 0, none⟩, ⟨2, none, .store 3 (.t 8) (.t 15), 0, none⟩, ⟨3, (some 9), .mv (.t 16), 0, none⟩] [8, 9])
       (.ret))
      (.skip))))
   (.seq
    (.seq
     (.reg false [⟨0, (some 17), .load (some 3) (.t 4), 0, none⟩, ⟨1, (some 18), .mv (.t 1), 0, none⟩, ⟨2, (some 19), .bsl 1 1 [.int .i64 (0)] [(0, 1, .t 18)], 0, none⟩, ⟨3, (some 20), .call 64 [.t 17, .t 19], 2, none⟩, ⟨4, (some 21), .un .not (.t 20), 0, none⟩, ⟨5, (some 22), .mv (.t 21), 0, none⟩, ⟨6, (some 23), .load (some 3) (.t 4), 0, (some (22, false))⟩, ⟨7, (some 24), .mv (.t 2), 0, (some (22, false))⟩, ⟨8, (some 25), .mv (.t 3), 0, (some (22, false))⟩, ⟨9, (some 26), .bsl 1 2 [.int .i64 (0), .int .i64 (0)] [(0, 1, .t 24), (1, 1, .t 25)], 0, (some (22, false))⟩, ⟨10, (some 27), .call 66 [.t 23, .t 26], 2, (some (22, false))⟩, ⟨11, (some 28), .un .not (.t 27), 0, (some (22, false))⟩, ⟨12, (some 29), .pick (.t 22) (.c (.bool true)) (.t 28), 0, none⟩] [1, 2, 3, 4, 8, 29])
     (.cond (.t 29)
      (.seq
       (.reg false [⟨0, (some 30), .build [.int .i64 (0), .int .i64 (0), .int .i64 (0)] [], 0, none⟩, ⟨1, none, .store 3 (.t 8) (.t 30), 0, none⟩, ⟨2, (some 9), .mv (.c (.int .i64 (1))), 0, none⟩] [8, 9])
       (.ret))
      (.skip)))
    (.seq
     (.reg false [⟨0, (some 31), .load (some 3) (.t 4), 0, none⟩, ⟨1, (some 32), .mv (.t 1), 0, none⟩, ⟨2, (some 33), .mv (.t 2), 0, none⟩, ⟨3, (some 34), .mv (.t 3), 0, none⟩, ⟨4, (some 35), .call 71 [.t 31, .t 32, .t 33, .t 34], 2, none⟩, ⟨5, none, .store 3 (.t 8) (.t 35), 0, none⟩, ⟨6, (some 9), .mv (.c (.int .i64 (0))), 0, none⟩] [8, 9])
     (.ret))))

theorem ok35 : okF Tryz.prog 35 4 c35 [.cell (some 3) 8, .tmp 9] = true := by kernel_rfl

/-- dauber/dauberref08.Has -/
def c36 : C :=
 .seq
  (.reg false [⟨0, (some 2), .box 3 (.t 0), 0, none⟩, ⟨1, (some 4), .mv (.c (.bool false)), 0, none⟩] [1, 2])
  (.seq
   (.reg false [⟨0, (some 5), .mv (.t 1), 0, none⟩, ⟨1, (some 6), .bin .geq (.t 5) (.c (.int .i64 (1))), 0, none⟩, ⟨2, (some 7), .mv (.t 6), 0, none⟩, ⟨3, (some 8), .mv (.t 1), 0, (some (7, true))⟩, ⟨4, (some 9), .faddr 0 (.t 2), 0, (some (7, true))⟩, ⟨5, (some 10), .load none (.t 9), 0, (some (7, true))⟩, ⟨6, (some 11), .bin .lss (.t 8) (.t 10), 0, (some (7, true))⟩, ⟨7, (some 12), .pick (.t 7) (.t 11) (.c (.bool false)), 0, none⟩, ⟨8, (some 13), .mv (.t 12), 0, none⟩, ⟨9, (some 14), .mv (.t 1), 0, (some (13, true))⟩, ⟨10, (some 15), .faddr 1 (.t 2), 0, (some (13, true))⟩, ⟨11, (some 16), .load none (.t 15), 0, (some (13, true))⟩, ⟨12, (some 17), .faddr 0 (.t 2), 0, (some (13, true))⟩, ⟨13, (some 18), .load none (.t 17), 0, (some (13, true))⟩, ⟨14, (some 19), .call 63 [.t 14, .t 16, .t 18], 2, (some (13, true))⟩, ⟨15, (some 20), .bin .eql (.t 19) (.c (.int .i64 (1))), 0, (some (13, true))⟩, ⟨16, (some 21), .pick (.t 13) (.t 20) (.c (.bool false)), 0, none⟩, ⟨17, (some 4), .mv (.t 21), 0, none⟩] [4])
   (.ret))

theorem ok36 : okF Tryz.prog 36 2 c36 [.tmp 4] = true := by kernel_rfl

/-- dauber/dauberref08.Imitate -/
def c37 : C :=
 .seq
  (.reg false [⟨0, (some 4), .box 3 (.t 0), 0, none⟩, ⟨1, (some 8), .alloc [.int .i64 (0), .int .i64 (0), .int .i64 (0)] 3, 0, none⟩] [1, 2, 3, 4, 8])
  (.seq
   (.reg true [⟨0, (some 9), .faddr 2 (.t 4), 0, none⟩, ⟨2, (some 11), .mv (.t 3), 0, none⟩, ⟨3, (some 12), .faddr 0 (.t 4), 0, none⟩, ⟨6, (some 15), .mv (.t 1), 0, none⟩, ⟨7, (some 16), .faddr 1 (.t 4), 0, none⟩, ⟨9, (some 18), .mv (.t 2), 0, none⟩, ⟨11, (some 20), .faddr 1 (.t 4), 0, none⟩, ⟨14, (some 23), .faddr 0 (.t 4), 0, none⟩, ⟨18, (some 27), .faddr 0 (.t 4), 0, none⟩, ⟨21, (some 30), .mv (.t 2), 0, none⟩, ⟨22, (some 31), .mv (.t 3), 0, none⟩, ⟨1, (some 10), .load none (.t 9), 0, none⟩, ⟨4, (some 13), .load none (.t 12), 0, none⟩, ⟨8, (some 17), .load none (.t 16), 0, none⟩, ⟨10, (some 19), .bin .sub (.t 17) (.t 18), 0, none⟩, ⟨12, (some 21), .load none (.t 20), 0, none⟩, ⟨13, (some 22), .bin .rem (.t 19) (.t 21), 0, none⟩, ⟨15, (some 24), .load none (.t 23), 0, none⟩, ⟨19, (some 28), .load none (.t 27), 0, none⟩, ⟨5, (some 14), .call 63 [.t 10, .t 11, .t 13], 1, none⟩, ⟨16, (some 25), .call 63 [.t 15, .t 22, .t 24], 1, none⟩, ⟨17, (some 26), .bin .mul (.t 14) (.t 25), 0, none⟩, ⟨20, (some 29), .bin .rem (.t 26) (.t 28), 0, none⟩, ⟨23, (some 32), .build [.int .i64 (0), .int .i64 (0), .int .i64 (0)] [(0, 1, .t 29), (1, 1, .t 30), (2, 1, .t 31)], 0, none⟩, ⟨24, none, .store 3 (.t 8) (.t 32), 0, none⟩] [8])
   (.ret))

theorem ok37 : okF Tryz.prog 37 4 c37 [.cell (some 3) 8] = true := by kernel_rfl

/-- dauber/dauberref08.Power -/
def c38 : C :=
 .seq
  (.reg false [⟨0, (some 2), .box 3 (.t 0), 0, none⟩, ⟨1, (some 4), .mv (.c (.int .i64 (0))), 0, none⟩] [1, 2])
  (.seq
   (.reg false [⟨0, (some 5), .faddr 2 (.t 2), 0, none⟩, ⟨1, (some 6), .load none (.t 5), 0, none⟩, ⟨2, (some 7), .mv (.t 1), 0, none⟩, ⟨3, (some 8), .faddr 0 (.t 2), 0, none⟩, ⟨4, (some 9), .load none (.t 8), 0, none⟩, ⟨5, (some 10), .call 63 [.t 6, .t 7, .t 9], 2, none⟩, ⟨6, (some 4), .mv (.t 10), 0, none⟩] [4])
   (.ret))

theorem ok38 : okF Tryz.prog 38 2 c38 [.tmp 4] = true := by kernel_rfl

/-- (dauber/share.Group).Power -/
def c39 : C :=
 .seq
  (.reg false [⟨0, (some 2), .box 3 (.t 0), 0, none⟩, ⟨1, (some 4), .mv (.c (.int .i64 (0))), 0, none⟩, ⟨2, (some 5), .mv (.c (.int .i64 (0))), 0, none⟩] [1, 2])
  (.seq
   (.seq
    (.reg false [⟨0, (some 7), .load (some 3) (.t 2), 0, none⟩, ⟨1, (some 8), .call 43 [.t 7], 2, none⟩, ⟨2, (some 6), .mv (.t 8), 0, none⟩] [1, 2, 6])
    (.seq
     (.reg false [⟨0, (some 9), .mv (.t 6), 0, none⟩, ⟨1, (some 10), .bin .neq (.t 9) (.c (.int .i64 (0))), 0, none⟩] [1, 2, 6, 10])
     (.cond (.t 10)
      (.seq
       (.reg false [⟨0, (some 11), .mv (.t 6), 0, none⟩, ⟨1, (some 4), .mv (.c (.int .i64 (0))), 0, none⟩, ⟨2, (some 5), .mv (.t 11), 0, none⟩] [4, 5])
       (.ret))
      (.skip))))
   (.seq
    (.seq
     (.reg false [⟨0, (some 12), .load (some 3) (.t 2), 0, none⟩, ⟨1, (some 13), .mv (.t 1), 0, none⟩, ⟨2, (some 14), .bsl 1 1 [.int .i64 (0)] [(0, 1, .t 13)], 0, none⟩, ⟨3, (some 15), .call 66 [.t 12, .t 14], 2, none⟩, ⟨4, (some 16), .un .not (.t 15), 0, none⟩] [1, 2, 16])
     (.cond (.t 16)
      (.seq
       (.reg false [⟨0, (some 4), .mv (.c (.int .i64 (0))), 0, none⟩, ⟨1, (some 5), .mv (.c (.int .i64 (1))), 0, none⟩] [4, 5])
       (.ret))
      (.skip)))
    (.seq
     (.reg false [⟨0, (some 17), .load (some 3) (.t 2), 0, none⟩, ⟨1, (some 18), .mv (.t 1), 0, none⟩, ⟨2, (some 19), .call 62 [.t 17, .t 18], 2, none⟩, ⟨3, (some 4), .mv (.t 19), 0, none⟩, ⟨4, (some 5), .mv (.c (.int .i64 (0))), 0, none⟩] [4, 5])
     (.ret))))

theorem ok39 : okF Tryz.prog 39 2 c39 [.tmp 4, .tmp 5] = true := by kernel_rfl

/-- dauber/share.Find -/
def c40 : C :=
 .seq
  (.reg false [⟨0, (some 2), .alloc [.int .i64 (0), .int .i64 (0), .int .i64 (0)] 3, 0, none⟩, ⟨1, (some 3), .mv (.c (.int .i64 (0))), 0, none⟩] [0, 2])
  (.seq
   (.seq
    (.reg false [⟨0, (some 7), .mv (.t 0), 0, none⟩, ⟨1, (some 8), .bsl 1 1 [.int .i64 (0)] [(0, 1, .t 7)], 0, none⟩, ⟨2, (some 9), .call 65 [.c (.int .i64 (3)), .c (.int .i64 (65521)), .t 8], 2, none⟩, ⟨3, (some 10), .un .not (.t 9), 0, none⟩, ⟨4, (some 11), .mv (.t 10), 0, none⟩, ⟨5, (some 12), .mv (.t 0), 0, (some (11, false))⟩, ⟨6, (some 13), .call 73 [.t 12], 2, (some (11, false))⟩, ⟨7, (some 14), .un .not (.t 13), 0, (some (11, false))⟩, ⟨8, (some 15), .pick (.t 11) (.c (.bool true)) (.t 14), 0, none⟩] [0, 2, 15])
    (.cond (.t 15)
     (.seq
      (.reg false [⟨0, (some 16), .build [.int .i64 (0), .int .i64 (0), .int .i64 (0)] [], 0, none⟩, ⟨1, none, .store 3 (.t 2) (.t 16), 0, none⟩, ⟨2, (some 3), .mv (.c (.int .i64 (1))), 0, none⟩] [2, 3])
      (.ret))
     (.skip)))
   (.seq
    (.reg false [⟨0, (some 17), .mv (.t 0), 0, none⟩, ⟨1, (some 18), .bin .add (.t 17) (.c (.int .i64 (1))), 0, none⟩, ⟨2, (some 4), .mv (.t 18), 0, none⟩] [0, 2, 4])
    (.seq
     (.blk 0
      (.loop [0, 2, 4]
       (.seq
        (.seq
         (.reg false [⟨0, (some 19), .mv (.t 4), 0, none⟩, ⟨1, (some 20), .call 73 [.t 19], 2, none⟩, ⟨2, (some 21), .un .not (.t 20), 0, none⟩] [0, 2, 4, 21])
         (.cond (.t 21)
          (.skip)
          (.exit 0)))
        (.blk 1
         (.reg false [⟨0, (some 22), .mv (.t 4), 0, none⟩, ⟨1, (some 23), .mv (.t 0), 0, none⟩, ⟨2, (some 24), .bin .add (.t 22) (.t 23), 0, none⟩, ⟨3, (some 4), .mv (.t 24), 0, none⟩] [0, 2, 4])))))
     (.seq
      (.reg false [⟨0, (some 5), .mv (.c (.int .i64 (2))), 0, none⟩] [0, 2, 4, 5])
      (.blk 2
       (.loop [0, 2, 4, 5]
        (.seq
         (.blk 3
          (.seq
           (.reg false [⟨0, (some 27), .mv (.t 4), 0, none⟩, ⟨1, (some 28), .mv (.t 5), 0, none⟩, ⟨2, (some 29), .mv (.t 4), 0, none⟩, ⟨3, (some 30), .bin .sub (.t 29) (.c (.int .i64 (1))), 0, none⟩, ⟨4, (some 31), .mv (.t 0), 0, none⟩, ⟨5, (some 32), .bin .quo (.t 30) (.t 31), 0, none⟩, ⟨6, (some 33), .call 68 [.t 27, .t 28, .t 32], 2, none⟩, ⟨7, (some 6), .mv (.t 33), 0, none⟩] [0, 2, 4, 5, 6])
           (.seq
            (.reg false [⟨0, (some 34), .mv (.t 6), 0, none⟩, ⟨1, (some 35), .bin .neq (.t 34) (.c (.int .i64 (1))), 0, none⟩] [0, 2, 4, 5, 6, 35])
            (.cond (.t 35)
             (.seq
              (.reg false [⟨0, (some 36), .mv (.t 4), 0, none⟩, ⟨1, (some 37), .mv (.t 0), 0, none⟩, ⟨2, (some 38), .mv (.t 6), 0, none⟩, ⟨3, (some 39), .build [.int .i64 (0), .int .i64 (0), .int .i64 (0)] [(0, 1, .t 36), (1, 1, .t 37), (2, 1, .t 38)], 0, none⟩, ⟨4, none, .store 3 (.t 2) (.t 39), 0, none⟩, ⟨5, (some 3), .mv (.c (.int .i64 (0))), 0, none⟩] [2, 3])
              (.ret))
             (.skip)))))
         (.reg false [⟨0, (some 25), .mv (.t 5), 0, none⟩, ⟨1, (some 26), .bin .add (.t 25) (.c (.int .i64 (1))), 0, none⟩, ⟨2, (some 5), .mv (.t 26), 0, none⟩] [0, 2, 4, 5]))))))))

theorem ok40 : okF Tryz.prog 40 1 c40 [.cell (some 3) 2, .tmp 3] = true := by kernel_rfl

/-- dauber/dauberref08.Find -/
def c41 : C :=
 .seq
  (.reg false [⟨0, (some 2), .alloc [.int .i64 (0), .int .i64 (0), .int .i64 (0)] 3, 0, none⟩, ⟨1, (some 3), .mv (.c (.bool false)), 0, none⟩] [0, 2])
  (.seq
   (.seq
    (.reg false [⟨0, (some 6), .mv (.t 0), 0, none⟩, ⟨1, (some 7), .bin .lss (.t 6) (.c (.int .i64 (3))), 0, none⟩, ⟨2, (some 8), .mv (.t 7), 0, none⟩, ⟨3, (some 9), .mv (.t 0), 0, (some (8, false))⟩, ⟨4, (some 10), .bin .gtr (.t 9) (.c (.int .i64 (65521))), 0, (some (8, false))⟩, ⟨5, (some 11), .pick (.t 8) (.c (.bool true)) (.t 10), 0, none⟩, ⟨6, (some 12), .mv (.t 11), 0, none⟩, ⟨7, (some 13), .mv (.t 0), 0, (some (12, false))⟩, ⟨8, (some 14), .call 74 [.t 13], 2, (some (12, false))⟩, ⟨9, (some 15), .un .not (.t 14), 0, (some (12, false))⟩, ⟨10, (some 16), .pick (.t 12) (.c (.bool true)) (.t 15), 0, none⟩] [0, 2, 16])
    (.cond (.t 16)
     (.seq
      (.reg false [⟨0, (some 17), .build [.int .i64 (0), .int .i64 (0), .int .i64 (0)] [], 0, none⟩, ⟨1, none, .store 3 (.t 2) (.t 17), 0, none⟩, ⟨2, (some 3), .mv (.c (.bool false)), 0, none⟩] [2, 3])
      (.ret))
     (.skip)))
   (.seq
    (.reg false [⟨0, (some 18), .mv (.t 0), 0, none⟩, ⟨1, (some 19), .bin .add (.t 18) (.c (.int .i64 (1))), 0, none⟩, ⟨2, (some 4), .mv (.t 19), 0, none⟩] [0, 2, 4])
    (.seq
     (.blk 0
      (.loop [0, 2, 4]
       (.seq
        (.seq
         (.reg false [⟨0, (some 20), .mv (.t 4), 0, none⟩, ⟨1, (some 21), .call 74 [.t 20], 2, none⟩, ⟨2, (some 22), .un .not (.t 21), 0, none⟩] [0, 2, 4, 22])
         (.cond (.t 22)
          (.skip)
          (.exit 0)))
        (.blk 1
         (.reg false [⟨0, (some 23), .mv (.t 4), 0, none⟩, ⟨1, (some 24), .mv (.t 0), 0, none⟩, ⟨2, (some 25), .bin .add (.t 23) (.t 24), 0, none⟩, ⟨3, (some 4), .mv (.t 25), 0, none⟩] [0, 2, 4])))))
     (.seq
      (.reg false [⟨0, (some 5), .mv (.c (.int .i64 (2))), 0, none⟩] [0, 2, 4, 5])
      (.seq
       (.blk 2
        (.loop [0, 2, 4, 5]
         (.seq
          (.seq
           (.reg false [⟨0, (some 26), .mv (.t 5), 0, none⟩, ⟨1, (some 27), .mv (.t 4), 0, none⟩, ⟨2, (some 28), .bin .sub (.t 27) (.c (.int .i64 (1))), 0, none⟩, ⟨3, (some 29), .mv (.t 0), 0, none⟩, ⟨4, (some 30), .bin .quo (.t 28) (.t 29), 0, none⟩, ⟨5, (some 31), .mv (.t 4), 0, none⟩, ⟨6, (some 32), .call 63 [.t 26, .t 30, .t 31], 2, none⟩, ⟨7, (some 33), .bin .eql (.t 32) (.c (.int .i64 (1))), 0, none⟩] [0, 2, 4, 5, 33])
           (.cond (.t 33)
            (.skip)
            (.exit 2)))
          (.blk 3
           (.reg false [⟨0, (some 34), .mv (.t 5), 0, none⟩, ⟨1, (some 35), .bin .add (.t 34) (.c (.int .i64 (1))), 0, none⟩, ⟨2, (some 5), .mv (.t 35), 0, none⟩] [0, 2, 4, 5])))))
       (.seq
        (.reg false [⟨0, (some 36), .mv (.t 4), 0, none⟩, ⟨1, (some 37), .mv (.t 0), 0, none⟩, ⟨2, (some 38), .mv (.t 5), 0, none⟩, ⟨3, (some 39), .mv (.t 4), 0, none⟩, ⟨4, (some 40), .bin .sub (.t 39) (.c (.int .i64 (1))), 0, none⟩, ⟨5, (some 41), .mv (.t 0), 0, none⟩, ⟨6, (some 42), .bin .quo (.t 40) (.t 41), 0, none⟩, ⟨7, (some 43), .mv (.t 4), 0, none⟩, ⟨8, (some 44), .call 63 [.t 38, .t 42, .t 43], 2, none⟩, ⟨9, (some 45), .build [.int .i64 (0), .int .i64 (0), .int .i64 (0)] [(0, 1, .t 36), (1, 1, .t 37), (2, 1, .t 44)], 0, none⟩, ⟨10, none, .store 3 (.t 2) (.t 45), 0, none⟩, ⟨11, (some 3), .mv (.c (.bool true)), 0, none⟩] [2, 3])
        (.ret)))))))

theorem ok41 : okF Tryz.prog 41 1 c41 [.cell (some 3) 2, .tmp 3] = true := by kernel_rfl

/-- dauber/dauberref08.Check -/
def c42 : C :=
 .seq
  (.reg false [⟨0, (some 1), .box 3 (.t 0), 0, none⟩, ⟨1, (some 2), .mv (.c (.int .i64 (0))), 0, none⟩] [1])
  (.seq
   (.seq
    (.reg false [⟨0, (some 3), .faddr 0 (.t 1), 0, none⟩, ⟨1, (some 4), .load none (.t 3), 0, none⟩, ⟨2, (some 5), .bin .lss (.t 4) (.c (.int .i64 (3))), 0, none⟩, ⟨3, (some 6), .mv (.t 5), 0, none⟩, ⟨4, (some 7), .faddr 0 (.t 1), 0, (some (6, false))⟩, ⟨5, (some 8), .load none (.t 7), 0, (some (6, false))⟩, ⟨6, (some 9), .bin .gtr (.t 8) (.c (.int .i64 (2147483647))), 0, (some (6, false))⟩, ⟨7, (some 10), .pick (.t 6) (.c (.bool true)) (.t 9), 0, none⟩, ⟨8, (some 11), .mv (.t 10), 0, none⟩, ⟨9, (some 12), .faddr 1 (.t 1), 0, (some (11, false))⟩, ⟨10, (some 13), .load none (.t 12), 0, (some (11, false))⟩, ⟨11, (some 14), .bin .lss (.t 13) (.c (.int .i64 (3))), 0, (some (11, false))⟩, ⟨12, (some 15), .pick (.t 11) (.c (.bool true)) (.t 14), 0, none⟩, ⟨13, (some 16), .mv (.t 15), 0, none⟩, ⟨14, (some 17), .faddr 1 (.t 1), 0, (some (16, false))⟩, ⟨15, (some 18), .load none (.t 17), 0, (some (16, false))⟩, ⟨16, (some 19), .bin .gtr (.t 18) (.c (.int .i64 (65521))), 0, (some (16, false))⟩, ⟨17, (some 20), .pick (.t 16) (.c (.bool true)) (.t 19), 0, none⟩, ⟨18, (some 21), .mv (.t 20), 0, none⟩, ⟨19, (some 22), .faddr 2 (.t 1), 0, (some (21, false))⟩, ⟨20, (some 23), .load none (.t 22), 0, (some (21, false))⟩, ⟨21, (some 24), .bin .lss (.t 23) (.c (.int .i64 (2))), 0, (some (21, false))⟩, ⟨22, (some 25), .pick (.t 21) (.c (.bool true)) (.t 24), 0, none⟩, ⟨23, (some 26), .mv (.t 25), 0, none⟩, ⟨24, (some 27), .faddr 2 (.t 1), 0, (some (26, false))⟩, ⟨25, (some 28), .load none (.t 27), 0, (some (26, false))⟩, ⟨26, (some 29), .faddr 0 (.t 1), 0, (some (26, false))⟩, ⟨27, (some 30), .load none (.t 29), 0, (some (26, false))⟩, ⟨28, (some 31), .bin .geq (.t 28) (.t 30), 0, (some (26, false))⟩, ⟨29, (some 32), .pick (.t 26) (.c (.bool true)) (.t 31), 0, none⟩] [1, 32])
    (.cond (.t 32)
     (.seq
      (.reg false [⟨0, (some 2), .mv (.c (.int .i64 (80))), 0, none⟩] [2])
      (.ret))
     (.skip)))
   (.seq
    (.seq
     (.reg false [⟨0, (some 33), .faddr 0 (.t 1), 0, none⟩, ⟨1, (some 34), .load none (.t 33), 0, none⟩, ⟨2, (some 35), .call 74 [.t 34], 2, none⟩, ⟨3, (some 36), .un .not (.t 35), 0, none⟩, ⟨4, (some 37), .mv (.t 36), 0, none⟩, ⟨5, (some 38), .faddr 1 (.t 1), 0, (some (37, false))⟩, ⟨6, (some 39), .load none (.t 38), 0, (some (37, false))⟩, ⟨7, (some 40), .call 74 [.t 39], 2, (some (37, false))⟩, ⟨8, (some 41), .un .not (.t 40), 0, (some (37, false))⟩, ⟨9, (some 42), .pick (.t 37) (.c (.bool true)) (.t 41), 0, none⟩, ⟨10, (some 43), .mv (.t 42), 0, none⟩, ⟨11, (some 44), .faddr 0 (.t 1), 0, (some (43, false))⟩, ⟨12, (some 45), .load none (.t 44), 0, (some (43, false))⟩, ⟨13, (some 46), .bin .sub (.t 45) (.c (.int .i64 (1))), 0, (some (43, false))⟩, ⟨14, (some 47), .faddr 1 (.t 1), 0, (some (43, false))⟩, ⟨15, (some 48), .load none (.t 47), 0, (some (43, false))⟩, ⟨16, (some 49), .bin .rem (.t 46) (.t 48), 0, (some (43, false))⟩, ⟨17, (some 50), .bin .neq (.t 49) (.c (.int .i64 (0))), 0, (some (43, false))⟩, ⟨18, (some 51), .pick (.t 43) (.c (.bool true)) (.t 50), 0, none⟩, ⟨19, (some 52), .mv (.t 51), 0, none⟩, ⟨20, (some 53), .faddr 2 (.t 1), 0, (some (52, false))⟩, ⟨21, (some 54), .load none (.t 53), 0, (some (52, false))⟩, ⟨22, (some 55), .faddr 1 (.t 1), 0, (some (52, false))⟩, ⟨23, (some 56), .load none (.t 55), 0, (some (52, false))⟩, ⟨24, (some 57), .faddr 0 (.t 1), 0, (some (52, false))⟩, ⟨25, (some 58), .load none (.t 57), 0, (some (52, false))⟩, ⟨26, (some 59), .call 63 [.t 54, .t 56, .t 58], 2, (some (52, false))⟩, ⟨27, (some 60), .bin .neq (.t 59) (.c (.int .i64 (1))), 0, (some (52, false))⟩, ⟨28, (some 61), .pick (.t 52) (.c (.bool true)) (.t 60), 0, none⟩] [61])
     (.cond (.t 61)
      (.seq
       (.reg false [⟨0, (some 2), .mv (.c (.int .i64 (80))), 0, none⟩] [2])
       (.ret))
      (.skip)))
    (.seq
     (.reg false [⟨0, (some 2), .mv (.c (.int .i64 (0))), 0, none⟩] [2])
     (.ret))))

theorem ok42 : okF Tryz.prog 42 1 c42 [.tmp 2] = true := by kernel_rfl

/-- dauber/share.Check -/
def c43 : C :=
 .seq
  (.reg false [⟨0, (some 1), .box 3 (.t 0), 0, none⟩, ⟨1, (some 2), .mv (.c (.int .i64 (0))), 0, none⟩] [1])
  (.seq
   (.seq
    (.reg false [⟨0, (some 3), .faddr 0 (.t 1), 0, none⟩, ⟨1, (some 4), .load none (.t 3), 0, none⟩, ⟨2, (some 5), .bsl 1 1 [.int .i64 (0)] [(0, 1, .t 4)], 0, none⟩, ⟨3, (some 6), .call 65 [.c (.int .i64 (3)), .c (.int .i64 (2147483647)), .t 5], 2, none⟩, ⟨4, (some 7), .un .not (.t 6), 0, none⟩, ⟨5, (some 8), .mv (.t 7), 0, none⟩, ⟨6, (some 9), .faddr 1 (.t 1), 0, (some (8, false))⟩, ⟨7, (some 10), .load none (.t 9), 0, (some (8, false))⟩, ⟨8, (some 11), .bsl 1 1 [.int .i64 (0)] [(0, 1, .t 10)], 0, (some (8, false))⟩, ⟨9, (some 12), .call 65 [.c (.int .i64 (3)), .c (.int .i64 (65521)), .t 11], 2, (some (8, false))⟩, ⟨10, (some 13), .un .not (.t 12), 0, (some (8, false))⟩, ⟨11, (some 14), .pick (.t 8) (.c (.bool true)) (.t 13), 0, none⟩, ⟨12, (some 15), .mv (.t 14), 0, none⟩, ⟨13, (some 16), .faddr 0 (.t 1), 0, (some (15, false))⟩, ⟨14, (some 17), .load none (.t 16), 0, (some (15, false))⟩, ⟨15, (some 18), .bin .sub (.t 17) (.c (.int .i64 (1))), 0, (some (15, false))⟩, ⟨16, (some 19), .faddr 1 (.t 1), 0, (some (15, false))⟩, ⟨17, (some 20), .load none (.t 19), 0, (some (15, false))⟩, ⟨18, (some 21), .bin .rem (.t 18) (.t 20), 0, (some (15, false))⟩, ⟨19, (some 22), .bin .neq (.t 21) (.c (.int .i64 (0))), 0, (some (15, false))⟩, ⟨20, (some 23), .pick (.t 15) (.c (.bool true)) (.t 22), 0, none⟩, ⟨21, (some 24), .mv (.t 23), 0, none⟩, ⟨22, (some 25), .faddr 0 (.t 1), 0, (some (24, false))⟩, ⟨23, (some 26), .load none (.t 25), 0, (some (24, false))⟩, ⟨24, (some 27), .bin .sub (.t 26) (.c (.int .i64 (1))), 0, (some (24, false))⟩, ⟨25, (some 28), .faddr 2 (.t 1), 0, (some (24, false))⟩, ⟨26, (some 29), .load none (.t 28), 0, (some (24, false))⟩, ⟨27, (some 30), .bsl 1 1 [.int .i64 (0)] [(0, 1, .t 29)], 0, (some (24, false))⟩, ⟨28, (some 31), .call 65 [.c (.int .i64 (2)), .t 27, .t 30], 2, (some (24, false))⟩, ⟨29, (some 32), .un .not (.t 31), 0, (some (24, false))⟩, ⟨30, (some 33), .pick (.t 24) (.c (.bool true)) (.t 32), 0, none⟩, ⟨31, (some 34), .mv (.t 33), 0, none⟩, ⟨32, (some 35), .faddr 0 (.t 1), 0, (some (34, false))⟩, ⟨33, (some 36), .load none (.t 35), 0, (some (34, false))⟩, ⟨34, (some 37), .call 73 [.t 36], 2, (some (34, false))⟩, ⟨35, (some 38), .un .not (.t 37), 0, (some (34, false))⟩, ⟨36, (some 39), .pick (.t 34) (.c (.bool true)) (.t 38), 0, none⟩, ⟨37, (some 40), .mv (.t 39), 0, none⟩, ⟨38, (some 41), .faddr 1 (.t 1), 0, (some (40, false))⟩, ⟨39, (some 42), .load none (.t 41), 0, (some (40, false))⟩, ⟨40, (some 43), .call 73 [.t 42], 2, (some (40, false))⟩, ⟨41, (some 44), .un .not (.t 43), 0, (some (40, false))⟩, ⟨42, (some 45), .pick (.t 40) (.c (.bool true)) (.t 44), 0, none⟩, ⟨43, (some 46), .mv (.t 45), 0, none⟩, ⟨44, (some 47), .faddr 0 (.t 1), 0, (some (46, false))⟩, ⟨45, (some 48), .load none (.t 47), 0, (some (46, false))⟩, ⟨46, (some 49), .faddr 2 (.t 1), 0, (some (46, false))⟩, ⟨47, (some 50), .load none (.t 49), 0, (some (46, false))⟩, ⟨48, (some 51), .faddr 1 (.t 1), 0, (some (46, false))⟩, ⟨49, (some 52), .load none (.t 51), 0, (some (46, false))⟩, ⟨50, (some 53), .call 68 [.t 48, .t 50, .t 52], 2, (some (46, false))⟩, ⟨51, (some 54), .bin .neq (.t 53) (.c (.int .i64 (1))), 0, (some (46, false))⟩, ⟨52, (some 55), .pick (.t 46) (.c (.bool true)) (.t 54), 0, none⟩] [55])
    (.cond (.t 55)
     (.seq
      (.reg false [⟨0, (some 2), .mv (.c (.int .i64 (80))), 0, none⟩] [2])
      (.ret))
     (.skip)))
   (.seq
    (.reg false [⟨0, (some 2), .mv (.c (.int .i64 (0))), 0, none⟩] [2])
    (.ret)))

theorem ok43 : okF Tryz.prog 43 1 c43 [.tmp 2] = true := by kernel_rfl

/-- dauber/share.Heal -/
def c44 : C :=
 .seq
  (.reg false [⟨0, (some 4), .box 3 (.t 0), 0, none⟩, ⟨1, (some 8), .mv (.c (.int .i64 (0))), 0, none⟩, ⟨2, (some 9), .nilo 1, 0, none⟩, ⟨3, (some 10), .mv (.c (.int .i64 (0))), 0, none⟩] [1, 2, 3, 4, 9])
  (.seq
   (.seq
    (.reg false [⟨0, (some 17), .load (some 3) (.t 4), 0, none⟩, ⟨1, (some 18), .mv (.t 2), 0, none⟩, ⟨2, (some 19), .mv (.t 3), 0, none⟩, ⟨3, (some 20), .call 46 [.t 17, .t 18, .t 19], 2, none⟩, ⟨4, (some 11), .mv (.t 20), 0, none⟩] [1, 2, 3, 4, 9, 11])
    (.seq
     (.reg false [⟨0, (some 21), .mv (.t 11), 0, none⟩, ⟨1, (some 22), .bin .neq (.t 21) (.c (.int .i64 (0))), 0, none⟩] [1, 2, 3, 4, 9, 11, 22])
     (.cond (.t 22)
      (.seq
       (.reg false [⟨0, (some 23), .mv (.t 11), 0, none⟩, ⟨1, (some 8), .mv (.c (.int .i64 (0))), 0, none⟩, ⟨2, (some 9), .nilo 1, 0, none⟩, ⟨3, (some 10), .mv (.t 23), 0, none⟩] [8, 9, 10])
       (.ret))
      (.skip))))
   (.seq
    (.seq
     (.reg false [⟨0, (some 24), .mv (.t 1), 0, none⟩, ⟨1, (some 25), .bin .lss (.t 24) (.c (.int .i64 (0))), 0, none⟩, ⟨2, (some 26), .mv (.t 25), 0, none⟩, ⟨3, (some 27), .mv (.t 1), 0, (some (26, false))⟩, ⟨4, (some 28), .bin .geq (.t 27) (.c (.int .i64 (16))), 0, (some (26, false))⟩, ⟨5, (some 29), .pick (.t 26) (.c (.bool true)) (.t 28), 0, none⟩, ⟨6, (some 30), .mv (.t 29), 0, none⟩, ⟨7, (some 31), .mv (.t 1), 0, (some (30, false))⟩, ⟨8, (some 32), .mv (.t 2), 0, (some (30, false))⟩, ⟨9, (some 33), .len none (.t 32), 0, (some (30, false))⟩, ⟨10, (some 34), .bin .geq (.t 31) (.t 33), 0, (some (30, false))⟩, ⟨11, (some 35), .pick (.t 30) (.c (.bool true)) (.t 34), 0, none⟩] [1, 2, 3, 4, 9, 35])
     (.cond (.t 35)
      (.seq
       (.reg false [⟨0, (some 8), .mv (.c (.int .i64 (0))), 0, none⟩, ⟨1, (some 9), .nilo 1, 0, none⟩, ⟨2, (some 10), .mv (.c (.int .i64 (1))), 0, none⟩] [8, 9, 10])
       (.ret))
      (.skip)))
    (.seq
     (.reg true [⟨0, (some 36), .faddr 1 (.t 4), 0, none⟩, ⟨2, (some 38), .mv (.t 2), 0, none⟩, ⟨4, (some 40), .mv (.t 1), 0, none⟩, ⟨5, (some 41), .bin .add (.t 40) (.c (.int .i64 (1))), 0, none⟩, ⟨1, (some 37), .load none (.t 36), 0, none⟩, ⟨3, (some 39), .call 55 [.t 38], 1, none⟩, ⟨6, (some 42), .build [.int .i64 (0), .nils, .int .i64 (0)] [(0, 1, .t 37), (1, 1, .t 39), (2, 1, .t 41)], 0, none⟩, ⟨7, (some 12), .alloc [.int .i64 (0), .nils, .int .i64 (0)] 3, 0, none⟩, ⟨8, none, .store 3 (.t 12) (.t 42), 0, none⟩] [3, 9, 12])
     (.seq
      (.reg true [⟨1, (some 45), .mv (.t 3), 0, none⟩, ⟨0, (some 44), .load (some 3) (.t 12), 0, none⟩, ⟨2, (some 46), .call 55 [.t 45], 1, none⟩, ⟨3, (some 47), .call 75 [.t 44, .t 46, .c (.nils)], 1, none⟩, ⟨4, (some 43), .mv (.t 47), 0, none⟩, ⟨5, (some 48), .ext 0 (.t 43), 0, none⟩, ⟨6, (some 49), .ext 1 (.t 43), 0, none⟩, ⟨7, (some 13), .mv (.t 48), 0, none⟩, ⟨8, (some 10), .mv (.t 49), 0, none⟩] [3, 9, 10, 12, 13])
      (.seq
       (.seq
        (.reg false [⟨0, (some 50), .mv (.t 10), 0, none⟩, ⟨1, (some 51), .bin .neq (.t 50) (.c (.int .i64 (0))), 0, none⟩] [3, 9, 10, 12, 13, 51])
        (.cond (.t 51)
         (.seq
          (.reg false [⟨0, (some 52), .mv (.t 10), 0, none⟩, ⟨1, (some 8), .mv (.c (.int .i64 (0))), 0, none⟩, ⟨2, (some 9), .nilo 1, 0, none⟩, ⟨3, (some 10), .mv (.t 52), 0, none⟩] [8, 9, 10])
          (.ret))
         (.skip)))
       (.seq
        (.seq
         (.reg false [⟨0, (some 53), .mv (.t 13), 0, none⟩, ⟨1, (some 54), .call 56 [.t 53], 2, none⟩, ⟨2, (some 55), .len none (.t 54), 0, none⟩, ⟨3, (some 56), .mv (.c (.int .i64 (0))), 0, none⟩] [3, 9, 12, 13, 54, 55, 56])
         (.blk 0
          (.loop [3, 9, 12, 13, 54, 55, 56]
           (.seq
            (.reg false [⟨0, (some 57), .bin .lss (.t 56) (.t 55), 0, none⟩] [3, 9, 12, 13, 54, 55, 56, 57])
            (.seq
             (.cond (.t 57)
              (.skip)
              (.exit 0))
             (.seq
              (.blk 1
               (.seq
                (.reg false [⟨0, (some 58), .mv (.t 56), 0, none⟩, ⟨1, (some 59), .iaddr none 1 (.t 54) (.t 56), 0, none⟩, ⟨2, (some 60), .load none (.t 59), 0, none⟩, ⟨3, (some 14), .mv (.t 58), 0, none⟩, ⟨4, (some 15), .mv (.t 60), 0, none⟩] [3, 9, 12, 13, 14, 15, 54, 55, 56])
                (.seq
                 (.reg false [⟨0, (some 61), .mv (.t 15), 0, none⟩, ⟨1, (some 62), .mv (.t 3), 0, none⟩, ⟨2, (some 63), .mv (.t 14), 0, none⟩, ⟨3, (some 64), .iaddr none 1 (.t 62) (.t 63), 0, none⟩, ⟨4, (some 65), .load none (.t 64), 0, none⟩, ⟨5, (some 66), .bin .neq (.t 61) (.t 65), 0, none⟩] [3, 9, 12, 13, 14, 54, 55, 56, 66])
                 (.cond (.t 66)
                  (.reg false [⟨0, (some 67), .mv (.t 9), 0, none⟩, ⟨1, (some 68), .mv (.t 14), 0, none⟩, ⟨2, (some 69), .bsl 1 1 [.int .i64 (0)] [(0, 1, .t 68)], 0, none⟩, ⟨3, (some 70), .app 1 8 (.t 67) (.t 69), 0, none⟩, ⟨4, (some 9), .mv (.t 70), 0, none⟩] [3, 9, 12, 13, 54, 55, 56])
                  (.skip)))))
              (.reg false [⟨0, (some 71), .bin .add (.t 56) (.c (.int .i64 (1))), 0, none⟩, ⟨1, (some 56), .mv (.t 71), 0, none⟩] [3, 9, 12, 13, 54, 55, 56])))))))
        (.seq
         (.reg false [⟨0, (some 73), .load (some 3) (.t 12), 0, none⟩, ⟨1, (some 74), .mv (.t 13), 0, none⟩, ⟨2, (some 75), .call 76 [.t 73, .t 74], 2, none⟩, ⟨3, (some 72), .mv (.t 75), 0, none⟩, ⟨4, (some 76), .ext 0 (.t 72), 0, none⟩, ⟨5, (some 77), .ext 1 (.t 72), 0, none⟩, ⟨6, (some 16), .mv (.t 76), 0, none⟩, ⟨7, (some 10), .mv (.t 77), 0, none⟩] [9, 10, 16])
         (.seq
          (.seq
           (.reg false [⟨0, (some 78), .mv (.t 10), 0, none⟩, ⟨1, (some 79), .bin .neq (.t 78) (.c (.int .i64 (0))), 0, none⟩] [9, 10, 16, 79])
           (.cond (.t 79)
            (.seq
             (.reg false [⟨0, (some 80), .mv (.t 10), 0, none⟩, ⟨1, (some 8), .mv (.c (.int .i64 (0))), 0, none⟩, ⟨2, (some 9), .nilo 1, 0, none⟩, ⟨3, (some 10), .mv (.t 80), 0, none⟩] [8, 9, 10])
             (.ret))
            (.skip)))
          (.seq
           (.reg false [⟨0, (some 81), .mv (.t 16), 0, none⟩, ⟨1, (some 82), .iaddr none 1 (.t 81) (.c (.int .i64 (0))), 0, none⟩, ⟨2, (some 83), .load none (.t 82), 0, none⟩, ⟨3, (some 84), .mv (.t 9), 0, none⟩, ⟨4, (some 8), .mv (.t 83), 0, none⟩, ⟨5, (some 9), .mv (.t 84), 0, none⟩, ⟨6, (some 10), .mv (.c (.int .i64 (0))), 0, none⟩] [8, 9, 10])
           (.ret))))))))))

theorem ok44 : okF Tryz.prog 44 4 c44 [.tmp 8, .tmp 9, .tmp 10] = true := by kernel_rfl

/-- (dauber/share.Group).Has -/
def c45 : C :=
 .seq
  (.reg false [⟨0, (some 2), .box 3 (.t 0), 0, none⟩, ⟨1, (some 4), .mv (.c (.bool false)), 0, none⟩] [1, 2])
  (.seq
   (.reg false [⟨0, (some 5), .load (some 3) (.t 2), 0, none⟩, ⟨1, (some 6), .call 43 [.t 5], 2, none⟩, ⟨2, (some 7), .bin .eql (.t 6) (.c (.int .i64 (0))), 0, none⟩, ⟨3, (some 8), .mv (.t 7), 0, none⟩, ⟨4, (some 9), .load (some 3) (.t 2), 0, (some (8, true))⟩, ⟨5, (some 10), .mv (.t 1), 0, (some (8, true))⟩, ⟨6, (some 11), .bsl 1 1 [.int .i64 (0)] [(0, 1, .t 10)], 0, (some (8, true))⟩, ⟨7, (some 12), .call 64 [.t 9, .t 11], 2, (some (8, true))⟩, ⟨8, (some 13), .pick (.t 8) (.t 12) (.c (.bool false)), 0, none⟩, ⟨9, (some 4), .mv (.t 13), 0, none⟩] [4])
   (.ret))

theorem ok45 : okF Tryz.prog 45 2 c45 [.tmp 4] = true := by kernel_rfl

/-- dauber/share.checkShares -/
def c46 : C :=
 .seq
  (.reg false [⟨0, (some 3), .box 3 (.t 0), 0, none⟩, ⟨1, (some 6), .alloc [.int .i64 (0)] 1, 0, none⟩] [1, 2, 3, 6])
  (.seq
   (.seq
    (.reg false [⟨0, (some 12), .load (some 3) (.t 3), 0, none⟩, ⟨1, (some 13), .call 43 [.t 12], 2, none⟩, ⟨2, (some 7), .mv (.t 13), 0, none⟩] [1, 2, 3, 6, 7])
    (.seq
     (.reg false [⟨0, (some 14), .mv (.t 7), 0, none⟩, ⟨1, (some 15), .bin .neq (.t 14) (.c (.int .i64 (0))), 0, none⟩] [1, 2, 3, 6, 7, 15])
     (.cond (.t 15)
      (.seq
       (.reg false [⟨0, (some 16), .mv (.t 7), 0, none⟩, ⟨1, none, .store 1 (.t 6) (.t 16), 0, none⟩] [6])
       (.ret))
      (.skip))))
   (.seq
    (.seq
     (.reg false [⟨0, (some 17), .mv (.t 1), 0, none⟩, ⟨1, (some 18), .len none (.t 17), 0, none⟩, ⟨2, (some 19), .mv (.t 2), 0, none⟩, ⟨3, (some 20), .len none (.t 19), 0, none⟩, ⟨4, (some 21), .bin .neq (.t 18) (.t 20), 0, none⟩] [1, 2, 3, 6, 21])
     (.cond (.t 21)
      (.seq
       (.reg false [⟨0, none, .store 1 (.t 6) (.c (.int .i64 (7))), 0, none⟩] [6])
       (.ret))
      (.skip)))
    (.seq
     (.seq
      (.reg false [⟨0, (some 22), .mv (.t 1), 0, none⟩, ⟨1, (some 23), .len none (.t 22), 0, none⟩, ⟨2, (some 24), .bin .lss (.t 23) (.c (.int .i64 (1))), 0, none⟩, ⟨3, (some 25), .mv (.t 24), 0, none⟩, ⟨4, (some 26), .mv (.t 1), 0, (some (25, false))⟩, ⟨5, (some 27), .len none (.t 26), 0, (some (25, false))⟩, ⟨6, (some 28), .bin .gtr (.t 27) (.c (.int .i64 (64))), 0, (some (25, false))⟩, ⟨7, (some 29), .pick (.t 25) (.c (.bool true)) (.t 28), 0, none⟩] [1, 2, 3, 6, 29])
      (.cond (.t 29)
       (.seq
        (.reg false [⟨0, none, .store 1 (.t 6) (.c (.int .i64 (2))), 0, none⟩] [6])
        (.ret))
       (.skip)))
     (.seq
      (.reg false [⟨0, (some 30), .mkm, 0, none⟩, ⟨1, (some 8), .alloc [.nilm] 1, 0, none⟩, ⟨2, none, .store 1 (.t 8) (.t 30), 0, none⟩] [1, 2, 3, 6, 8])
      (.seq
       (.reg false [⟨0, (some 9), .alloc [.bool false] 1, 0, none⟩, ⟨1, none, .store 1 (.t 9) (.c (.bool false)), 0, none⟩] [1, 2, 3, 6, 8, 9])
       (.seq
        (.seq
         (.reg false [⟨0, (some 31), .mv (.t 1), 0, none⟩, ⟨1, (some 32), .mv (.t 2), 0, none⟩, ⟨2, (some 33), .call 48 [.t 31, .t 32], 2, none⟩] [3, 6, 8, 9, 33])
         (.blk 0
          (.rf (.t 33) [34, 35]
           (.seq
            (.reg false [⟨0, (some 10), .mv (.t 34), 0, none⟩] [3, 6, 8, 9, 10, 35])
            (.reg false [⟨0, (some 11), .mv (.t 35), 0, none⟩] [3, 6, 8, 9, 10, 11]))
           (.blk 1
            (.seq
             (.seq
              (.reg false [⟨0, (some 36), .faddr 1 (.t 3), 0, none⟩, ⟨1, (some 37), .load none (.t 36), 0, none⟩, ⟨2, (some 38), .bin .sub (.t 37) (.c (.int .i64 (1))), 0, none⟩, ⟨3, (some 39), .mv (.t 10), 0, none⟩, ⟨4, (some 40), .bsl 1 1 [.int .i64 (0)] [(0, 1, .t 39)], 0, none⟩, ⟨5, (some 41), .call 65 [.c (.int .i64 (1)), .t 38, .t 40], 2, none⟩, ⟨6, (some 42), .un .not (.t 41), 0, none⟩, ⟨7, (some 43), .mv (.t 42), 0, none⟩, ⟨8, (some 44), .load (some 3) (.t 3), 0, (some (43, false))⟩, ⟨9, (some 45), .mv (.t 11), 0, (some (43, false))⟩, ⟨10, (some 46), .bsl 1 1 [.int .i64 (0)] [(0, 1, .t 45)], 0, (some (43, false))⟩, ⟨11, (some 47), .call 66 [.t 44, .t 46], 2, (some (43, false))⟩, ⟨12, (some 48), .un .not (.t 47), 0, (some (43, false))⟩, ⟨13, (some 49), .pick (.t 43) (.c (.bool true)) (.t 48), 0, none⟩] [6, 8, 9, 10, 49])
              (.cond (.t 49)
               (.seq
                (.reg false [⟨0, none, .store 1 (.t 6) (.c (.int .i64 (1))), 0, none⟩] [])
                (.ret))
               (.skip)))
             (.seq
              (.reg false [⟨0, (some 50), .load none (.t 9), 0, none⟩, ⟨1, (some 51), .mv (.t 50), 0, none⟩, ⟨2, (some 52), .load none (.t 8), 0, (some (51, false))⟩, ⟨3, (some 53), .mv (.t 10), 0, (some (51, false))⟩, ⟨4, (some 54), .lkp 0 (.bool false) false (.t 52) (.t 53), 0, (some (51, false))⟩, ⟨5, (some 55), .pick (.t 51) (.c (.bool true)) (.t 54), 0, none⟩, ⟨6, none, .store 1 (.t 9) (.t 55), 0, none⟩] [8, 10])
              (.reg false [⟨0, (some 56), .load none (.t 8), 0, none⟩, ⟨1, (some 57), .mv (.t 10), 0, none⟩, ⟨2, none, .mput 0 (.t 56) (.t 57) (.c (.bool true)), 0, none⟩] [])))))))
        (.seq
         (.seq
          (.reg false [⟨0, (some 58), .load none (.t 9), 0, none⟩] [6, 58])
          (.cond (.t 58)
           (.seq
            (.reg false [⟨0, none, .store 1 (.t 6) (.c (.int .i64 (81))), 0, none⟩] [6])
            (.ret))
           (.skip)))
         (.seq
          (.reg false [⟨0, none, .store 1 (.t 6) (.c (.int .i64 (0))), 0, none⟩] [6])
          (.ret)))))))))

theorem ok46 : okF Tryz.prog 46 3 c46 [.cell none 6] = true := by kernel_rfl

/-- (dauber/share.Group).below -/
def c47 : C :=
 .seq
  (.reg false [⟨0, (some 1), .box 3 (.t 0), 0, none⟩, ⟨1, (some 2), .mv (.c (.int .i64 (0))), 0, none⟩] [1])
  (.seq
   (.reg false [⟨0, (some 3), .faddr 1 (.t 1), 0, none⟩, ⟨1, (some 4), .load none (.t 3), 0, none⟩, ⟨2, (some 2), .mv (.t 4), 0, none⟩] [2])
   (.ret))

theorem ok47 : okF Tryz.prog 47 1 c47 [.tmp 2] = true := by kernel_rfl

/-- dauber/share.points -/
def c48 : C :=
 .seq
  (.reg false [⟨0, (some 2), .box 1 (.t 0), 0, none⟩, ⟨1, (some 3), .box 1 (.t 1), 0, none⟩, ⟨2, (some 4), .mv (.c (.nilf)), 0, none⟩] [2, 3])
  (.seq
   (.reg false [⟨0, (some 5), .mkfn (.func 77) [] [.t 2, .t 3], 0, none⟩, ⟨1, (some 4), .mv (.t 5), 0, none⟩] [4])
   (.ret))

theorem ok48 : okF Tryz.prog 48 2 c48 [.tmp 4] = true := by kernel_rfl

/-- (dauber/share.modulus).times -/
def c49 : C :=
 .seq
  (.reg false [⟨0, (some 6), .mv (.c (.int .i64 (0))), 0, none⟩] [0, 1, 2])
  (.seq
   (.reg false [⟨0, (some 7), .mv (.t 1), 0, none⟩, ⟨1, (some 8), .mv (.t 2), 0, none⟩, ⟨2, (some 9), .bin .mul (.t 7) (.t 8), 0, none⟩, ⟨3, (some 10), .mv (.t 0), 0, none⟩, ⟨4, (some 11), .bin .rem (.t 9) (.t 10), 0, none⟩, ⟨5, (some 6), .mv (.t 11), 0, none⟩] [6])
   (.ret))

theorem ok49 : okF Tryz.prog 49 3 c49 [.tmp 6] = true := by kernel_rfl

/-- (dauber/share.modulus).minus -/
def c50 : C :=
 .seq
  (.reg false [⟨0, (some 6), .mv (.c (.int .i64 (0))), 0, none⟩] [0, 1, 2])
  (.seq
   (.reg false [⟨0, (some 7), .mv (.t 1), 0, none⟩, ⟨1, (some 8), .mv (.t 2), 0, none⟩, ⟨2, (some 9), .bin .sub (.t 7) (.t 8), 0, none⟩, ⟨3, (some 10), .mv (.t 0), 0, none⟩, ⟨4, (some 11), .bin .add (.t 9) (.t 10), 0, none⟩, ⟨5, (some 12), .mv (.t 0), 0, none⟩, ⟨6, (some 13), .bin .rem (.t 11) (.t 12), 0, none⟩, ⟨7, (some 6), .mv (.t 13), 0, none⟩] [6])
   (.ret))

theorem ok50 : okF Tryz.prog 50 3 c50 [.tmp 6] = true := by kernel_rfl

/-- (dauber/share.modulus).plus -/
def c51 : C :=
 .seq
  (.reg false [⟨0, (some 6), .mv (.c (.int .i64 (0))), 0, none⟩] [0, 1, 2])
  (.seq
   (.reg false [⟨0, (some 7), .mv (.t 1), 0, none⟩, ⟨1, (some 8), .mv (.t 2), 0, none⟩, ⟨2, (some 9), .bin .add (.t 7) (.t 8), 0, none⟩, ⟨3, (some 10), .mv (.t 0), 0, none⟩, ⟨4, (some 11), .bin .rem (.t 9) (.t 10), 0, none⟩, ⟨5, (some 6), .mv (.t 11), 0, none⟩] [6])
   (.ret))

theorem ok51 : okF Tryz.prog 51 3 c51 [.tmp 6] = true := by kernel_rfl

/-- (dauber/share.modulus).inverse -/
def c52 : C :=
 .seq
  (.reg false [⟨0, (some 4), .mv (.c (.int .i64 (0))), 0, none⟩] [0, 1])
  (.seq
   (.reg false [⟨0, (some 5), .mv (.t 0), 0, none⟩, ⟨1, (some 6), .mv (.t 1), 0, none⟩, ⟨2, (some 7), .mv (.t 0), 0, none⟩, ⟨3, (some 8), .bin .sub (.t 7) (.c (.int .i64 (2))), 0, none⟩, ⟨4, (some 9), .call 68 [.t 5, .t 6, .t 8], 2, none⟩, ⟨5, (some 4), .mv (.t 9), 0, none⟩] [4])
   (.ret))

theorem ok52 : okF Tryz.prog 52 2 c52 [.tmp 4] = true := by kernel_rfl

/-- dauber/field.New -/
def c53 : C :=
 .seq
  (.reg false [⟨0, (some 2), .mv (.c (.nilp)), 0, none⟩, ⟨1, (some 3), .mv (.c (.int .i64 (0))), 0, none⟩] [0])
  (.seq
   (.seq
    (.reg false [⟨0, (some 9), .mv (.t 0), 0, none⟩, ⟨1, (some 10), .bin .lss (.t 9) (.c (.int .i64 (2))), 0, none⟩, ⟨2, (some 11), .mv (.t 10), 0, none⟩, ⟨3, (some 12), .mv (.t 0), 0, (some (11, false))⟩, ⟨4, (some 13), .bin .gtr (.t 12) (.c (.int .i64 (65536))), 0, (some (11, false))⟩, ⟨5, (some 14), .pick (.t 11) (.c (.bool true)) (.t 13), 0, none⟩] [0, 14])
    (.cond (.t 14)
     (.seq
      (.reg false [⟨0, (some 2), .mv (.c (.nilp)), 0, none⟩, ⟨1, (some 3), .mv (.c (.int .i64 (20))), 0, none⟩] [2, 3])
      (.ret))
     (.skip)))
   (.seq
    (.reg false [⟨0, (some 15), .mv (.t 0), 0, none⟩, ⟨1, (some 16), .call 78 [.t 15], 2, none⟩, ⟨2, (some 4), .mv (.t 16), 0, none⟩] [0, 4])
    (.seq
     (.seq
      (.reg false [⟨0, (some 17), .mv (.t 4), 0, none⟩, ⟨1, (some 18), .len none (.t 17), 0, none⟩, ⟨2, (some 19), .bin .gtr (.t 18) (.c (.int .i64 (1))), 0, none⟩] [0, 4, 19])
      (.cond (.t 19)
       (.seq
        (.reg false [⟨0, (some 2), .mv (.c (.nilp)), 0, none⟩, ⟨1, (some 3), .mv (.c (.int .i64 (20))), 0, none⟩] [2, 3])
        (.ret))
       (.skip)))
     (.seq
      (.reg false [⟨0, (some 20), .mv (.t 0), 0, none⟩, ⟨1, (some 21), .mv (.t 4), 0, none⟩, ⟨2, (some 22), .iaddr none 1 (.t 21) (.c (.int .i64 (0))), 0, none⟩, ⟨3, (some 23), .load none (.t 22), 0, none⟩, ⟨4, (some 24), .build [.nili, .int .i64 (0), .int .i64 (0), .int .i64 (0), .nils, .int .i64 (0)] [(1, 1, .t 20), (2, 1, .t 23)], 0, none⟩, ⟨5, (some 25), .box 6 (.t 24), 0, none⟩, ⟨6, (some 5), .mv (.t 25), 0, none⟩] [0, 5])
      (.seq
       (.seq
        (.reg false [⟨0, (some 26), .mv (.t 0), 0, none⟩, ⟨1, (some 6), .mv (.t 26), 0, none⟩] [0, 5, 6])
        (.blk 0
         (.loop [0, 5, 6]
          (.seq
           (.seq
            (.reg false [⟨0, (some 27), .mv (.t 6), 0, none⟩, ⟨1, (some 28), .bin .gtr (.t 27) (.c (.int .i64 (1))), 0, none⟩] [0, 5, 6, 28])
            (.cond (.t 28)
             (.skip)
             (.exit 0)))
           (.seq
            (.blk 1
             (.reg false [⟨0, (some 35), .mv (.t 5), 0, none⟩, ⟨1, (some 36), .nilc (.t 35), 0, none⟩, ⟨2, (some 37), .faddr 3 (.t 36), 0, none⟩, ⟨3, (some 38), .load none (.t 37), 0, none⟩, ⟨4, (some 39), .bin .add (.t 38) (.c (.int .i64 (1))), 0, none⟩, ⟨5, (some 40), .nilc (.t 35), 0, none⟩, ⟨6, (some 41), .faddr 3 (.t 40), 0, none⟩, ⟨7, none, .store 1 (.t 41) (.t 39), 0, none⟩] [0, 5, 6]))
            (.reg false [⟨0, (some 29), .mv (.t 6), 0, none⟩, ⟨1, (some 30), .mv (.t 5), 0, none⟩, ⟨2, (some 31), .nilc (.t 30), 0, none⟩, ⟨3, (some 32), .faddr 2 (.t 31), 0, none⟩, ⟨4, (some 33), .load none (.t 32), 0, none⟩, ⟨5, (some 34), .bin .quo (.t 29) (.t 33), 0, none⟩, ⟨6, (some 6), .mv (.t 34), 0, none⟩] [0, 5, 6]))))))
       (.seq
        (.reg false [⟨0, (some 42), .mv (.t 5), 0, none⟩, ⟨1, (some 43), .nilc (.t 42), 0, none⟩, ⟨2, (some 44), .faddr 2 (.t 43), 0, none⟩, ⟨3, (some 45), .load none (.t 44), 0, none⟩, ⟨4, (some 46), .build [.int .i64 (0)] [(0, 1, .t 45)], 0, none⟩, ⟨5, (some 7), .alloc [.int .i64 (0)] 1, 0, none⟩, ⟨6, none, .store 1 (.t 7) (.t 46), 0, none⟩] [0, 5, 7])
        (.seq
         (.seq
          (.reg false [⟨0, (some 47), .mv (.t 5), 0, none⟩, ⟨1, (some 48), .nilc (.t 47), 0, none⟩, ⟨2, (some 49), .faddr 3 (.t 48), 0, none⟩, ⟨3, (some 50), .load none (.t 49), 0, none⟩, ⟨4, (some 51), .bin .eql (.t 50) (.c (.int .i64 (1))), 0, none⟩] [0, 5, 7, 51])
          (.cond (.t 51)
           (.seq
            (.reg false [⟨0, (some 52), .mv (.t 5), 0, none⟩, ⟨1, (some 53), .mv (.t 5), 0, none⟩, ⟨2, (some 54), .load (some 1) (.t 7), 0, none⟩, ⟨3, (some 55), .mkif 122 (.t 54), 0, none⟩, ⟨4, (some 56), .bsl 1 2 [.int .i64 (0), .int .i64 (0)] [(0, 1, .c (.int .i64 (0))), (1, 1, .c (.int .i64 (1)))], 0, none⟩, ⟨5, (some 57), .nilc (.t 52), 0, none⟩, ⟨6, (some 58), .faddr 0 (.t 57), 0, none⟩, ⟨7, none, .store 1 (.t 58) (.t 55), 0, none⟩, ⟨8, (some 59), .nilc (.t 53), 0, none⟩, ⟨9, (some 60), .faddr 4 (.t 59), 0, none⟩, ⟨10, none, .store 1 (.t 60) (.t 56), 0, none⟩] [5, 7])
            (.seq
             (.reg false [⟨0, (some 61), .mv (.t 5), 0, none⟩, ⟨1, (some 62), .mv (.t 5), 0, none⟩, ⟨2, (some 63), .load (some 1) (.t 7), 0, none⟩, ⟨3, (some 64), .mkif 122 (.t 63), 0, none⟩, ⟨4, (some 65), .call 79 [.t 62, .t 64], 2, none⟩, ⟨5, (some 66), .nilc (.t 61), 0, none⟩, ⟨6, (some 67), .faddr 5 (.t 66), 0, none⟩, ⟨7, none, .store 1 (.t 67) (.t 65), 0, none⟩] [5])
             (.seq
              (.reg false [⟨0, (some 68), .mv (.t 5), 0, none⟩, ⟨1, (some 2), .mv (.t 68), 0, none⟩, ⟨2, (some 3), .mv (.c (.int .i64 (0))), 0, none⟩] [2, 3])
              (.ret))))
           (.skip)))
         (.seq
          (.reg true [⟨0, (some 69), .mv (.t 5), 0, none⟩, ⟨1, (some 70), .mv (.t 5), 0, none⟩, ⟨2, (some 71), .nilc (.t 70), 0, none⟩, ⟨3, (some 72), .faddr 2 (.t 71), 0, none⟩, ⟨5, (some 74), .mv (.t 5), 0, none⟩, ⟨6, (some 75), .nilc (.t 74), 0, none⟩, ⟨7, (some 76), .faddr 3 (.t 75), 0, none⟩, ⟨9, (some 78), .mv (.t 0), 0, none⟩, ⟨4, (some 73), .load none (.t 72), 0, none⟩, ⟨8, (some 77), .load none (.t 76), 0, none⟩, ⟨10, (some 79), .call 80 [.t 73, .t 77, .t 78], 2, none⟩, ⟨11, (some 80), .nilc (.t 69), 0, none⟩, ⟨12, (some 81), .faddr 4 (.t 80), 0, none⟩, ⟨13, none, .store 1 (.t 81) (.t 79), 0, none⟩] [0, 5, 7])
          (.seq
           (.reg true [⟨1, (some 83), .mv (.t 5), 0, none⟩, ⟨2, (some 84), .nilc (.t 83), 0, none⟩, ⟨3, (some 85), .faddr 4 (.t 84), 0, none⟩, ⟨5, (some 87), .mv (.t 0), 0, none⟩, ⟨0, (some 82), .load (some 1) (.t 7), 0, none⟩, ⟨4, (some 86), .load none (.t 85), 0, none⟩, ⟨6, (some 88), .build [.int .i64 (0), .nils, .int .i64 (0)] [(0, 1, .t 82), (1, 1, .t 86), (2, 1, .t 87)], 0, none⟩, ⟨7, (some 8), .alloc [.int .i64 (0), .nils, .int .i64 (0)] 3, 0, none⟩, ⟨8, none, .store 3 (.t 8) (.t 88), 0, none⟩] [5, 8])
           (.seq
            (.reg false [⟨0, (some 89), .mv (.t 5), 0, none⟩, ⟨1, (some 90), .mv (.t 5), 0, none⟩, ⟨2, (some 91), .load (some 3) (.t 8), 0, none⟩, ⟨3, (some 92), .mkif 126 (.t 91), 0, none⟩, ⟨4, (some 93), .call 79 [.t 90, .t 92], 2, none⟩, ⟨5, (some 94), .nilc (.t 89), 0, none⟩, ⟨6, (some 95), .faddr 5 (.t 94), 0, none⟩, ⟨7, none, .store 1 (.t 95) (.t 93), 0, none⟩] [5, 8])
            (.seq
             (.reg true [⟨0, (some 96), .mv (.t 5), 0, none⟩, ⟨2, (some 98), .mv (.t 5), 0, none⟩, ⟨3, (some 99), .nilc (.t 98), 0, none⟩, ⟨4, (some 100), .faddr 5 (.t 99), 0, none⟩, ⟨1, (some 97), .load (some 3) (.t 8), 0, none⟩, ⟨5, (some 101), .load none (.t 100), 0, none⟩, ⟨6, (some 102), .call 81 [.t 97, .t 101], 2, none⟩, ⟨7, (some 103), .mkif 127 (.t 102), 0, none⟩, ⟨8, (some 104), .nilc (.t 96), 0, none⟩, ⟨9, (some 105), .faddr 0 (.t 104), 0, none⟩, ⟨10, none, .store 1 (.t 105) (.t 103), 0, none⟩] [5])
             (.seq
              (.reg false [⟨0, (some 106), .mv (.t 5), 0, none⟩, ⟨1, (some 2), .mv (.t 106), 0, none⟩, ⟨2, (some 3), .mv (.c (.int .i64 (0))), 0, none⟩] [2, 3])
              (.ret)))))))))))))

theorem ok53 : okF Tryz.prog 53 1 c53 [.tmp 2, .tmp 3] = true := by kernel_rfl

/-- (*dauber/field.Field).Through -/
def c54 : C :=
 .seq
  (.reg false [⟨0, (some 6), .mv (.c (.nils)), 0, none⟩, ⟨1, (some 7), .mv (.c (.int .i64 (0))), 0, none⟩] [0, 1, 2])
  (.seq
   (.seq
    (.reg false [⟨0, (some 8), .mv (.t 0), 0, none⟩, ⟨1, (some 9), .eqn 0 false (.t 8) (.c (.nilp)), 0, none⟩] [0, 1, 2, 9])
    (.cond (.t 9)
     (.seq
      (.reg false [⟨0, (some 6), .mv (.c (.nils)), 0, none⟩, ⟨1, (some 7), .mv (.c (.int .i64 (3))), 0, none⟩] [6, 7])
      (.ret))
     (.skip)))
   (.seq
    (.seq
     (.reg false [⟨0, (some 10), .mv (.t 1), 0, none⟩, ⟨1, (some 11), .len none (.t 10), 0, none⟩, ⟨2, (some 12), .mv (.t 2), 0, none⟩, ⟨3, (some 13), .len none (.t 12), 0, none⟩, ⟨4, (some 14), .bin .neq (.t 11) (.t 13), 0, none⟩] [0, 1, 2, 14])
     (.cond (.t 14)
      (.seq
       (.reg false [⟨0, (some 6), .mv (.c (.nils)), 0, none⟩, ⟨1, (some 7), .mv (.c (.int .i64 (7))), 0, none⟩] [6, 7])
       (.ret))
      (.skip)))
    (.seq
     (.seq
      (.reg false [⟨0, (some 15), .mv (.t 1), 0, none⟩, ⟨1, (some 16), .len none (.t 15), 0, none⟩, ⟨2, (some 17), .bin .gtr (.t 16) (.c (.int .i64 (200))), 0, none⟩] [0, 1, 2, 17])
      (.cond (.t 17)
       (.seq
        (.reg false [⟨0, (some 6), .mv (.c (.nils)), 0, none⟩, ⟨1, (some 7), .mv (.c (.int .i64 (2))), 0, none⟩] [6, 7])
        (.ret))
       (.skip)))
     (.seq
      (.seq
       (.reg false [⟨0, (some 18), .mv (.t 0), 0, none⟩, ⟨1, (some 19), .mv (.t 1), 0, none⟩, ⟨2, (some 20), .call 82 [.t 18, .t 19], 2, none⟩, ⟨3, (some 21), .un .not (.t 20), 0, none⟩, ⟨4, (some 22), .mv (.t 21), 0, none⟩, ⟨5, (some 23), .mv (.t 0), 0, (some (22, false))⟩, ⟨6, (some 24), .mv (.t 2), 0, (some (22, false))⟩, ⟨7, (some 25), .call 82 [.t 23, .t 24], 2, (some (22, false))⟩, ⟨8, (some 26), .un .not (.t 25), 0, (some (22, false))⟩, ⟨9, (some 27), .pick (.t 22) (.c (.bool true)) (.t 26), 0, none⟩, ⟨10, (some 28), .mv (.t 27), 0, none⟩, ⟨11, (some 29), .mv (.t 1), 0, (some (28, false))⟩, ⟨12, (some 30), .call 83 [.t 29], 2, (some (28, false))⟩, ⟨13, (some 31), .un .not (.t 30), 0, (some (28, false))⟩, ⟨14, (some 32), .pick (.t 28) (.c (.bool true)) (.t 31), 0, none⟩] [0, 1, 2, 32])
       (.cond (.t 32)
        (.seq
         (.reg false [⟨0, (some 6), .mv (.c (.nils)), 0, none⟩, ⟨1, (some 7), .mv (.c (.int .i64 (1))), 0, none⟩] [6, 7])
         (.ret))
        (.skip)))
      (.seq
       (.reg false [⟨0, (some 33), .mv (.t 0), 0, none⟩, ⟨1, (some 34), .mv (.t 1), 0, none⟩, ⟨2, (some 35), .mv (.t 2), 0, none⟩, ⟨3, (some 36), .call 84 [.t 33, .t 34, .t 35], 2, none⟩, ⟨4, (some 6), .mv (.t 36), 0, none⟩, ⟨5, (some 7), .mv (.c (.int .i64 (0))), 0, none⟩] [6, 7])
       (.ret))))))

theorem ok54 : okF Tryz.prog 54 3 c54 [.tmp 6, .tmp 7] = true := by kernel_rfl

/-- dauber/share.ints -/
def c55 : C :=
 .seq
  (.reg false [⟨0, (some 2), .mv (.c (.nils)), 0, none⟩] [0])
  (.seq
   (.reg false [⟨0, (some 3), .nilo 1, 0, none⟩] [0, 3])
   (.seq
    (.seq
     (.reg false [⟨0, (some 6), .mv (.t 0), 0, none⟩, ⟨1, (some 7), .len none (.t 6), 0, none⟩, ⟨2, (some 8), .mv (.c (.int .i64 (0))), 0, none⟩] [3, 6, 7, 8])
     (.blk 0
      (.loop [3, 6, 7, 8]
       (.seq
        (.reg false [⟨0, (some 9), .bin .lss (.t 8) (.t 7), 0, none⟩] [3, 6, 7, 8, 9])
        (.seq
         (.cond (.t 9)
          (.skip)
          (.exit 0))
         (.seq
          (.blk 1
           (.seq
            (.reg false [⟨0, (some 10), .iaddr none 1 (.t 6) (.t 8), 0, none⟩, ⟨1, (some 11), .load none (.t 10), 0, none⟩, ⟨2, (some 5), .mv (.t 11), 0, none⟩] [3, 5, 6, 7, 8])
            (.reg false [⟨0, (some 12), .mv (.t 3), 0, none⟩, ⟨1, (some 13), .mv (.t 5), 0, none⟩, ⟨2, (some 14), .bsl 1 1 [.int .i64 (0)] [(0, 1, .t 13)], 0, none⟩, ⟨3, (some 15), .app 1 8 (.t 12) (.t 14), 0, none⟩, ⟨4, (some 3), .mv (.t 15), 0, none⟩] [3, 6, 7, 8])))
          (.reg false [⟨0, (some 16), .bin .add (.t 8) (.c (.int .i64 (1))), 0, none⟩, ⟨1, (some 8), .mv (.t 16), 0, none⟩] [3, 6, 7, 8])))))))
    (.seq
     (.reg false [⟨0, (some 17), .mv (.t 3), 0, none⟩, ⟨1, (some 2), .mv (.t 17), 0, none⟩] [2])
     (.ret))))

theorem ok55 : okF Tryz.prog 55 1 c55 [.tmp 2] = true := by kernel_rfl

/-- dauber/share.longs -/
def c56 : C :=
 .seq
  (.reg false [⟨0, (some 2), .mv (.c (.nils)), 0, none⟩] [0])
  (.seq
   (.reg false [⟨0, (some 3), .nilo 1, 0, none⟩] [0, 3])
   (.seq
    (.seq
     (.reg false [⟨0, (some 6), .mv (.t 0), 0, none⟩, ⟨1, (some 7), .len none (.t 6), 0, none⟩, ⟨2, (some 8), .mv (.c (.int .i64 (0))), 0, none⟩] [3, 6, 7, 8])
     (.blk 0
      (.loop [3, 6, 7, 8]
       (.seq
        (.reg false [⟨0, (some 9), .bin .lss (.t 8) (.t 7), 0, none⟩] [3, 6, 7, 8, 9])
        (.seq
         (.cond (.t 9)
          (.skip)
          (.exit 0))
         (.seq
          (.blk 1
           (.seq
            (.reg false [⟨0, (some 10), .iaddr none 1 (.t 6) (.t 8), 0, none⟩, ⟨1, (some 11), .load none (.t 10), 0, none⟩, ⟨2, (some 5), .mv (.t 11), 0, none⟩] [3, 5, 6, 7, 8])
            (.reg false [⟨0, (some 12), .mv (.t 3), 0, none⟩, ⟨1, (some 13), .mv (.t 5), 0, none⟩, ⟨2, (some 14), .bsl 1 1 [.int .i64 (0)] [(0, 1, .t 13)], 0, none⟩, ⟨3, (some 15), .app 1 8 (.t 12) (.t 14), 0, none⟩, ⟨4, (some 3), .mv (.t 15), 0, none⟩] [3, 6, 7, 8])))
          (.reg false [⟨0, (some 16), .bin .add (.t 8) (.c (.int .i64 (1))), 0, none⟩, ⟨1, (some 8), .mv (.t 16), 0, none⟩] [3, 6, 7, 8])))))))
    (.seq
     (.reg false [⟨0, (some 17), .mv (.t 3), 0, none⟩, ⟨1, (some 2), .mv (.t 17), 0, none⟩] [2])
     (.ret))))

theorem ok56 : okF Tryz.prog 56 1 c56 [.tmp 2] = true := by kernel_rfl

/-- dauber/dauberref02.New -/
def c57 : C :=
 .seq
  (.reg false [⟨0, (some 2), .alloc [.int .i64 (0), .int .i64 (0), .int .i64 (0), .int .i64 (0)] 4, 0, none⟩, ⟨1, (some 3), .mv (.c (.bool false)), 0, none⟩] [0, 2])
  (.seq
   (.seq
    (.reg false [⟨0, (some 12), .mv (.t 0), 0, none⟩, ⟨1, (some 13), .bin .lss (.t 12) (.c (.int .i64 (2))), 0, none⟩, ⟨2, (some 14), .mv (.t 13), 0, none⟩, ⟨3, (some 15), .mv (.t 0), 0, (some (14, false))⟩, ⟨4, (some 16), .bin .gtr (.t 15) (.c (.int .i64 (65536))), 0, (some (14, false))⟩, ⟨5, (some 17), .pick (.t 14) (.c (.bool true)) (.t 16), 0, none⟩] [0, 2, 17])
    (.cond (.t 17)
     (.seq
      (.reg false [⟨0, (some 18), .build [.int .i64 (0), .int .i64 (0), .int .i64 (0), .int .i64 (0)] [], 0, none⟩, ⟨1, none, .store 4 (.t 2) (.t 18), 0, none⟩, ⟨2, (some 3), .mv (.c (.bool false)), 0, none⟩] [2, 3])
      (.ret))
     (.skip)))
   (.seq
    (.reg false [⟨0, (some 4), .mv (.c (.int .i64 (2))), 0, none⟩] [0, 2, 4])
    (.seq
     (.blk 0
      (.loop [0, 2, 4]
       (.seq
        (.seq
         (.reg false [⟨0, (some 19), .mv (.t 0), 0, none⟩, ⟨1, (some 20), .mv (.t 4), 0, none⟩, ⟨2, (some 21), .bin .rem (.t 19) (.t 20), 0, none⟩, ⟨3, (some 22), .bin .neq (.t 21) (.c (.int .i64 (0))), 0, none⟩] [0, 2, 4, 22])
         (.cond (.t 22)
          (.skip)
          (.exit 0)))
        (.blk 1
         (.reg false [⟨0, (some 23), .mv (.t 4), 0, none⟩, ⟨1, (some 24), .bin .add (.t 23) (.c (.int .i64 (1))), 0, none⟩, ⟨2, (some 4), .mv (.t 24), 0, none⟩] [0, 2, 4])))))
     (.seq
      (.reg false [⟨0, (some 5), .mv (.c (.int .i64 (0))), 0, none⟩] [0, 2, 4, 5])
      (.seq
       (.seq
        (.reg false [⟨0, (some 25), .mv (.t 0), 0, none⟩, ⟨1, (some 6), .mv (.t 25), 0, none⟩] [0, 2, 4, 5, 6])
        (.blk 2
         (.loop [0, 2, 4, 5, 6]
          (.seq
           (.seq
            (.reg false [⟨0, (some 26), .mv (.t 6), 0, none⟩, ⟨1, (some 27), .bin .gtr (.t 26) (.c (.int .i64 (1))), 0, none⟩] [0, 2, 4, 5, 6, 27])
            (.cond (.t 27)
             (.skip)
             (.exit 2)))
           (.seq
            (.blk 3
             (.seq
              (.seq
               (.reg false [⟨0, (some 31), .mv (.t 6), 0, none⟩, ⟨1, (some 32), .mv (.t 4), 0, none⟩, ⟨2, (some 33), .bin .rem (.t 31) (.t 32), 0, none⟩, ⟨3, (some 34), .bin .neq (.t 33) (.c (.int .i64 (0))), 0, none⟩] [0, 2, 4, 5, 6, 34])
               (.cond (.t 34)
                (.seq
                 (.reg false [⟨0, (some 35), .build [.int .i64 (0), .int .i64 (0), .int .i64 (0), .int .i64 (0)] [], 0, none⟩, ⟨1, none, .store 4 (.t 2) (.t 35), 0, none⟩, ⟨2, (some 3), .mv (.c (.bool false)), 0, none⟩] [2, 3])
                 (.ret))
                (.skip)))
              (.reg false [⟨0, (some 36), .mv (.t 5), 0, none⟩, ⟨1, (some 37), .bin .add (.t 36) (.c (.int .i64 (1))), 0, none⟩, ⟨2, (some 5), .mv (.t 37), 0, none⟩] [0, 2, 4, 5, 6])))
            (.reg false [⟨0, (some 28), .mv (.t 6), 0, none⟩, ⟨1, (some 29), .mv (.t 4), 0, none⟩, ⟨2, (some 30), .bin .quo (.t 28) (.t 29), 0, none⟩, ⟨3, (some 6), .mv (.t 30), 0, none⟩] [0, 2, 4, 5, 6]))))))
       (.seq
        (.seq
         (.reg false [⟨0, (some 38), .mv (.t 5), 0, none⟩, ⟨1, (some 39), .bin .eql (.t 38) (.c (.int .i64 (1))), 0, none⟩] [0, 2, 4, 5, 39])
         (.cond (.t 39)
          (.seq
           (.reg false [⟨0, (some 40), .mv (.t 0), 0, none⟩, ⟨1, (some 41), .mv (.t 4), 0, none⟩, ⟨2, (some 42), .mv (.t 4), 0, none⟩, ⟨3, (some 43), .build [.int .i64 (0), .int .i64 (0), .int .i64 (0), .int .i64 (0)] [(0, 1, .t 40), (1, 1, .t 41), (2, 1, .c (.int .i64 (1))), (3, 1, .t 42)], 0, none⟩, ⟨4, none, .store 4 (.t 2) (.t 43), 0, none⟩, ⟨5, (some 3), .mv (.c (.bool true)), 0, none⟩] [2, 3])
           (.ret))
          (.skip)))
        (.seq
         (.reg false [⟨0, (some 44), .mv (.t 0), 0, none⟩, ⟨1, (some 7), .mv (.t 44), 0, none⟩] [0, 2, 4, 5, 7])
         (.blk 4
          (.loop [0, 2, 4, 5, 7]
           (.seq
            (.blk 5
             (.seq
              (.reg false [⟨0, (some 8), .mv (.c (.bool true)), 0, none⟩] [0, 2, 4, 5, 7, 8])
              (.seq
               (.reg false [⟨0, (some 47), .mv (.t 4), 0, none⟩, ⟨1, (some 9), .mv (.t 47), 0, none⟩] [0, 2, 4, 5, 7, 8, 9])
               (.seq
                (.seq
                 (.reg false [⟨0, (some 10), .mv (.c (.int .i64 (1))), 0, none⟩] [0, 2, 4, 5, 7, 8, 9, 10])
                 (.blk 6
                  (.loop [0, 2, 4, 5, 7, 8, 9, 10]
                   (.seq
                    (.seq
                     (.reg false [⟨0, (some 48), .mv (.t 10), 0, none⟩, ⟨1, (some 49), .bin .mul (.c (.int .i64 (2))) (.t 48), 0, none⟩, ⟨2, (some 50), .mv (.t 5), 0, none⟩, ⟨3, (some 51), .bin .leq (.t 49) (.t 50), 0, none⟩, ⟨4, (some 52), .mv (.t 51), 0, none⟩, ⟨5, (some 53), .mv (.t 8), 0, (some (52, true))⟩, ⟨6, (some 54), .pick (.t 52) (.t 53) (.c (.bool false)), 0, none⟩] [0, 2, 4, 5, 7, 8, 9, 10, 54])
                     (.cond (.t 54)
                      (.skip)
                      (.exit 6)))
                    (.seq
                     (.blk 7
                      (.seq
                       (.seq
                        (.reg false [⟨0, (some 57), .mv (.t 9), 0, none⟩, ⟨1, (some 11), .mv (.t 57), 0, none⟩] [0, 2, 4, 5, 7, 8, 9, 10, 11])
                        (.blk 8
                         (.loop [0, 2, 4, 5, 7, 8, 9, 10, 11]
                          (.seq
                           (.seq
                            (.reg false [⟨0, (some 58), .mv (.t 11), 0, none⟩, ⟨1, (some 59), .mv (.t 9), 0, none⟩, ⟨2, (some 60), .bin .mul (.c (.int .i64 (2))) (.t 59), 0, none⟩, ⟨3, (some 61), .bin .lss (.t 58) (.t 60), 0, none⟩, ⟨4, (some 62), .mv (.t 61), 0, none⟩, ⟨5, (some 63), .mv (.t 8), 0, (some (62, true))⟩, ⟨6, (some 64), .pick (.t 62) (.t 63) (.c (.bool false)), 0, none⟩] [0, 2, 4, 5, 7, 8, 9, 10, 11, 64])
                            (.cond (.t 64)
                             (.skip)
                             (.exit 8)))
                           (.seq
                            (.blk 9
                             (.reg false [⟨0, (some 67), .mv (.t 7), 0, none⟩, ⟨1, (some 68), .mv (.t 11), 0, none⟩, ⟨2, (some 69), .mv (.t 4), 0, none⟩, ⟨3, (some 70), .call 85 [.t 67, .t 68, .t 69], 2, none⟩, ⟨4, (some 71), .bin .neq (.t 70) (.c (.int .i64 (0))), 0, none⟩, ⟨5, (some 8), .mv (.t 71), 0, none⟩] [0, 2, 4, 5, 7, 8, 9, 10, 11]))
                            (.reg false [⟨0, (some 65), .mv (.t 11), 0, none⟩, ⟨1, (some 66), .bin .add (.t 65) (.c (.int .i64 (1))), 0, none⟩, ⟨2, (some 11), .mv (.t 66), 0, none⟩] [0, 2, 4, 5, 7, 8, 9, 10, 11]))))))
                       (.reg false [⟨0, (some 72), .mv (.t 9), 0, none⟩, ⟨1, (some 73), .mv (.t 4), 0, none⟩, ⟨2, (some 74), .bin .mul (.t 72) (.t 73), 0, none⟩, ⟨3, (some 9), .mv (.t 74), 0, none⟩] [0, 2, 4, 5, 7, 8, 9, 10])))
                     (.reg false [⟨0, (some 55), .mv (.t 10), 0, none⟩, ⟨1, (some 56), .bin .add (.t 55) (.c (.int .i64 (1))), 0, none⟩, ⟨2, (some 10), .mv (.t 56), 0, none⟩] [0, 2, 4, 5, 7, 8, 9, 10]))))))
                (.seq
                 (.reg false [⟨0, (some 75), .mv (.t 8), 0, none⟩] [0, 2, 4, 5, 7, 75])
                 (.cond (.t 75)
                  (.seq
                   (.reg false [⟨0, (some 76), .mv (.t 0), 0, none⟩, ⟨1, (some 77), .mv (.t 4), 0, none⟩, ⟨2, (some 78), .mv (.t 5), 0, none⟩, ⟨3, (some 79), .mv (.t 7), 0, none⟩, ⟨4, (some 80), .build [.int .i64 (0), .int .i64 (0), .int .i64 (0), .int .i64 (0)] [(0, 1, .t 76), (1, 1, .t 77), (2, 1, .t 78), (3, 1, .t 79)], 0, none⟩, ⟨5, none, .store 4 (.t 2) (.t 80), 0, none⟩, ⟨6, (some 3), .mv (.c (.bool true)), 0, none⟩] [2, 3])
                   (.ret))
                  (.skip)))))))
            (.reg false [⟨0, (some 45), .mv (.t 7), 0, none⟩, ⟨1, (some 46), .bin .add (.t 45) (.c (.int .i64 (1))), 0, none⟩, ⟨2, (some 7), .mv (.t 46), 0, none⟩] [0, 2, 4, 5, 7])))))))))))

theorem ok57 : okF Tryz.prog 57 1 c57 [.cell (some 4) 2, .tmp 3] = true := by kernel_rfl

/-- (dauber/dauberref02.Field).Through -/
def c58 : C :=
 .seq
  (.reg false [⟨0, (some 3), .box 4 (.t 0), 0, none⟩, ⟨1, (some 6), .mv (.c (.nils)), 0, none⟩] [1, 2, 3])
  (.seq
   (.reg false [⟨0, (some 7), .mv (.c (.nils)), 0, none⟩] [1, 2, 3, 7])
   (.seq
    (.seq
     (.reg false [⟨0, (some 8), .mv (.c (.int .i64 (0))), 0, none⟩] [1, 2, 3, 7, 8])
     (.blk 0
      (.loop [1, 2, 3, 7, 8]
       (.seq
        (.seq
         (.reg false [⟨0, (some 11), .mv (.t 8), 0, none⟩, ⟨1, (some 12), .mv (.t 1), 0, none⟩, ⟨2, (some 13), .len none (.t 12), 0, none⟩, ⟨3, (some 14), .bin .lss (.t 11) (.t 13), 0, none⟩] [1, 2, 3, 7, 8, 14])
         (.cond (.t 14)
          (.skip)
          (.exit 0)))
        (.seq
         (.blk 1
          (.seq
           (.reg false [⟨0, (some 17), .mv (.t 2), 0, none⟩, ⟨1, (some 18), .mv (.t 8), 0, none⟩, ⟨2, (some 19), .iaddr none 1 (.t 17) (.t 18), 0, none⟩, ⟨3, (some 20), .load none (.t 19), 0, none⟩, ⟨4, (some 21), .bsl 1 1 [.int .i64 (0)] [(0, 1, .t 20)], 0, none⟩, ⟨5, (some 9), .mv (.t 21), 0, none⟩] [1, 2, 3, 7, 8, 9])
           (.seq
            (.seq
             (.reg false [⟨0, (some 10), .mv (.c (.int .i64 (0))), 0, none⟩] [1, 2, 3, 7, 8, 9, 10])
             (.blk 2
              (.loop [1, 2, 3, 7, 8, 9, 10]
               (.seq
                (.seq
                 (.reg false [⟨0, (some 22), .mv (.t 10), 0, none⟩, ⟨1, (some 23), .mv (.t 1), 0, none⟩, ⟨2, (some 24), .len none (.t 23), 0, none⟩, ⟨3, (some 25), .bin .lss (.t 22) (.t 24), 0, none⟩] [1, 2, 3, 7, 8, 9, 10, 25])
                 (.cond (.t 25)
                  (.skip)
                  (.exit 2)))
                (.seq
                 (.blk 3
                  (.seq
                   (.reg false [⟨0, (some 28), .mv (.t 10), 0, none⟩, ⟨1, (some 29), .mv (.t 8), 0, none⟩, ⟨2, (some 30), .bin .neq (.t 28) (.t 29), 0, none⟩] [1, 2, 3, 7, 8, 9, 10, 30])
                   (.cond (.t 30)
                    (.reg true [⟨2, (some 33), .mv (.t 9), 0, none⟩, ⟨4, (some 35), .mv (.t 1), 0, none⟩, ⟨5, (some 36), .mv (.t 10), 0, none⟩, ⟨6, (some 37), .iaddr none 1 (.t 35) (.t 36), 0, none⟩, ⟨13, (some 44), .mv (.t 1), 0, none⟩, ⟨14, (some 45), .mv (.t 8), 0, none⟩, ⟨15, (some 46), .iaddr none 1 (.t 44) (.t 45), 0, none⟩, ⟨17, (some 48), .mv (.t 1), 0, none⟩, ⟨18, (some 49), .mv (.t 10), 0, none⟩, ⟨19, (some 50), .iaddr none 1 (.t 48) (.t 49), 0, none⟩, ⟨0, (some 31), .load (some 4) (.t 3), 0, none⟩, ⟨1, (some 32), .load (some 4) (.t 3), 0, none⟩, ⟨3, (some 34), .load (some 4) (.t 3), 0, none⟩, ⟨7, (some 38), .load none (.t 37), 0, none⟩, ⟨11, (some 42), .load (some 4) (.t 3), 0, none⟩, ⟨12, (some 43), .load (some 4) (.t 3), 0, none⟩, ⟨16, (some 47), .load none (.t 46), 0, none⟩, ⟨20, (some 51), .load none (.t 50), 0, none⟩, ⟨8, (some 39), .call 88 [.t 34, .t 38], 1, none⟩, ⟨9, (some 40), .bsl 1 2 [.int .i64 (0), .int .i64 (0)] [(0, 1, .t 39), (1, 1, .c (.int .i64 (1)))], 0, none⟩, ⟨10, (some 41), .call 87 [.t 32, .t 33, .t 40], 1, none⟩, ⟨21, (some 52), .call 90 [.t 43, .t 47, .t 51], 1, none⟩, ⟨22, (some 53), .call 89 [.t 42, .t 52], 1, none⟩, ⟨23, (some 54), .call 86 [.t 31, .t 41, .t 53], 1, none⟩, ⟨24, (some 9), .mv (.t 54), 0, none⟩] [1, 2, 3, 7, 8, 9, 10])
                    (.skip))))
                 (.reg false [⟨0, (some 26), .mv (.t 10), 0, none⟩, ⟨1, (some 27), .bin .add (.t 26) (.c (.int .i64 (1))), 0, none⟩, ⟨2, (some 10), .mv (.t 27), 0, none⟩] [1, 2, 3, 7, 8, 9, 10]))))))
            (.reg true [⟨1, (some 56), .mv (.t 7), 0, none⟩, ⟨2, (some 57), .mv (.t 9), 0, none⟩, ⟨0, (some 55), .load (some 4) (.t 3), 0, none⟩, ⟨3, (some 58), .call 92 [.t 57], 1, none⟩, ⟨4, (some 59), .call 91 [.t 55, .t 56, .t 58], 1, none⟩, ⟨5, (some 7), .mv (.t 59), 0, none⟩] [1, 2, 3, 7, 8]))))
         (.reg false [⟨0, (some 15), .mv (.t 8), 0, none⟩, ⟨1, (some 16), .bin .add (.t 15) (.c (.int .i64 (1))), 0, none⟩, ⟨2, (some 8), .mv (.t 16), 0, none⟩] [1, 2, 3, 7, 8]))))))
    (.seq
     (.reg false [⟨0, (some 60), .mv (.t 7), 0, none⟩, ⟨1, (some 6), .mv (.t 60), 0, none⟩] [6])
     (.ret))))

theorem ok58 : okF Tryz.prog 58 3 c58 [.tmp 6] = true := by kernel_rfl

/-- dauber/dauberref08.ints -/
def c59 : C :=
 .seq
  (.reg false [⟨0, (some 2), .mv (.c (.nils)), 0, none⟩] [0])
  (.seq
   (.reg false [⟨0, (some 3), .nilo 1, 0, none⟩] [0, 3])
   (.seq
    (.seq
     (.reg false [⟨0, (some 4), .mv (.c (.int .i64 (0))), 0, none⟩] [0, 3, 4])
     (.blk 0
      (.loop [0, 3, 4]
       (.seq
        (.seq
         (.reg false [⟨0, (some 5), .mv (.t 4), 0, none⟩, ⟨1, (some 6), .mv (.t 0), 0, none⟩, ⟨2, (some 7), .len none (.t 6), 0, none⟩, ⟨3, (some 8), .bin .lss (.t 5) (.t 7), 0, none⟩] [0, 3, 4, 8])
         (.cond (.t 8)
          (.skip)
          (.exit 0)))
        (.seq
         (.blk 1
          (.reg false [⟨0, (some 11), .mv (.t 3), 0, none⟩, ⟨1, (some 12), .mv (.t 0), 0, none⟩, ⟨2, (some 13), .mv (.t 4), 0, none⟩, ⟨3, (some 14), .iaddr none 1 (.t 12) (.t 13), 0, none⟩, ⟨4, (some 15), .load none (.t 14), 0, none⟩, ⟨5, (some 16), .bsl 1 1 [.int .i64 (0)] [(0, 1, .t 15)], 0, none⟩, ⟨6, (some 17), .app 1 8 (.t 11) (.t 16), 0, none⟩, ⟨7, (some 3), .mv (.t 17), 0, none⟩] [0, 3, 4]))
         (.reg false [⟨0, (some 9), .mv (.t 4), 0, none⟩, ⟨1, (some 10), .bin .add (.t 9) (.c (.int .i64 (1))), 0, none⟩, ⟨2, (some 4), .mv (.t 10), 0, none⟩] [0, 3, 4]))))))
    (.seq
     (.reg false [⟨0, (some 18), .mv (.t 3), 0, none⟩, ⟨1, (some 2), .mv (.t 18), 0, none⟩] [2])
     (.ret))))

theorem ok59 : okF Tryz.prog 59 1 c59 [.tmp 2] = true := by kernel_rfl

/-- dauber/share.checkPoly -/
def c60 : C :=
 .seq
  (.reg false [⟨0, (some 2), .box 3 (.t 0), 0, none⟩, ⟨1, (some 4), .mv (.c (.int .i64 (0))), 0, none⟩] [1, 2])
  (.seq
   (.seq
    (.reg false [⟨0, (some 6), .load (some 3) (.t 2), 0, none⟩, ⟨1, (some 7), .call 43 [.t 6], 2, none⟩, ⟨2, (some 5), .mv (.t 7), 0, none⟩] [1, 2, 5])
    (.seq
     (.reg false [⟨0, (some 8), .mv (.t 5), 0, none⟩, ⟨1, (some 9), .bin .neq (.t 8) (.c (.int .i64 (0))), 0, none⟩] [1, 2, 5, 9])
     (.cond (.t 9)
      (.seq
       (.reg false [⟨0, (some 10), .mv (.t 5), 0, none⟩, ⟨1, (some 4), .mv (.t 10), 0, none⟩] [4])
       (.ret))
      (.skip))))
   (.seq
    (.seq
     (.reg false [⟨0, (some 11), .mv (.t 1), 0, none⟩, ⟨1, (some 12), .len none (.t 11), 0, none⟩, ⟨2, (some 13), .bin .lss (.t 12) (.c (.int .i64 (1))), 0, none⟩, ⟨3, (some 14), .mv (.t 13), 0, none⟩, ⟨4, (some 15), .mv (.t 1), 0, (some (14, false))⟩, ⟨5, (some 16), .len none (.t 15), 0, (some (14, false))⟩, ⟨6, (some 17), .bin .gtr (.t 16) (.c (.int .i64 (16))), 0, (some (14, false))⟩, ⟨7, (some 18), .pick (.t 14) (.c (.bool true)) (.t 17), 0, none⟩] [1, 2, 18])
     (.cond (.t 18)
      (.seq
       (.reg false [⟨0, (some 4), .mv (.c (.int .i64 (2))), 0, none⟩] [4])
       (.ret))
      (.skip)))
    (.seq
     (.seq
      (.reg false [⟨0, (some 19), .load (some 3) (.t 2), 0, none⟩, ⟨1, (some 20), .mv (.t 1), 0, none⟩, ⟨2, (some 21), .call 66 [.t 19, .t 20], 2, none⟩, ⟨3, (some 22), .un .not (.t 21), 0, none⟩] [22])
      (.cond (.t 22)
       (.seq
        (.reg false [⟨0, (some 4), .mv (.c (.int .i64 (1))), 0, none⟩] [4])
        (.ret))
       (.skip)))
     (.seq
      (.reg false [⟨0, (some 4), .mv (.c (.int .i64 (0))), 0, none⟩] [4])
      (.ret)))))

theorem ok60 : okF Tryz.prog 60 2 c60 [.tmp 4] = true := by kernel_rfl

/-- (dauber/share.Group).value -/
def c61 : C :=
 .seq
  (.reg false [⟨0, (some 3), .box 3 (.t 0), 0, none⟩, ⟨1, (some 6), .mv (.c (.int .i64 (0))), 0, none⟩] [1, 2, 3])
  (.seq
   (.reg false [⟨0, (some 7), .mv (.c (.int .i64 (0))), 0, none⟩] [1, 2, 3, 7])
   (.seq
    (.seq
     (.reg false [⟨0, (some 9), .mv (.t 1), 0, none⟩, ⟨1, (some 10), .len none (.t 9), 0, none⟩, ⟨2, (some 11), .bin .sub (.t 10) (.c (.int .i64 (1))), 0, none⟩, ⟨3, (some 8), .mv (.t 11), 0, none⟩] [1, 2, 3, 7, 8])
     (.blk 0
      (.loop [1, 2, 3, 7, 8]
       (.seq
        (.seq
         (.reg false [⟨0, (some 12), .mv (.t 8), 0, none⟩, ⟨1, (some 13), .bin .geq (.t 12) (.c (.int .i64 (0))), 0, none⟩] [1, 2, 3, 7, 8, 13])
         (.cond (.t 13)
          (.skip)
          (.exit 0)))
        (.seq
         (.blk 1
          (.reg true [⟨4, (some 20), .mv (.t 7), 0, none⟩, ⟨5, (some 21), .mv (.t 2), 0, none⟩, ⟨6, (some 22), .faddr 1 (.t 3), 0, none⟩, ⟨10, (some 26), .mv (.t 1), 0, none⟩, ⟨11, (some 27), .mv (.t 8), 0, none⟩, ⟨12, (some 28), .iaddr none 1 (.t 26) (.t 27), 0, none⟩, ⟨0, (some 16), .load (some 3) (.t 3), 0, none⟩, ⟨2, (some 18), .load (some 3) (.t 3), 0, none⟩, ⟨7, (some 23), .load none (.t 22), 0, none⟩, ⟨8, (some 24), .bin .rem (.t 21) (.t 23), 0, none⟩, ⟨13, (some 29), .load none (.t 28), 0, none⟩, ⟨1, (some 17), .call 47 [.t 16], 1, none⟩, ⟨3, (some 19), .call 47 [.t 18], 1, none⟩, ⟨9, (some 25), .call 49 [.t 19, .t 20, .t 24], 1, none⟩, ⟨14, (some 30), .call 51 [.t 17, .t 25, .t 29], 1, none⟩, ⟨15, (some 7), .mv (.t 30), 0, none⟩] [1, 2, 3, 7, 8]))
         (.reg false [⟨0, (some 14), .mv (.t 8), 0, none⟩, ⟨1, (some 15), .bin .sub (.t 14) (.c (.int .i64 (1))), 0, none⟩, ⟨2, (some 8), .mv (.t 15), 0, none⟩] [1, 2, 3, 7, 8]))))))
    (.seq
     (.reg false [⟨0, (some 31), .mv (.t 7), 0, none⟩, ⟨1, (some 6), .mv (.t 31), 0, none⟩] [6])
     (.ret))))

theorem ok61 : okF Tryz.prog 61 3 c61 [.tmp 6] = true := by kernel_rfl

/-- (dauber/share.Group).raise -/
def c62 : C :=
 .seq
  (.reg false [⟨0, (some 2), .box 3 (.t 0), 0, none⟩, ⟨1, (some 4), .mv (.c (.int .i64 (0))), 0, none⟩] [1, 2])
  (.seq
   (.reg true [⟨2, (some 7), .faddr 2 (.t 2), 0, none⟩, ⟨4, (some 9), .mv (.t 1), 0, none⟩, ⟨0, (some 5), .load (some 3) (.t 2), 0, none⟩, ⟨3, (some 8), .load none (.t 7), 0, none⟩, ⟨1, (some 6), .call 67 [.t 5], 1, none⟩, ⟨5, (some 10), .call 68 [.t 6, .t 8, .t 9], 1, none⟩, ⟨6, (some 4), .mv (.t 10), 0, none⟩] [4])
   (.ret))

theorem ok62 : okF Tryz.prog 62 2 c62 [.tmp 4] = true := by kernel_rfl

/-- dauber/dauberref08.power -/
def c63 : C :=
 .seq
  (.reg false [⟨0, (some 6), .mv (.c (.int .i64 (0))), 0, none⟩] [0, 1, 2])
  (.seq
   (.reg false [⟨0, (some 8), .mv (.t 2), 0, none⟩, ⟨1, (some 9), .bin .rem (.c (.int .i64 (1))) (.t 8), 0, none⟩, ⟨2, (some 7), .mv (.t 9), 0, none⟩] [0, 1, 2, 7])
   (.seq
    (.reg false [⟨0, (some 10), .mv (.t 0), 0, none⟩, ⟨1, (some 11), .mv (.t 2), 0, none⟩, ⟨2, (some 12), .bin .rem (.t 10) (.t 11), 0, none⟩, ⟨3, (some 0), .mv (.t 12), 0, none⟩] [0, 1, 2, 7])
    (.seq
     (.blk 0
      (.loop [0, 1, 2, 7]
       (.seq
        (.seq
         (.reg false [⟨0, (some 13), .mv (.t 1), 0, none⟩, ⟨1, (some 14), .bin .gtr (.t 13) (.c (.int .i64 (0))), 0, none⟩] [0, 1, 2, 7, 14])
         (.cond (.t 14)
          (.skip)
          (.exit 0)))
        (.seq
         (.blk 1
          (.seq
           (.seq
            (.reg false [⟨0, (some 17), .mv (.t 1), 0, none⟩, ⟨1, (some 18), .bin .rem (.t 17) (.c (.int .i64 (2))), 0, none⟩, ⟨2, (some 19), .bin .eql (.t 18) (.c (.int .i64 (1))), 0, none⟩] [0, 1, 2, 7, 19])
            (.cond (.t 19)
             (.reg false [⟨0, (some 20), .mv (.t 7), 0, none⟩, ⟨1, (some 21), .mv (.t 0), 0, none⟩, ⟨2, (some 22), .bin .mul (.t 20) (.t 21), 0, none⟩, ⟨3, (some 23), .mv (.t 2), 0, none⟩, ⟨4, (some 24), .bin .rem (.t 22) (.t 23), 0, none⟩, ⟨5, (some 7), .mv (.t 24), 0, none⟩] [0, 1, 2, 7])
             (.skip)))
           (.reg false [⟨0, (some 25), .mv (.t 0), 0, none⟩, ⟨1, (some 26), .mv (.t 0), 0, none⟩, ⟨2, (some 27), .bin .mul (.t 25) (.t 26), 0, none⟩, ⟨3, (some 28), .mv (.t 2), 0, none⟩, ⟨4, (some 29), .bin .rem (.t 27) (.t 28), 0, none⟩, ⟨5, (some 0), .mv (.t 29), 0, none⟩] [0, 1, 2, 7])))
         (.reg false [⟨0, (some 15), .mv (.t 1), 0, none⟩, ⟨1, (some 16), .bin .quo (.t 15) (.c (.int .i64 (2))), 0, none⟩, ⟨2, (some 1), .mv (.t 16), 0, none⟩] [0, 1, 2, 7])))))
     (.seq
      (.reg false [⟨0, (some 30), .mv (.t 7), 0, none⟩, ⟨1, (some 6), .mv (.t 30), 0, none⟩] [6])
      (.ret)))))

theorem ok63 : okF Tryz.prog 63 3 c63 [.tmp 6] = true := by kernel_rfl

/-- (dauber/share.Group).has -/
def c64 : C :=
 .seq
  (.reg false [⟨0, (some 2), .box 3 (.t 0), 0, none⟩, ⟨1, (some 4), .mv (.c (.bool false)), 0, none⟩] [1, 2])
  (.seq
   (.reg false [⟨0, (some 5), .faddr 0 (.t 2), 0, none⟩, ⟨1, (some 6), .load none (.t 5), 0, none⟩, ⟨2, (some 7), .bin .sub (.t 6) (.c (.int .i64 (1))), 0, none⟩, ⟨3, (some 8), .mv (.t 1), 0, none⟩, ⟨4, (some 9), .call 65 [.c (.int .i64 (1)), .t 7, .t 8], 2, none⟩, ⟨5, (some 10), .mv (.t 9), 0, none⟩, ⟨6, (some 11), .mv (.t 1), 0, (some (10, true))⟩, ⟨7, (some 12), .mkfn (.func 94) [] [.t 2], 0, (some (10, true))⟩, ⟨8, (some 13), .call 93 [.t 11, .t 12], 2, (some (10, true))⟩, ⟨9, (some 14), .un .not (.t 13), 0, (some (10, true))⟩, ⟨10, (some 15), .pick (.t 10) (.t 14) (.c (.bool false)), 0, none⟩, ⟨11, (some 4), .mv (.t 15), 0, none⟩] [4])
   (.ret))

theorem ok64 : okF Tryz.prog 64 2 c64 [.tmp 4] = true := by kernel_rfl

/-- dauber/share.in -/
def c65 : C :=
 .seq
  (.reg false [⟨0, (some 3), .box 1 (.t 0), 0, none⟩, ⟨1, (some 4), .box 1 (.t 1), 0, none⟩, ⟨2, (some 6), .mv (.c (.bool false)), 0, none⟩] [2, 3, 4])
  (.seq
   (.reg false [⟨0, (some 7), .mv (.t 2), 0, none⟩, ⟨1, (some 8), .mkfn (.func 95) [] [.t 3, .t 4], 0, none⟩, ⟨2, (some 9), .call 93 [.t 7, .t 8], 2, none⟩, ⟨3, (some 10), .un .not (.t 9), 0, none⟩, ⟨4, (some 6), .mv (.t 10), 0, none⟩] [6])
   (.ret))

theorem ok65 : okF Tryz.prog 65 3 c65 [.tmp 6] = true := by kernel_rfl

end Go.Dp
