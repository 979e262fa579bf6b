import Derived.Test.YtkadcajmlkmhjaaGreatProg
import Derived.Test.YtkadcajmlkmhjaaGreatDpRunS
namespace Go.Dp
open Go.RowKit Go.Proofs
set_option maxRecDepth 100000
/-- gosem.cut.init -/
def c2 : C :=
 .reg false [⟨0, (some 0), .call 1 [], 2, none⟩] []

theorem ok2 : okF Tryz.prog 2 0 c2 [] = true := by kernel_rfl

/-- dauber/daubertop.TopShares -/
def c3 : C :=
 .seq
  (.reg false [⟨0, (some 6), .mv (.c (.bool false)), 0, none⟩] [0, 1, 2])
  (.seq
   (.reg false [⟨0, (some 36), .mv (.t 0), 0, none⟩, ⟨1, (some 37), .call 10 [.t 36], 2, none⟩, ⟨2, (some 38), .call 9 [.t 37], 2, none⟩, ⟨3, (some 35), .mv (.t 38), 0, none⟩, ⟨4, (some 39), .ext 0 (.t 35), 0, none⟩, ⟨5, (some 40), .ext 1 (.t 35), 0, none⟩, ⟨6, (some 7), .alloc [.int .i64 (0), .int .i64 (0), .int .i64 (0)] 3, 0, none⟩, ⟨7, none, .store 3 (.t 7) (.t 39), 0, none⟩, ⟨8, (some 8), .mv (.t 40), 0, none⟩] [1, 2, 7, 8])
   (.seq
    (.seq
     (.reg false [⟨0, (some 41), .mv (.t 8), 0, none⟩, ⟨1, (some 42), .bin .neq (.t 41) (.c (.int .i64 (0))), 0, none⟩] [1, 2, 7, 42])
     (.cond (.t 42)
      (.seq
       (.reg false [⟨0, (some 6), .mv (.c (.bool false)), 0, none⟩] [6])
       (.ret))
      (.skip)))
    (.seq
     (.reg false [⟨0, (some 43), .mv (.t 1), 0, none⟩, ⟨1, (some 44), .len none (.t 43), 0, none⟩, ⟨2, (some 45), .call 11 [.t 44, .c (.int .i64 (4))], 2, none⟩, ⟨3, (some 46), .bin .add (.c (.int .i64 (1))) (.t 45), 0, none⟩, ⟨4, (some 9), .mv (.t 46), 0, none⟩] [1, 2, 7, 9])
     (.seq
      (.reg false [⟨0, (some 47), .faddr 1 (.t 7), 0, none⟩, ⟨1, (some 48), .load none (.t 47), 0, none⟩, ⟨2, (some 49), .bin .sub (.t 48) (.c (.int .i64 (1))), 0, none⟩, ⟨3, (some 50), .mn [.c (.int .i64 (12)), .t 49], 0, none⟩, ⟨4, (some 10), .mv (.t 50), 0, none⟩] [1, 2, 7, 9, 10])
      (.seq
       (.reg false [⟨0, (some 51), .faddr 1 (.t 7), 0, none⟩, ⟨1, (some 52), .load none (.t 51), 0, none⟩, ⟨2, (some 53), .mv (.t 9), 0, none⟩, ⟨3, (some 54), .build [.int .i64 (0), .nils, .int .i64 (0)] [(0, 1, .t 52), (2, 1, .t 53)], 0, none⟩, ⟨4, (some 11), .alloc [.int .i64 (0), .nils, .int .i64 (0)] 3, 0, none⟩, ⟨5, none, .store 3 (.t 11) (.t 54), 0, none⟩] [1, 2, 7, 9, 10, 11])
       (.seq
        (.reg false [⟨0, (some 12), .nilo 1, 0, none⟩] [1, 2, 7, 9, 10, 11, 12])
        (.seq
         (.reg false [⟨0, (some 13), .nilo 1, 0, none⟩] [1, 2, 7, 9, 10, 11, 12, 13])
         (.seq
          (.seq
           (.reg false [⟨0, (some 14), .mv (.c (.int .i64 (0))), 0, none⟩] [1, 2, 7, 9, 10, 11, 12, 13, 14])
           (.blk 0
            (.loop [1, 2, 7, 9, 10, 11, 12, 13, 14]
             (.seq
              (.seq
               (.reg false [⟨0, (some 55), .mv (.t 14), 0, none⟩, ⟨1, (some 56), .mv (.t 9), 0, none⟩, ⟨2, (some 57), .bin .lss (.t 55) (.t 56), 0, none⟩] [1, 2, 7, 9, 10, 11, 12, 13, 14, 57])
               (.cond (.t 57)
                (.skip)
                (.exit 0)))
              (.seq
               (.blk 1
                (.seq
                 (.reg false [⟨0, (some 15), .mv (.c (.int .i64 (2))), 0, none⟩] [1, 2, 7, 9, 10, 11, 12, 13, 14, 15])
                 (.seq
                  (.seq
                   (.reg false [⟨0, (some 60), .mv (.t 14), 0, none⟩, ⟨1, (some 61), .mv (.t 1), 0, none⟩, ⟨2, (some 62), .len none (.t 61), 0, none⟩, ⟨3, (some 63), .bin .lss (.t 60) (.t 62), 0, none⟩] [1, 2, 7, 9, 10, 11, 12, 13, 14, 15, 63])
                   (.cond (.t 63)
                    (.reg true [⟨0, (some 64), .mv (.t 1), 0, none⟩, ⟨1, (some 65), .mv (.t 14), 0, none⟩, ⟨2, (some 66), .iaddr none 1 (.t 64) (.t 65), 0, none⟩, ⟨4, (some 68), .faddr 1 (.t 7), 0, none⟩, ⟨3, (some 67), .load none (.t 66), 0, none⟩, ⟨5, (some 69), .load none (.t 68), 0, none⟩, ⟨6, (some 70), .bin .sub (.t 69) (.c (.int .i64 (1))), 0, none⟩, ⟨7, (some 71), .call 11 [.t 67, .t 70], 2, none⟩, ⟨8, (some 15), .mv (.t 71), 0, none⟩] [1, 2, 7, 9, 10, 11, 12, 13, 14, 15])
                    (.skip)))
                  (.seq
                   (.reg false [⟨0, (some 72), .mv (.t 12), 0, none⟩, ⟨1, (some 73), .mv (.t 15), 0, none⟩, ⟨2, (some 74), .bsl 1 1 [.int .i64 (0)] [(0, 1, .t 73)], 0, none⟩, ⟨3, (some 75), .app 1 8 (.t 72) (.t 74), 0, none⟩, ⟨4, (some 12), .mv (.t 75), 0, none⟩] [1, 2, 7, 9, 10, 11, 12, 13, 14, 15])
                   (.reg false [⟨0, (some 76), .mv (.t 13), 0, none⟩, ⟨1, (some 77), .mv (.t 15), 0, none⟩, ⟨2, (some 78), .bsl 1 1 [.int .i64 (0)] [(0, 1, .t 77)], 0, none⟩, ⟨3, (some 79), .app 1 8 (.t 76) (.t 78), 0, none⟩, ⟨4, (some 13), .mv (.t 79), 0, none⟩] [1, 2, 7, 9, 10, 11, 12, 13, 14])))))
               (.reg false [⟨0, (some 58), .mv (.t 14), 0, none⟩, ⟨1, (some 59), .bin .add (.t 58) (.c (.int .i64 (1))), 0, none⟩, ⟨2, (some 14), .mv (.t 59), 0, none⟩] [1, 2, 7, 9, 10, 11, 12, 13, 14]))))))
          (.seq
           (.reg false [⟨0, (some 16), .nilo 1, 0, none⟩] [2, 7, 9, 10, 11, 12, 13, 16])
           (.seq
            (.seq
             (.reg false [⟨0, (some 17), .mv (.c (.int .i64 (1))), 0, none⟩] [2, 7, 9, 10, 11, 12, 13, 16, 17])
             (.blk 2
              (.loop [2, 7, 9, 10, 11, 12, 13, 16, 17]
               (.seq
                (.seq
                 (.reg false [⟨0, (some 80), .mv (.t 17), 0, none⟩, ⟨1, (some 81), .mv (.t 10), 0, none⟩, ⟨2, (some 82), .bin .leq (.t 80) (.t 81), 0, none⟩] [2, 7, 9, 10, 11, 12, 13, 16, 17, 82])
                 (.cond (.t 82)
                  (.skip)
                  (.exit 2)))
                (.seq
                 (.blk 3
                  (.seq
                   (.reg false [⟨0, (some 85), .faddr 1 (.t 11), 0, none⟩, ⟨1, (some 86), .load none (.t 85), 0, none⟩, ⟨2, (some 18), .mv (.t 86), 0, none⟩] [2, 7, 9, 10, 11, 12, 13, 16, 17, 18])
                   (.seq
                    (.reg false [⟨0, (some 87), .mv (.t 18), 0, none⟩, ⟨1, (some 88), .mv (.t 17), 0, none⟩, ⟨2, (some 89), .bsl 1 1 [.int .i64 (0)] [(0, 1, .t 88)], 0, none⟩, ⟨3, (some 90), .app 1 8 (.t 87) (.t 89), 0, none⟩, ⟨4, (some 91), .faddr 1 (.t 11), 0, none⟩, ⟨5, none, .store 1 (.t 91) (.t 90), 0, none⟩] [2, 7, 9, 10, 11, 12, 13, 16, 17])
                    (.reg false [⟨0, (some 92), .mv (.t 16), 0, none⟩, ⟨1, (some 93), .mv (.t 17), 0, none⟩, ⟨2, (some 94), .bsl 1 1 [.int .i64 (0)] [(0, 1, .t 93)], 0, none⟩, ⟨3, (some 95), .app 1 8 (.t 92) (.t 94), 0, none⟩, ⟨4, (some 16), .mv (.t 95), 0, none⟩] [2, 7, 9, 10, 11, 12, 13, 16, 17]))))
                 (.reg false [⟨0, (some 83), .mv (.t 17), 0, none⟩, ⟨1, (some 84), .bin .add (.t 83) (.c (.int .i64 (1))), 0, none⟩, ⟨2, (some 17), .mv (.t 84), 0, none⟩] [2, 7, 9, 10, 11, 12, 13, 16, 17]))))))
            (.seq
             (.reg false [⟨0, (some 97), .load (some 3) (.t 7), 0, none⟩, ⟨1, (some 98), .mv (.t 12), 0, none⟩, ⟨2, (some 99), .mv (.t 10), 0, none⟩, ⟨3, (some 100), .call 12 [.t 97, .t 98, .t 99], 2, none⟩, ⟨4, (some 96), .mv (.t 100), 0, none⟩, ⟨5, (some 101), .ext 0 (.t 96), 0, none⟩, ⟨6, (some 102), .ext 1 (.t 96), 0, none⟩, ⟨7, (some 19), .mv (.t 101), 0, none⟩, ⟨8, (some 20), .mv (.t 102), 0, none⟩] [2, 7, 9, 10, 11, 13, 16, 19, 20])
             (.seq
              (.reg false [⟨0, (some 104), .load (some 3) (.t 11), 0, none⟩, ⟨1, (some 105), .mv (.t 13), 0, none⟩, ⟨2, (some 106), .call 13 [.t 104, .t 105], 2, none⟩, ⟨3, (some 103), .mv (.t 106), 0, none⟩, ⟨4, (some 107), .ext 0 (.t 103), 0, none⟩, ⟨5, (some 108), .ext 1 (.t 103), 0, none⟩, ⟨6, (some 21), .mv (.t 107), 0, none⟩, ⟨7, (some 22), .mv (.t 108), 0, none⟩] [2, 7, 9, 10, 11, 16, 19, 20, 21, 22])
              (.seq
               (.seq
                (.reg false [⟨0, (some 109), .mv (.t 20), 0, none⟩, ⟨1, (some 110), .bin .neq (.t 109) (.c (.int .i64 (0))), 0, none⟩, ⟨2, (some 111), .mv (.t 110), 0, none⟩, ⟨3, (some 112), .mv (.t 22), 0, (some (111, false))⟩, ⟨4, (some 113), .bin .neq (.t 112) (.c (.int .i64 (0))), 0, (some (111, false))⟩, ⟨5, (some 114), .pick (.t 111) (.c (.bool true)) (.t 113), 0, none⟩, ⟨6, (some 115), .mv (.t 114), 0, none⟩, ⟨7, (some 116), .mv (.t 19), 0, (some (115, false))⟩, ⟨8, (some 117), .len none (.t 116), 0, (some (115, false))⟩, ⟨9, (some 118), .mv (.t 10), 0, (some (115, false))⟩, ⟨10, (some 119), .bin .neq (.t 117) (.t 118), 0, (some (115, false))⟩, ⟨11, (some 120), .pick (.t 115) (.c (.bool true)) (.t 119), 0, none⟩, ⟨12, (some 121), .mv (.t 120), 0, none⟩, ⟨13, (some 122), .mv (.t 21), 0, (some (121, false))⟩, ⟨14, (some 123), .len none (.t 122), 0, (some (121, false))⟩, ⟨15, (some 124), .mv (.t 10), 0, (some (121, false))⟩, ⟨16, (some 125), .bin .neq (.t 123) (.t 124), 0, (some (121, false))⟩, ⟨17, (some 126), .pick (.t 121) (.c (.bool true)) (.t 125), 0, none⟩] [2, 7, 9, 10, 11, 16, 19, 21, 126])
                (.cond (.t 126)
                 (.seq
                  (.reg false [⟨0, (some 6), .mv (.c (.bool false)), 0, none⟩] [6])
                  (.ret))
                 (.skip)))
               (.seq
                (.seq
                 (.reg false [⟨0, (some 23), .mv (.c (.int .i64 (0))), 0, none⟩] [2, 7, 9, 10, 11, 16, 19, 21, 23])
                 (.blk 4
                  (.loop [2, 7, 9, 10, 11, 16, 19, 21, 23]
                   (.seq
                    (.seq
                     (.reg false [⟨0, (some 127), .mv (.t 23), 0, none⟩, ⟨1, (some 128), .mv (.t 10), 0, none⟩, ⟨2, (some 129), .bin .lss (.t 127) (.t 128), 0, none⟩] [2, 7, 9, 10, 11, 16, 19, 21, 23, 129])
                     (.cond (.t 129)
                      (.skip)
                      (.exit 4)))
                    (.seq
                     (.blk 5
                      (.seq
                       (.reg true [⟨0, (some 132), .mv (.t 19), 0, none⟩, ⟨1, (some 133), .mv (.t 23), 0, none⟩, ⟨2, (some 134), .iaddr none 1 (.t 132) (.t 133), 0, none⟩, ⟨4, (some 136), .mv (.t 21), 0, none⟩, ⟨5, (some 137), .mv (.t 23), 0, none⟩, ⟨6, (some 138), .iaddr none 1 (.t 136) (.t 137), 0, none⟩, ⟨3, (some 135), .load none (.t 134), 0, none⟩, ⟨7, (some 139), .load none (.t 138), 0, none⟩, ⟨8, (some 140), .bin .neq (.t 135) (.t 139), 0, none⟩] [2, 7, 9, 10, 11, 16, 19, 21, 23, 140])
                       (.cond (.t 140)
                        (.seq
                         (.reg false [⟨0, (some 6), .mv (.c (.bool false)), 0, none⟩] [6])
                         (.ret))
                        (.skip))))
                     (.reg false [⟨0, (some 130), .mv (.t 23), 0, none⟩, ⟨1, (some 131), .bin .add (.t 130) (.c (.int .i64 (1))), 0, none⟩, ⟨2, (some 23), .mv (.t 131), 0, none⟩] [2, 7, 9, 10, 11, 16, 19, 21, 23]))))))
                (.seq
                 (.seq
                  (.reg false [⟨0, (some 24), .mv (.c (.int .i64 (0))), 0, none⟩] [2, 7, 9, 10, 11, 16, 19, 21, 24])
                  (.blk 6
                   (.loop [2, 7, 9, 10, 11, 16, 19, 21, 24]
                    (.seq
                     (.seq
                      (.reg false [⟨0, (some 141), .mv (.t 24), 0, none⟩, ⟨1, (some 142), .mv (.t 2), 0, none⟩, ⟨2, (some 143), .len none (.t 142), 0, none⟩, ⟨3, (some 144), .bin .lss (.t 141) (.t 143), 0, none⟩, ⟨4, (some 145), .mv (.t 144), 0, none⟩, ⟨5, (some 146), .mv (.t 24), 0, (some (145, true))⟩, ⟨6, (some 147), .bin .lss (.t 146) (.c (.int .i64 (6))), 0, (some (145, true))⟩, ⟨7, (some 148), .pick (.t 145) (.t 147) (.c (.bool false)), 0, none⟩] [2, 7, 9, 10, 11, 16, 19, 21, 24, 148])
                      (.cond (.t 148)
                       (.skip)
                       (.exit 6)))
                     (.seq
                      (.blk 7
                       (.seq
                        (.reg false [⟨0, (some 151), .mv (.t 2), 0, none⟩, ⟨1, (some 152), .mv (.t 24), 0, none⟩, ⟨2, (some 153), .iaddr none 1 (.t 151) (.t 152), 0, none⟩, ⟨3, (some 154), .load none (.t 153), 0, none⟩, ⟨4, (some 155), .mv (.t 10), 0, none⟩, ⟨5, (some 156), .bin .sub (.t 155) (.c (.int .i64 (1))), 0, none⟩, ⟨6, (some 157), .call 11 [.t 154, .t 156], 2, none⟩, ⟨7, (some 25), .mv (.t 157), 0, none⟩] [2, 7, 9, 10, 11, 16, 19, 21, 24, 25])
                        (.seq
                         (.reg true [⟨0, (some 158), .mv (.t 19), 0, none⟩, ⟨1, (some 159), .mv (.t 25), 0, none⟩, ⟨2, (some 160), .mv (.t 19), 0, none⟩, ⟨3, (some 161), .mv (.t 25), 0, none⟩, ⟨4, (some 162), .iaddr none 1 (.t 160) (.t 161), 0, none⟩, ⟨6, (some 164), .mv (.t 24), 0, none⟩, ⟨9, (some 167), .faddr 1 (.t 7), 0, none⟩, ⟨5, (some 163), .load none (.t 162), 0, none⟩, ⟨7, (some 165), .bin .add (.t 163) (.t 164), 0, none⟩, ⟨8, (some 166), .bin .add (.t 165) (.c (.int .i64 (1))), 0, none⟩, ⟨10, (some 168), .load none (.t 167), 0, none⟩, ⟨11, (some 169), .bin .rem (.t 166) (.t 168), 0, none⟩, ⟨12, (some 170), .iaddr none 1 (.t 158) (.t 159), 0, none⟩, ⟨13, none, .store 1 (.t 170) (.t 169), 0, none⟩] [2, 7, 9, 10, 11, 16, 19, 21, 24, 25])
                         (.reg false [⟨0, (some 171), .mv (.t 21), 0, none⟩, ⟨1, (some 172), .mv (.t 25), 0, none⟩, ⟨2, (some 173), .mv (.t 19), 0, none⟩, ⟨3, (some 174), .mv (.t 25), 0, none⟩, ⟨4, (some 175), .iaddr none 1 (.t 173) (.t 174), 0, none⟩, ⟨5, (some 176), .load none (.t 175), 0, none⟩, ⟨6, (some 177), .iaddr none 1 (.t 171) (.t 172), 0, none⟩, ⟨7, none, .store 1 (.t 177) (.t 176), 0, none⟩] [2, 7, 9, 10, 11, 16, 19, 21, 24]))))
                      (.reg false [⟨0, (some 149), .mv (.t 24), 0, none⟩, ⟨1, (some 150), .bin .add (.t 149) (.c (.int .i64 (1))), 0, none⟩, ⟨2, (some 24), .mv (.t 150), 0, none⟩] [2, 7, 9, 10, 11, 16, 19, 21, 24]))))))
                 (.seq
                  (.reg false [⟨0, (some 179), .load (some 3) (.t 7), 0, none⟩, ⟨1, (some 180), .mv (.t 9), 0, none⟩, ⟨2, (some 181), .bin .sub (.t 180) (.c (.int .i64 (1))), 0, none⟩, ⟨3, (some 182), .mv (.t 16), 0, none⟩, ⟨4, (some 183), .mv (.t 19), 0, none⟩, ⟨5, (some 184), .call 14 [.t 179, .t 181, .t 182, .t 183], 2, none⟩, ⟨6, (some 178), .mv (.t 184), 0, none⟩, ⟨7, (some 185), .ext 0 (.t 178), 0, none⟩, ⟨8, (some 186), .ext 1 (.t 178), 0, none⟩, ⟨9, (some 187), .ext 2 (.t 178), 0, none⟩, ⟨10, (some 26), .mv (.t 185), 0, none⟩, ⟨11, (some 27), .mv (.t 186), 0, none⟩, ⟨12, (some 28), .mv (.t 187), 0, none⟩] [10, 11, 21, 26, 27, 28])
                  (.seq
                   (.reg false [⟨0, (some 189), .load (some 3) (.t 11), 0, none⟩, ⟨1, (some 190), .mv (.t 21), 0, none⟩, ⟨2, (some 191), .call 15 [.t 189, .t 190, .c (.nils)], 2, none⟩, ⟨3, (some 188), .mv (.t 191), 0, none⟩, ⟨4, (some 192), .ext 0 (.t 188), 0, none⟩, ⟨5, (some 193), .ext 1 (.t 188), 0, none⟩, ⟨6, (some 29), .mv (.t 192), 0, none⟩, ⟨7, (some 30), .mv (.t 193), 0, none⟩] [10, 11, 21, 26, 27, 28, 29, 30])
                   (.seq
                    (.seq
                     (.reg false [⟨0, (some 194), .mv (.t 28), 0, none⟩, ⟨1, (some 195), .bin .eql (.t 194) (.c (.int .i64 (0))), 0, none⟩, ⟨2, (some 196), .mv (.t 30), 0, none⟩, ⟨3, (some 197), .bin .eql (.t 196) (.c (.int .i64 (0))), 0, none⟩, ⟨4, (some 198), .eqb true (.t 195) (.t 197), 0, none⟩] [10, 11, 21, 26, 27, 28, 29, 198])
                     (.cond (.t 198)
                      (.seq
                       (.reg false [⟨0, (some 6), .mv (.c (.bool false)), 0, none⟩] [6])
                       (.ret))
                      (.skip)))
                    (.seq
                     (.seq
                      (.reg false [⟨0, (some 199), .mv (.t 28), 0, none⟩, ⟨1, (some 200), .bin .neq (.t 199) (.c (.int .i64 (0))), 0, none⟩] [10, 11, 21, 26, 27, 29, 200])
                      (.cond (.t 200)
                       (.seq
                        (.reg false [⟨0, (some 201), .mv (.t 27), 0, none⟩, ⟨1, (some 202), .len none (.t 201), 0, none⟩, ⟨2, (some 203), .bin .eql (.t 202) (.c (.int .i64 (0))), 0, none⟩, ⟨3, (some 204), .mv (.t 203), 0, none⟩, ⟨4, (some 205), .call 16 [], 2, (some (204, true))⟩, ⟨5, (some 206), .pick (.t 204) (.t 205) (.c (.bool false)), 0, none⟩, ⟨6, (some 6), .mv (.t 206), 0, none⟩] [6])
                        (.ret))
                       (.skip)))
                     (.seq
                      (.reg false [⟨0, (some 208), .load (some 3) (.t 11), 0, none⟩, ⟨1, (some 209), .mv (.t 29), 0, none⟩, ⟨2, (some 210), .call 17 [.t 208, .t 209], 2, none⟩, ⟨3, (some 207), .mv (.t 210), 0, none⟩, ⟨4, (some 211), .ext 0 (.t 207), 0, none⟩, ⟨5, (some 212), .ext 1 (.t 207), 0, none⟩, ⟨6, (some 31), .mv (.t 211), 0, none⟩, ⟨7, (some 32), .mv (.t 212), 0, none⟩] [10, 21, 26, 27, 29, 31, 32])
                      (.seq
                       (.seq
                        (.reg false [⟨0, (some 213), .mv (.t 32), 0, none⟩, ⟨1, (some 214), .bin .neq (.t 213) (.c (.int .i64 (0))), 0, none⟩, ⟨2, (some 215), .mv (.t 214), 0, none⟩, ⟨3, (some 216), .mv (.t 31), 0, (some (215, false))⟩, ⟨4, (some 217), .iaddr none 1 (.t 216) (.c (.int .i64 (0))), 0, (some (215, false))⟩, ⟨5, (some 218), .load none (.t 217), 0, (some (215, false))⟩, ⟨6, (some 219), .mv (.t 26), 0, (some (215, false))⟩, ⟨7, (some 220), .bin .neq (.t 218) (.t 219), 0, (some (215, false))⟩, ⟨8, (some 221), .pick (.t 215) (.c (.bool true)) (.t 220), 0, none⟩] [10, 21, 27, 29, 221])
                        (.cond (.t 221)
                         (.seq
                          (.reg false [⟨0, (some 6), .mv (.c (.bool false)), 0, none⟩] [6])
                          (.ret))
                         (.skip)))
                       (.seq
                        (.reg false [⟨0, (some 33), .mv (.c (.int .i64 (0))), 0, none⟩] [10, 21, 27, 29, 33])
                        (.seq
                         (.seq
                          (.reg false [⟨0, (some 34), .mv (.c (.int .i64 (0))), 0, none⟩] [10, 21, 27, 29, 33, 34])
                          (.blk 8
                           (.loop [10, 21, 27, 29, 33, 34]
                            (.seq
                             (.seq
                              (.reg false [⟨0, (some 222), .mv (.t 34), 0, none⟩, ⟨1, (some 223), .mv (.t 10), 0, none⟩, ⟨2, (some 224), .bin .lss (.t 222) (.t 223), 0, none⟩] [10, 21, 27, 29, 33, 34, 224])
                              (.cond (.t 224)
                               (.skip)
                               (.exit 8)))
                             (.seq
                              (.blk 9
                               (.seq
                                (.reg true [⟨0, (some 227), .mv (.t 29), 0, none⟩, ⟨1, (some 228), .mv (.t 34), 0, none⟩, ⟨2, (some 229), .iaddr none 1 (.t 227) (.t 228), 0, none⟩, ⟨4, (some 231), .mv (.t 21), 0, none⟩, ⟨5, (some 232), .mv (.t 34), 0, none⟩, ⟨6, (some 233), .iaddr none 1 (.t 231) (.t 232), 0, none⟩, ⟨3, (some 230), .load none (.t 229), 0, none⟩, ⟨7, (some 234), .load none (.t 233), 0, none⟩, ⟨8, (some 235), .bin .neq (.t 230) (.t 234), 0, none⟩] [10, 21, 27, 29, 33, 34, 235])
                                (.cond (.t 235)
                                 (.seq
                                  (.seq
                                   (.reg false [⟨0, (some 236), .mv (.t 33), 0, none⟩, ⟨1, (some 237), .mv (.t 27), 0, none⟩, ⟨2, (some 238), .len none (.t 237), 0, none⟩, ⟨3, (some 239), .bin .geq (.t 236) (.t 238), 0, none⟩, ⟨4, (some 240), .mv (.t 239), 0, none⟩, ⟨5, (some 241), .mv (.t 27), 0, (some (240, false))⟩, ⟨6, (some 242), .mv (.t 33), 0, (some (240, false))⟩, ⟨7, (some 243), .iaddr none 1 (.t 241) (.t 242), 0, (some (240, false))⟩, ⟨8, (some 244), .load none (.t 243), 0, (some (240, false))⟩, ⟨9, (some 245), .mv (.t 34), 0, (some (240, false))⟩, ⟨10, (some 246), .bin .neq (.t 244) (.t 245), 0, (some (240, false))⟩, ⟨11, (some 247), .pick (.t 240) (.c (.bool true)) (.t 246), 0, none⟩] [10, 21, 27, 29, 33, 34, 247])
                                   (.cond (.t 247)
                                    (.seq
                                     (.reg false [⟨0, (some 6), .mv (.c (.bool false)), 0, none⟩] [6])
                                     (.ret))
                                    (.skip)))
                                  (.reg false [⟨0, (some 248), .mv (.t 33), 0, none⟩, ⟨1, (some 249), .bin .add (.t 248) (.c (.int .i64 (1))), 0, none⟩, ⟨2, (some 33), .mv (.t 249), 0, none⟩] [10, 21, 27, 29, 33, 34]))
                                 (.skip))))
                              (.reg false [⟨0, (some 225), .mv (.t 34), 0, none⟩, ⟨1, (some 226), .bin .add (.t 225) (.c (.int .i64 (1))), 0, none⟩, ⟨2, (some 34), .mv (.t 226), 0, none⟩] [10, 21, 27, 29, 33, 34]))))))
                         (.seq
                          (.reg false [⟨0, (some 250), .mv (.t 33), 0, none⟩, ⟨1, (some 251), .mv (.t 27), 0, none⟩, ⟨2, (some 252), .len none (.t 251), 0, none⟩, ⟨3, (some 253), .bin .eql (.t 250) (.t 252), 0, none⟩, ⟨4, (some 254), .mv (.t 253), 0, none⟩, ⟨5, (some 255), .call 16 [], 2, (some (254, true))⟩, ⟨6, (some 256), .pick (.t 254) (.t 255) (.c (.bool false)), 0, none⟩, ⟨7, (some 6), .mv (.t 256), 0, none⟩] [6])
                          (.ret)))))))))))))))))))))))))

theorem ok3 : okF Tryz.prog 3 3 c3 [.tmp 6] = true := by kernel_rfl

/-- dauber/dauberlaw08.ShareHeals -/
def c4 : C :=
 .seq
  (.reg false [⟨0, (some 5), .box 2 (.t 2), 0, none⟩, ⟨1, (some 6), .mv (.c (.bool false)), 0, none⟩] [0, 1, 5])
  (.seq
   (.reg false [⟨0, (some 23), .mv (.t 0), 0, none⟩, ⟨1, (some 24), .call 18 [.t 23], 2, none⟩, ⟨2, (some 22), .mv (.t 24), 0, none⟩, ⟨3, (some 25), .ext 0 (.t 22), 0, none⟩, ⟨4, (some 26), .ext 1 (.t 22), 0, none⟩, ⟨5, (some 7), .alloc [.int .i64 (0), .int .i64 (0), .int .i64 (0)] 3, 0, none⟩, ⟨6, (some 8), .alloc [.int .i64 (0), .int .i64 (0), .int .i64 (0)] 3, 0, none⟩, ⟨7, none, .store 3 (.t 7) (.t 25), 0, none⟩, ⟨8, none, .store 3 (.t 8) (.t 26), 0, none⟩] [1, 5, 7, 8])
   (.seq
    (.reg true [⟨0, (some 27), .iaddr (some 2) 1 (.t 5) (.c (.int .i64 (0))), 0, none⟩, ⟨3, (some 30), .iaddr (some 2) 1 (.t 5) (.c (.int .i64 (1))), 0, none⟩, ⟨1, (some 28), .load none (.t 27), 0, none⟩, ⟨4, (some 31), .load none (.t 30), 0, none⟩, ⟨2, (some 29), .call 19 [.t 28, .c (.int .i64 (66))], 1, none⟩, ⟨5, (some 32), .call 19 [.t 31, .c (.int .i64 (66))], 1, none⟩, ⟨6, (some 9), .mv (.t 29), 0, none⟩, ⟨7, (some 10), .mv (.t 32), 0, none⟩] [1, 5, 7, 8, 9, 10])
    (.seq
     (.seq
      (.reg false [⟨0, (some 11), .mv (.c (.int .i64 (0))), 0, none⟩] [1, 5, 7, 8, 9, 10, 11])
      (.blk 0
       (.loop [1, 5, 7, 8, 9, 10, 11]
        (.seq
         (.seq
          (.reg false [⟨0, (some 33), .mv (.t 11), 0, none⟩, ⟨1, (some 34), .bin .lss (.t 33) (.c (.int .i64 (3))), 0, none⟩] [1, 5, 7, 8, 9, 10, 11, 34])
          (.cond (.t 34)
           (.skip)
           (.exit 0)))
         (.seq
          (.blk 1
           (.seq
            (.reg false [⟨0, (some 38), .load (some 3) (.t 7), 0, none⟩, ⟨1, (some 39), .mv (.t 1), 0, none⟩, ⟨2, (some 40), .mv (.t 9), 0, none⟩, ⟨3, (some 41), .mv (.t 10), 0, none⟩, ⟨4, (some 42), .call 14 [.t 38, .t 39, .t 40, .t 41], 2, none⟩, ⟨5, (some 37), .mv (.t 42), 0, none⟩, ⟨6, (some 43), .ext 0 (.t 37), 0, none⟩, ⟨7, (some 44), .ext 1 (.t 37), 0, none⟩, ⟨8, (some 45), .ext 2 (.t 37), 0, none⟩, ⟨9, (some 12), .mv (.t 43), 0, none⟩, ⟨10, (some 13), .mv (.t 44), 0, none⟩, ⟨11, (some 14), .mv (.t 45), 0, none⟩] [1, 5, 7, 8, 9, 10, 11, 12, 13, 14])
            (.seq
             (.reg false [⟨0, (some 46), .load (some 3) (.t 8), 0, none⟩, ⟨1, (some 47), .mv (.t 9), 0, none⟩, ⟨2, (some 48), .mv (.t 10), 0, none⟩, ⟨3, (some 49), .call 20 [.t 46, .t 47, .t 48], 2, none⟩, ⟨4, (some 15), .mv (.t 49), 0, none⟩] [1, 5, 7, 8, 9, 10, 11, 12, 13, 14, 15])
             (.seq
              (.seq
               (.reg false [⟨0, (some 50), .mv (.t 15), 0, none⟩, ⟨1, (some 51), .bin .eql (.t 50) (.c (.int .i64 (0))), 0, none⟩, ⟨2, (some 52), .mv (.t 51), 0, none⟩, ⟨3, (some 53), .mv (.t 1), 0, (some (52, true))⟩, ⟨4, (some 54), .bin .lss (.t 53) (.c (.int .i64 (0))), 0, (some (52, true))⟩, ⟨5, (some 55), .mv (.t 54), 0, (some (52, true))⟩, ⟨6, (some 56), .mv (.t 1), 0, (some (55, false))⟩, ⟨7, (some 57), .bin .gtr (.t 56) (.c (.int .i64 (15))), 0, (some (55, false))⟩, ⟨8, (some 58), .pick (.t 55) (.c (.bool true)) (.t 57), 0, (some (52, true))⟩, ⟨9, (some 59), .mv (.t 58), 0, (some (52, true))⟩, ⟨10, (some 60), .mv (.t 1), 0, (some (59, false))⟩, ⟨11, (some 61), .mv (.t 9), 0, (some (59, false))⟩, ⟨12, (some 62), .len none (.t 61), 0, (some (59, false))⟩, ⟨13, (some 63), .bin .geq (.t 60) (.t 62), 0, (some (59, false))⟩, ⟨14, (some 64), .pick (.t 59) (.c (.bool true)) (.t 63), 0, (some (52, true))⟩, ⟨15, (some 65), .pick (.t 52) (.t 64) (.c (.bool false)), 0, none⟩] [1, 5, 7, 8, 9, 10, 11, 12, 13, 14, 15, 65])
               (.cond (.t 65)
                (.reg false [⟨0, (some 15), .mv (.c (.int .i64 (1))), 0, none⟩] [1, 5, 7, 8, 9, 10, 11, 12, 13, 14, 15])
                (.skip)))
              (.seq
               (.seq
                (.reg false [⟨0, (some 66), .mv (.t 15), 0, none⟩, ⟨1, (some 67), .bin .neq (.t 66) (.c (.int .i64 (0))), 0, none⟩] [1, 5, 7, 8, 9, 10, 11, 12, 13, 14, 15, 67])
                (.cond (.t 67)
                 (.seq
                  (.reg false [⟨0, (some 68), .mv (.t 14), 0, none⟩, ⟨1, (some 69), .mv (.t 15), 0, none⟩, ⟨2, (some 70), .bin .neq (.t 68) (.t 69), 0, none⟩, ⟨3, (some 71), .mv (.t 70), 0, none⟩, ⟨4, (some 72), .mv (.t 12), 0, (some (71, false))⟩, ⟨5, (some 73), .bin .neq (.t 72) (.c (.int .i64 (0))), 0, (some (71, false))⟩, ⟨6, (some 74), .pick (.t 71) (.c (.bool true)) (.t 73), 0, none⟩, ⟨7, (some 75), .mv (.t 74), 0, none⟩, ⟨8, (some 76), .mv (.t 13), 0, (some (75, false))⟩, ⟨9, (some 77), .len none (.t 76), 0, (some (75, false))⟩, ⟨10, (some 78), .bin .neq (.t 77) (.c (.int .i64 (0))), 0, (some (75, false))⟩, ⟨11, (some 79), .pick (.t 75) (.c (.bool true)) (.t 78), 0, none⟩] [1, 5, 7, 8, 11, 79])
                  (.cond (.t 79)
                   (.seq
                    (.reg false [⟨0, (some 6), .mv (.c (.bool false)), 0, none⟩] [6])
                    (.ret))
                   (.skip)))
                 (.seq
                  (.reg false [⟨0, (some 80), .mv (.t 9), 0, none⟩, ⟨1, (some 81), .len none (.t 80), 0, none⟩, ⟨2, (some 82), .bin .leq (.t 81) (.c (.int .i64 (14))), 0, none⟩] [1, 5, 7, 8, 9, 10, 11, 12, 13, 14, 82])
                  (.cond (.t 82)
                   (.seq
                    (.reg false [⟨0, (some 84), .load (some 3) (.t 8), 0, none⟩, ⟨1, (some 85), .mv (.t 1), 0, none⟩, ⟨2, (some 86), .mv (.t 9), 0, none⟩, ⟨3, (some 87), .mv (.t 10), 0, none⟩, ⟨4, (some 88), .call 21 [.t 84, .t 85, .t 86, .t 87], 2, none⟩, ⟨5, (some 83), .mv (.t 88), 0, none⟩, ⟨6, (some 89), .ext 0 (.t 83), 0, none⟩, ⟨7, (some 90), .ext 1 (.t 83), 0, none⟩, ⟨8, (some 91), .ext 2 (.t 83), 0, none⟩, ⟨9, (some 16), .mv (.t 89), 0, none⟩, ⟨10, (some 17), .mv (.t 90), 0, none⟩, ⟨11, (some 18), .mv (.t 91), 0, none⟩] [1, 5, 7, 8, 11, 12, 13, 14, 16, 17, 18])
                    (.seq
                     (.reg false [⟨0, (some 92), .mv (.t 18), 0, none⟩, ⟨1, (some 93), .un .not (.t 92), 0, none⟩] [1, 5, 7, 8, 11, 12, 13, 14, 16, 17, 93])
                     (.cond (.t 93)
                      (.seq
                       (.reg false [⟨0, (some 94), .mv (.t 14), 0, none⟩, ⟨1, (some 95), .bin .neq (.t 94) (.c (.int .i64 (30))), 0, none⟩, ⟨2, (some 96), .mv (.t 95), 0, none⟩, ⟨3, (some 97), .mv (.t 12), 0, (some (96, false))⟩, ⟨4, (some 98), .bin .neq (.t 97) (.c (.int .i64 (0))), 0, (some (96, false))⟩, ⟨5, (some 99), .pick (.t 96) (.c (.bool true)) (.t 98), 0, none⟩, ⟨6, (some 100), .mv (.t 99), 0, none⟩, ⟨7, (some 101), .mv (.t 13), 0, (some (100, false))⟩, ⟨8, (some 102), .len none (.t 101), 0, (some (100, false))⟩, ⟨9, (some 103), .bin .neq (.t 102) (.c (.int .i64 (0))), 0, (some (100, false))⟩, ⟨10, (some 104), .pick (.t 100) (.c (.bool true)) (.t 103), 0, none⟩] [1, 5, 7, 8, 11, 104])
                       (.cond (.t 104)
                        (.seq
                         (.reg false [⟨0, (some 6), .mv (.c (.bool false)), 0, none⟩] [6])
                         (.ret))
                        (.skip)))
                      (.seq
                       (.seq
                        (.reg false [⟨0, (some 105), .mv (.t 14), 0, none⟩, ⟨1, (some 106), .bin .neq (.t 105) (.c (.int .i64 (0))), 0, none⟩, ⟨2, (some 107), .mv (.t 106), 0, none⟩, ⟨3, (some 108), .mv (.t 12), 0, (some (107, false))⟩, ⟨4, (some 109), .mv (.t 16), 0, (some (107, false))⟩, ⟨5, (some 110), .bin .neq (.t 108) (.t 109), 0, (some (107, false))⟩, ⟨6, (some 111), .pick (.t 107) (.c (.bool true)) (.t 110), 0, none⟩, ⟨7, (some 112), .mv (.t 111), 0, none⟩, ⟨8, (some 113), .mv (.t 13), 0, (some (112, false))⟩, ⟨9, (some 114), .len none (.t 113), 0, (some (112, false))⟩, ⟨10, (some 115), .mv (.t 17), 0, (some (112, false))⟩, ⟨11, (some 116), .len none (.t 115), 0, (some (112, false))⟩, ⟨12, (some 117), .bin .neq (.t 114) (.t 116), 0, (some (112, false))⟩, ⟨13, (some 118), .pick (.t 112) (.c (.bool true)) (.t 117), 0, none⟩] [1, 5, 7, 8, 11, 13, 17, 118])
                        (.cond (.t 118)
                         (.seq
                          (.reg false [⟨0, (some 6), .mv (.c (.bool false)), 0, none⟩] [6])
                          (.ret))
                         (.skip)))
                       (.seq
                        (.reg false [⟨0, (some 19), .mv (.c (.int .i64 (0))), 0, none⟩] [1, 5, 7, 8, 11, 13, 17, 19])
                        (.blk 2
                         (.loop [1, 5, 7, 8, 11, 13, 17, 19]
                          (.seq
                           (.seq
                            (.reg false [⟨0, (some 119), .mv (.t 19), 0, none⟩, ⟨1, (some 120), .mv (.t 13), 0, none⟩, ⟨2, (some 121), .len none (.t 120), 0, none⟩, ⟨3, (some 122), .bin .lss (.t 119) (.t 121), 0, none⟩] [1, 5, 7, 8, 11, 13, 17, 19, 122])
                            (.cond (.t 122)
                             (.skip)
                             (.exit 2)))
                           (.seq
                            (.blk 3
                             (.seq
                              (.reg true [⟨0, (some 125), .mv (.t 13), 0, none⟩, ⟨1, (some 126), .mv (.t 19), 0, none⟩, ⟨2, (some 127), .iaddr none 1 (.t 125) (.t 126), 0, none⟩, ⟨4, (some 129), .mv (.t 17), 0, none⟩, ⟨5, (some 130), .mv (.t 19), 0, none⟩, ⟨6, (some 131), .iaddr none 1 (.t 129) (.t 130), 0, none⟩, ⟨3, (some 128), .load none (.t 127), 0, none⟩, ⟨7, (some 132), .load none (.t 131), 0, none⟩, ⟨8, (some 133), .bin .neq (.t 128) (.t 132), 0, none⟩] [1, 5, 7, 8, 11, 13, 17, 19, 133])
                              (.cond (.t 133)
                               (.seq
                                (.reg false [⟨0, (some 6), .mv (.c (.bool false)), 0, none⟩] [6])
                                (.ret))
                               (.skip))))
                            (.reg false [⟨0, (some 123), .mv (.t 19), 0, none⟩, ⟨1, (some 124), .bin .add (.t 123) (.c (.int .i64 (1))), 0, none⟩, ⟨2, (some 19), .mv (.t 124), 0, none⟩] [1, 5, 7, 8, 11, 13, 17, 19]))))))))))
                   (.skip)))))
               (.seq
                (.reg false [⟨0, (some 134), .load (some 3) (.t 8), 0, none⟩, ⟨1, (some 135), .iaddr (some 2) 1 (.t 5) (.c (.int .i64 (0))), 0, none⟩, ⟨2, (some 136), .load none (.t 135), 0, none⟩, ⟨3, (some 137), .call 22 [.t 134, .t 136, .c (.int .i64 (12))], 2, none⟩, ⟨4, (some 9), .mv (.t 137), 0, none⟩] [1, 5, 7, 8, 9, 11])
                (.seq
                 (.reg false [⟨0, (some 138), .load (some 3) (.t 8), 0, none⟩, ⟨1, (some 139), .iaddr (some 2) 1 (.t 5) (.c (.int .i64 (1))), 0, none⟩, ⟨2, (some 140), .load none (.t 139), 0, none⟩, ⟨3, (some 141), .mv (.t 9), 0, none⟩, ⟨4, (some 142), .len none (.t 141), 0, none⟩, ⟨5, (some 143), .call 23 [.t 138, .t 140, .t 142], 2, none⟩, ⟨6, (some 10), .mv (.t 143), 0, none⟩] [1, 5, 7, 8, 9, 10, 11])
                 (.seq
                  (.reg false [⟨0, (some 144), .mv (.t 1), 0, none⟩, ⟨1, (some 145), .cvt .u64 (.t 144), 0, none⟩, ⟨2, (some 146), .mv (.t 9), 0, none⟩, ⟨3, (some 147), .len none (.t 146), 0, none⟩, ⟨4, (some 148), .mn [.c (.int .i64 (16)), .t 147], 0, none⟩, ⟨5, (some 149), .cvt .u64 (.t 148), 0, none⟩, ⟨6, (some 150), .bin .rem (.t 145) (.t 149), 0, none⟩, ⟨7, (some 151), .cvt .i64 (.t 150), 0, none⟩, ⟨8, (some 1), .mv (.t 151), 0, none⟩] [1, 5, 7, 8, 9, 10, 11])
                  (.seq
                   (.reg false [⟨0, (some 152), .mv (.t 11), 0, none⟩, ⟨1, (some 153), .bin .eql (.t 152) (.c (.int .i64 (1))), 0, none⟩] [1, 5, 7, 8, 9, 10, 11, 153])
                   (.cond (.t 153)
                    (.seq
                     (.reg false [⟨0, (some 154), .load (some 3) (.t 8), 0, none⟩, ⟨1, (some 155), .iaddr (some 2) 1 (.t 5) (.c (.int .i64 (1))), 0, none⟩, ⟨2, (some 156), .load none (.t 155), 0, none⟩, ⟨3, (some 157), .mv (.t 1), 0, none⟩, ⟨4, (some 158), .bin .add (.t 157) (.c (.int .i64 (1))), 0, none⟩, ⟨5, (some 159), .call 23 [.t 154, .t 156, .t 158], 2, none⟩, ⟨6, (some 20), .mv (.t 159), 0, none⟩] [1, 5, 7, 8, 9, 10, 11, 20])
                     (.seq
                      (.reg false [⟨0, (some 21), .mv (.c (.int .i64 (0))), 0, none⟩] [1, 5, 7, 8, 9, 10, 11, 20, 21])
                      (.blk 4
                       (.loop [1, 5, 7, 8, 9, 10, 11, 20, 21]
                        (.seq
                         (.seq
                          (.reg false [⟨0, (some 160), .mv (.t 21), 0, none⟩, ⟨1, (some 161), .mv (.t 9), 0, none⟩, ⟨2, (some 162), .len none (.t 161), 0, none⟩, ⟨3, (some 163), .bin .lss (.t 160) (.t 162), 0, none⟩] [1, 5, 7, 8, 9, 10, 11, 20, 21, 163])
                          (.cond (.t 163)
                           (.skip)
                           (.exit 4)))
                         (.seq
                          (.blk 5
                           (.seq
                            (.reg true [⟨0, (some 166), .mv (.t 10), 0, none⟩, ⟨1, (some 167), .mv (.t 21), 0, none⟩, ⟨3, (some 169), .mv (.t 20), 0, none⟩, ⟨4, (some 170), .mv (.t 9), 0, none⟩, ⟨5, (some 171), .mv (.t 21), 0, none⟩, ⟨6, (some 172), .iaddr none 1 (.t 170) (.t 171), 0, none⟩, ⟨2, (some 168), .load (some 3) (.t 8), 0, none⟩, ⟨7, (some 173), .load none (.t 172), 0, none⟩, ⟨8, (some 174), .call 24 [.t 168, .t 169, .t 173], 2, none⟩, ⟨9, (some 175), .iaddr none 1 (.t 166) (.t 167), 0, none⟩, ⟨10, none, .store 1 (.t 175) (.t 174), 0, none⟩] [1, 5, 7, 8, 9, 10, 11, 20, 21])
                            (.seq
                             (.reg false [⟨0, (some 176), .mv (.t 21), 0, none⟩, ⟨1, (some 177), .iaddr (some 2) 1 (.t 5) (.c (.int .i64 (1))), 0, none⟩, ⟨2, (some 178), .load none (.t 177), 0, none⟩, ⟨3, (some 179), .len none (.t 178), 0, none⟩, ⟨4, (some 180), .bin .lss (.t 176) (.t 179), 0, none⟩, ⟨5, (some 181), .mv (.t 180), 0, none⟩, ⟨6, (some 182), .iaddr (some 2) 1 (.t 5) (.c (.int .i64 (1))), 0, (some (181, true))⟩, ⟨7, (some 183), .load none (.t 182), 0, (some (181, true))⟩, ⟨8, (some 184), .mv (.t 21), 0, (some (181, true))⟩, ⟨9, (some 185), .iaddr none 1 (.t 183) (.t 184), 0, (some (181, true))⟩, ⟨10, (some 186), .load none (.t 185), 0, (some (181, true))⟩, ⟨11, (some 187), .bin .rem (.t 186) (.c (.int .i64 (4))), 0, (some (181, true))⟩, ⟨12, (some 188), .bin .eql (.t 187) (.c (.int .i64 (3))), 0, (some (181, true))⟩, ⟨13, (some 189), .pick (.t 181) (.t 188) (.c (.bool false)), 0, none⟩] [1, 5, 7, 8, 9, 10, 11, 20, 21, 189])
                             (.cond (.t 189)
                              (.reg true [⟨0, (some 190), .mv (.t 10), 0, none⟩, ⟨1, (some 191), .mv (.t 21), 0, none⟩, ⟨2, (some 192), .mv (.t 10), 0, none⟩, ⟨3, (some 193), .mv (.t 21), 0, none⟩, ⟨4, (some 194), .iaddr none 1 (.t 192) (.t 193), 0, none⟩, ⟨7, (some 197), .faddr 1 (.t 8), 0, none⟩, ⟨5, (some 195), .load none (.t 194), 0, none⟩, ⟨6, (some 196), .bin .add (.t 195) (.c (.int .i64 (1))), 0, none⟩, ⟨8, (some 198), .load none (.t 197), 0, none⟩, ⟨9, (some 199), .bin .rem (.t 196) (.t 198), 0, none⟩, ⟨10, (some 200), .iaddr none 1 (.t 190) (.t 191), 0, none⟩, ⟨11, none, .store 1 (.t 200) (.t 199), 0, none⟩] [1, 5, 7, 8, 9, 10, 11, 20, 21])
                              (.skip)))))
                          (.reg false [⟨0, (some 164), .mv (.t 21), 0, none⟩, ⟨1, (some 165), .bin .add (.t 164) (.c (.int .i64 (1))), 0, none⟩, ⟨2, (some 21), .mv (.t 165), 0, none⟩] [1, 5, 7, 8, 9, 10, 11, 20, 21])))))))
                    (.skip)))))))))))
          (.reg false [⟨0, (some 35), .mv (.t 11), 0, none⟩, ⟨1, (some 36), .bin .add (.t 35) (.c (.int .i64 (1))), 0, none⟩, ⟨2, (some 11), .mv (.t 36), 0, none⟩] [1, 5, 7, 8, 9, 10, 11]))))))
     (.seq
      (.reg false [⟨0, (some 201), .call 25 [], 2, none⟩, ⟨1, (some 6), .mv (.t 201), 0, none⟩] [6])
      (.ret)))))

theorem ok4 : okF Tryz.prog 4 3 c4 [.tmp 6] = true := by kernel_rfl

/-- dauber/dauberlaw08.ShareHides -/
def c5 : C :=
 .seq
  (.reg false [⟨0, (some 3), .box 4 (.t 1), 0, none⟩, ⟨1, (some 4), .mv (.c (.bool false)), 0, none⟩] [0, 3])
  (.seq
   (.reg false [⟨0, (some 19), .build [.int .i64 (0), .int .i64 (0), .int .i64 (0)] [(0, 1, .c (.int .i64 (5))), (1, 1, .c (.int .i64 (7))), (2, 1, .c (.int .i64 (11)))], 0, none⟩, ⟨1, (some 5), .alloc [.int .i64 (0), .int .i64 (0), .int .i64 (0)] 3, 0, none⟩, ⟨2, none, .store 3 (.t 5) (.t 19), 0, none⟩] [0, 3, 5])
   (.seq
    (.reg false [⟨0, (some 21), .mv (.t 0), 0, none⟩, ⟨1, (some 22), .cvt .u64 (.t 21), 0, none⟩, ⟨2, (some 23), .bin .rem (.t 22) (.c (.int .u64 (3))), 0, none⟩, ⟨3, (some 24), .iaddr (some 3) 1 (.t 5) (.t 23), 0, none⟩, ⟨4, (some 25), .load none (.t 24), 0, none⟩, ⟨5, (some 26), .call 18 [.t 25], 2, none⟩, ⟨6, (some 20), .mv (.t 26), 0, none⟩, ⟨7, (some 27), .ext 0 (.t 20), 0, none⟩, ⟨8, (some 28), .ext 1 (.t 20), 0, none⟩, ⟨9, (some 6), .alloc [.int .i64 (0), .int .i64 (0), .int .i64 (0)] 3, 0, none⟩, ⟨10, (some 7), .alloc [.int .i64 (0), .int .i64 (0), .int .i64 (0)] 3, 0, none⟩, ⟨11, none, .store 3 (.t 6) (.t 27), 0, none⟩, ⟨12, none, .store 3 (.t 7) (.t 28), 0, none⟩] [3, 6, 7])
    (.seq
     (.reg true [⟨0, (some 29), .iaddr (some 4) 1 (.t 3) (.c (.int .i64 (0))), 0, none⟩, ⟨3, (some 32), .faddr 1 (.t 7), 0, none⟩, ⟨10, (some 39), .iaddr (some 4) 1 (.t 3) (.c (.int .i64 (1))), 0, none⟩, ⟨13, (some 42), .faddr 1 (.t 7), 0, none⟩, ⟨1, (some 30), .load none (.t 29), 0, none⟩, ⟨2, (some 31), .cvt .u64 (.t 30), 0, none⟩, ⟨4, (some 33), .load none (.t 32), 0, none⟩, ⟨5, (some 34), .bin .sub (.t 33) (.c (.int .i64 (1))), 0, none⟩, ⟨6, (some 35), .cvt .u64 (.t 34), 0, none⟩, ⟨7, (some 36), .bin .rem (.t 31) (.t 35), 0, none⟩, ⟨8, (some 37), .cvt .i64 (.t 36), 0, none⟩, ⟨9, (some 38), .bin .add (.c (.int .i64 (1))) (.t 37), 0, none⟩, ⟨20, (some 8), .mv (.t 38), 0, none⟩, ⟨11, (some 40), .load none (.t 39), 0, none⟩, ⟨12, (some 41), .cvt .u64 (.t 40), 0, none⟩, ⟨14, (some 43), .load none (.t 42), 0, none⟩, ⟨15, (some 44), .bin .sub (.t 43) (.c (.int .i64 (1))), 0, none⟩, ⟨16, (some 45), .cvt .u64 (.t 44), 0, none⟩, ⟨17, (some 46), .bin .rem (.t 41) (.t 45), 0, none⟩, ⟨18, (some 47), .cvt .i64 (.t 46), 0, none⟩, ⟨19, (some 48), .bin .add (.c (.int .i64 (1))) (.t 47), 0, none⟩, ⟨21, (some 9), .mv (.t 48), 0, none⟩] [3, 6, 7, 8, 9])
     (.seq
      (.seq
       (.reg false [⟨0, (some 49), .mv (.t 8), 0, none⟩, ⟨1, (some 50), .mv (.t 9), 0, none⟩, ⟨2, (some 51), .bin .eql (.t 49) (.t 50), 0, none⟩] [3, 6, 7, 8, 9, 51])
       (.cond (.t 51)
        (.reg false [⟨0, (some 52), .mv (.t 8), 0, none⟩, ⟨1, (some 53), .faddr 1 (.t 7), 0, none⟩, ⟨2, (some 54), .load none (.t 53), 0, none⟩, ⟨3, (some 55), .bin .sub (.t 54) (.c (.int .i64 (1))), 0, none⟩, ⟨4, (some 56), .bin .rem (.t 52) (.t 55), 0, none⟩, ⟨5, (some 57), .bin .add (.c (.int .i64 (1))) (.t 56), 0, none⟩, ⟨6, (some 9), .mv (.t 57), 0, none⟩] [3, 6, 7, 8, 9])
        (.skip)))
      (.seq
       (.reg true [⟨0, (some 58), .iaddr (some 4) 1 (.t 3) (.c (.int .i64 (2))), 0, none⟩, ⟨3, (some 61), .faddr 1 (.t 7), 0, none⟩, ⟨8, (some 66), .iaddr (some 4) 1 (.t 3) (.c (.int .i64 (3))), 0, none⟩, ⟨11, (some 69), .faddr 1 (.t 7), 0, none⟩, ⟨1, (some 59), .load none (.t 58), 0, none⟩, ⟨2, (some 60), .cvt .u64 (.t 59), 0, none⟩, ⟨4, (some 62), .load none (.t 61), 0, none⟩, ⟨5, (some 63), .cvt .u64 (.t 62), 0, none⟩, ⟨6, (some 64), .bin .rem (.t 60) (.t 63), 0, none⟩, ⟨7, (some 65), .cvt .i64 (.t 64), 0, none⟩, ⟨16, (some 10), .mv (.t 65), 0, none⟩, ⟨9, (some 67), .load none (.t 66), 0, none⟩, ⟨10, (some 68), .cvt .u64 (.t 67), 0, none⟩, ⟨12, (some 70), .load none (.t 69), 0, none⟩, ⟨13, (some 71), .cvt .u64 (.t 70), 0, none⟩, ⟨14, (some 72), .bin .rem (.t 68) (.t 71), 0, none⟩, ⟨15, (some 73), .cvt .i64 (.t 72), 0, none⟩, ⟨17, (some 11), .mv (.t 73), 0, none⟩] [6, 7, 8, 9, 10, 11])
       (.seq
        (.reg false [⟨0, (some 74), .faddr 1 (.t 7), 0, none⟩, ⟨1, (some 75), .load none (.t 74), 0, none⟩, ⟨2, (some 76), .mksl 1 8 [.int .i64 (0)] (.t 75) (.t 75), 0, none⟩, ⟨3, (some 12), .mv (.t 76), 0, none⟩] [6, 7, 8, 9, 10, 11, 12])
        (.seq
         (.seq
          (.reg false [⟨0, (some 13), .mv (.c (.int .i64 (0))), 0, none⟩] [6, 7, 8, 9, 10, 11, 12, 13])
          (.blk 0
           (.loop [6, 7, 8, 9, 10, 11, 12, 13]
            (.seq
             (.seq
              (.reg false [⟨0, (some 77), .mv (.t 13), 0, none⟩, ⟨1, (some 78), .faddr 1 (.t 7), 0, none⟩, ⟨2, (some 79), .load none (.t 78), 0, none⟩, ⟨3, (some 80), .bin .lss (.t 77) (.t 79), 0, none⟩] [6, 7, 8, 9, 10, 11, 12, 13, 80])
              (.cond (.t 80)
               (.skip)
               (.exit 0)))
             (.seq
              (.blk 1
               (.seq
                (.reg false [⟨0, (some 14), .mv (.c (.int .i64 (0))), 0, none⟩] [6, 7, 8, 9, 10, 11, 12, 13, 14])
                (.blk 2
                 (.loop [6, 7, 8, 9, 10, 11, 12, 13, 14]
                  (.seq
                   (.seq
                    (.reg false [⟨0, (some 83), .mv (.t 14), 0, none⟩, ⟨1, (some 84), .faddr 1 (.t 7), 0, none⟩, ⟨2, (some 85), .load none (.t 84), 0, none⟩, ⟨3, (some 86), .bin .lss (.t 83) (.t 85), 0, none⟩] [6, 7, 8, 9, 10, 11, 12, 13, 14, 86])
                    (.cond (.t 86)
                     (.skip)
                     (.exit 2)))
                   (.seq
                    (.blk 3
                     (.seq
                      (.reg false [⟨0, (some 15), .mv (.c (.int .i64 (0))), 0, none⟩] [6, 7, 8, 9, 10, 11, 12, 13, 14, 15])
                      (.blk 4
                       (.loop [6, 7, 8, 9, 10, 11, 12, 13, 14, 15]
                        (.seq
                         (.seq
                          (.reg false [⟨0, (some 89), .mv (.t 15), 0, none⟩, ⟨1, (some 90), .faddr 1 (.t 7), 0, none⟩, ⟨2, (some 91), .load none (.t 90), 0, none⟩, ⟨3, (some 92), .bin .lss (.t 89) (.t 91), 0, none⟩] [6, 7, 8, 9, 10, 11, 12, 13, 14, 15, 92])
                          (.cond (.t 92)
                           (.skip)
                           (.exit 4)))
                         (.seq
                          (.blk 5
                           (.seq
                            (.reg false [⟨0, (some 96), .load (some 3) (.t 6), 0, none⟩, ⟨1, (some 97), .mv (.t 13), 0, none⟩, ⟨2, (some 98), .mv (.t 14), 0, none⟩, ⟨3, (some 99), .mv (.t 15), 0, none⟩, ⟨4, (some 100), .bsl 1 3 [.int .i64 (0), .int .i64 (0), .int .i64 (0)] [(0, 1, .t 97), (1, 1, .t 98), (2, 1, .t 99)], 0, none⟩, ⟨5, (some 101), .faddr 1 (.t 7), 0, none⟩, ⟨6, (some 102), .load none (.t 101), 0, none⟩, ⟨7, (some 103), .bin .sub (.t 102) (.c (.int .i64 (1))), 0, none⟩, ⟨8, (some 104), .call 12 [.t 96, .t 100, .t 103], 2, none⟩, ⟨9, (some 95), .mv (.t 104), 0, none⟩, ⟨10, (some 105), .ext 0 (.t 95), 0, none⟩, ⟨11, (some 106), .ext 1 (.t 95), 0, none⟩, ⟨12, (some 16), .mv (.t 105), 0, none⟩, ⟨13, (some 17), .mv (.t 106), 0, none⟩] [6, 7, 8, 9, 10, 11, 12, 13, 14, 15, 16, 17])
                            (.seq
                             (.seq
                              (.reg false [⟨0, (some 107), .mv (.t 17), 0, none⟩, ⟨1, (some 108), .bin .neq (.t 107) (.c (.int .i64 (0))), 0, none⟩, ⟨2, (some 109), .mv (.t 108), 0, none⟩, ⟨3, (some 110), .mv (.t 16), 0, (some (109, false))⟩, ⟨4, (some 111), .len none (.t 110), 0, (some (109, false))⟩, ⟨5, (some 112), .faddr 1 (.t 7), 0, (some (109, false))⟩, ⟨6, (some 113), .load none (.t 112), 0, (some (109, false))⟩, ⟨7, (some 114), .bin .sub (.t 113) (.c (.int .i64 (1))), 0, (some (109, false))⟩, ⟨8, (some 115), .bin .neq (.t 111) (.t 114), 0, (some (109, false))⟩, ⟨9, (some 116), .pick (.t 109) (.c (.bool true)) (.t 115), 0, none⟩] [6, 7, 8, 9, 10, 11, 12, 13, 14, 15, 16, 116])
                              (.cond (.t 116)
                               (.seq
                                (.reg false [⟨0, (some 4), .mv (.c (.bool false)), 0, none⟩] [4])
                                (.ret))
                               (.skip)))
                             (.seq
                              (.reg false [⟨0, (some 117), .mv (.t 16), 0, none⟩, ⟨1, (some 118), .mv (.t 8), 0, none⟩, ⟨2, (some 119), .bin .sub (.t 118) (.c (.int .i64 (1))), 0, none⟩, ⟨3, (some 120), .iaddr none 1 (.t 117) (.t 119), 0, none⟩, ⟨4, (some 121), .load none (.t 120), 0, none⟩, ⟨5, (some 122), .mv (.t 10), 0, none⟩, ⟨6, (some 123), .bin .eql (.t 121) (.t 122), 0, none⟩, ⟨7, (some 124), .mv (.t 123), 0, none⟩, ⟨8, (some 125), .mv (.t 16), 0, (some (124, true))⟩, ⟨9, (some 126), .mv (.t 9), 0, (some (124, true))⟩, ⟨10, (some 127), .bin .sub (.t 126) (.c (.int .i64 (1))), 0, (some (124, true))⟩, ⟨11, (some 128), .iaddr none 1 (.t 125) (.t 127), 0, (some (124, true))⟩, ⟨12, (some 129), .load none (.t 128), 0, (some (124, true))⟩, ⟨13, (some 130), .mv (.t 11), 0, (some (124, true))⟩, ⟨14, (some 131), .bin .eql (.t 129) (.t 130), 0, (some (124, true))⟩, ⟨15, (some 132), .pick (.t 124) (.t 131) (.c (.bool false)), 0, none⟩] [6, 7, 8, 9, 10, 11, 12, 13, 14, 15, 132])
                              (.cond (.t 132)
                               (.reg false [⟨0, (some 133), .mv (.t 12), 0, none⟩, ⟨1, (some 134), .mv (.t 13), 0, none⟩, ⟨2, (some 135), .iaddr none 1 (.t 133) (.t 134), 0, none⟩, ⟨3, (some 136), .load none (.t 135), 0, none⟩, ⟨4, (some 137), .bin .add (.t 136) (.c (.int .i64 (1))), 0, none⟩, ⟨5, (some 138), .iaddr none 1 (.t 133) (.t 134), 0, none⟩, ⟨6, none, .store 1 (.t 138) (.t 137), 0, none⟩] [6, 7, 8, 9, 10, 11, 12, 13, 14, 15])
                               (.skip))))))
                          (.reg false [⟨0, (some 93), .mv (.t 15), 0, none⟩, ⟨1, (some 94), .bin .add (.t 93) (.c (.int .i64 (1))), 0, none⟩, ⟨2, (some 15), .mv (.t 94), 0, none⟩] [6, 7, 8, 9, 10, 11, 12, 13, 14, 15])))))))
                    (.reg false [⟨0, (some 87), .mv (.t 14), 0, none⟩, ⟨1, (some 88), .bin .add (.t 87) (.c (.int .i64 (1))), 0, none⟩, ⟨2, (some 14), .mv (.t 88), 0, none⟩] [6, 7, 8, 9, 10, 11, 12, 13, 14])))))))
              (.reg false [⟨0, (some 81), .mv (.t 13), 0, none⟩, ⟨1, (some 82), .bin .add (.t 81) (.c (.int .i64 (1))), 0, none⟩, ⟨2, (some 13), .mv (.t 82), 0, none⟩] [6, 7, 8, 9, 10, 11, 12, 13]))))))
         (.seq
          (.seq
           (.reg false [⟨0, (some 18), .mv (.c (.int .i64 (0))), 0, none⟩] [7, 12, 18])
           (.blk 6
            (.loop [7, 12, 18]
             (.seq
              (.seq
               (.reg false [⟨0, (some 139), .mv (.t 18), 0, none⟩, ⟨1, (some 140), .faddr 1 (.t 7), 0, none⟩, ⟨2, (some 141), .load none (.t 140), 0, none⟩, ⟨3, (some 142), .bin .lss (.t 139) (.t 141), 0, none⟩] [7, 12, 18, 142])
               (.cond (.t 142)
                (.skip)
                (.exit 6)))
              (.seq
               (.blk 7
                (.seq
                 (.reg false [⟨0, (some 145), .mv (.t 12), 0, none⟩, ⟨1, (some 146), .mv (.t 18), 0, none⟩, ⟨2, (some 147), .iaddr none 1 (.t 145) (.t 146), 0, none⟩, ⟨3, (some 148), .load none (.t 147), 0, none⟩, ⟨4, (some 149), .bin .neq (.t 148) (.c (.int .i64 (1))), 0, none⟩] [7, 12, 18, 149])
                 (.cond (.t 149)
                  (.seq
                   (.reg false [⟨0, (some 4), .mv (.c (.bool false)), 0, none⟩] [4])
                   (.ret))
                  (.skip))))
               (.reg false [⟨0, (some 143), .mv (.t 18), 0, none⟩, ⟨1, (some 144), .bin .add (.t 143) (.c (.int .i64 (1))), 0, none⟩, ⟨2, (some 18), .mv (.t 144), 0, none⟩] [7, 12, 18]))))))
          (.seq
           (.reg false [⟨0, (some 150), .call 25 [], 2, none⟩, ⟨1, (some 4), .mv (.t 150), 0, none⟩] [4])
           (.ret))))))))))

theorem ok5 : okF Tryz.prog 5 2 c5 [.tmp 4] = true := by kernel_rfl

/-- dauber/dauberlaw08.ShareLiars -/
def c6 : C :=
 .seq
  (.reg false [⟨0, (some 6), .mv (.c (.bool false)), 0, none⟩] [0, 1, 2])
  (.seq
   (.reg false [⟨0, (some 25), .mv (.t 0), 0, none⟩, ⟨1, (some 26), .call 18 [.t 25], 2, none⟩, ⟨2, (some 24), .mv (.t 26), 0, none⟩, ⟨3, (some 27), .ext 0 (.t 24), 0, none⟩, ⟨4, (some 28), .ext 1 (.t 24), 0, none⟩, ⟨5, (some 7), .alloc [.int .i64 (0), .int .i64 (0), .int .i64 (0)] 3, 0, none⟩, ⟨6, (some 8), .alloc [.int .i64 (0), .int .i64 (0), .int .i64 (0)] 3, 0, none⟩, ⟨7, none, .store 3 (.t 7) (.t 27), 0, none⟩, ⟨8, none, .store 3 (.t 8) (.t 28), 0, none⟩] [1, 2, 7, 8])
   (.seq
    (.reg false [⟨0, (some 29), .faddr 1 (.t 8), 0, none⟩, ⟨1, (some 30), .load none (.t 29), 0, none⟩, ⟨2, (some 31), .bin .sub (.t 30) (.c (.int .i64 (1))), 0, none⟩, ⟨3, (some 32), .mn [.c (.int .i64 (20)), .t 31], 0, none⟩, ⟨4, (some 9), .mv (.t 32), 0, none⟩] [1, 2, 7, 8, 9])
    (.seq
     (.reg false [⟨0, (some 33), .mv (.t 9), 0, none⟩, ⟨1, (some 34), .bin .sub (.t 33) (.c (.int .i64 (1))), 0, none⟩, ⟨2, (some 35), .mv (.t 1), 0, none⟩, ⟨3, (some 36), .len none (.t 35), 0, none⟩, ⟨4, (some 37), .bin .sub (.t 36) (.c (.int .i64 (1))), 0, none⟩, ⟨5, (some 38), .mx [.c (.int .i64 (0)), .t 37], 0, none⟩, ⟨6, (some 39), .mn [.c (.int .i64 (5)), .t 34, .t 38], 0, none⟩, ⟨7, (some 10), .mv (.t 39), 0, none⟩] [1, 2, 7, 8, 9, 10])
     (.seq
      (.reg false [⟨0, (some 40), .load (some 3) (.t 8), 0, none⟩, ⟨1, (some 41), .mv (.t 1), 0, none⟩, ⟨2, (some 42), .mv (.t 10), 0, none⟩, ⟨3, (some 43), .bin .add (.t 42) (.c (.int .i64 (1))), 0, none⟩, ⟨4, (some 44), .call 23 [.t 40, .t 41, .t 43], 2, none⟩, ⟨5, (some 11), .mv (.t 44), 0, none⟩] [2, 7, 8, 9, 10, 11])
      (.seq
       (.reg false [⟨0, (some 46), .load (some 3) (.t 7), 0, none⟩, ⟨1, (some 47), .mv (.t 11), 0, none⟩, ⟨2, (some 48), .mv (.t 9), 0, none⟩, ⟨3, (some 49), .call 12 [.t 46, .t 47, .t 48], 2, none⟩, ⟨4, (some 45), .mv (.t 49), 0, none⟩, ⟨5, (some 50), .ext 0 (.t 45), 0, none⟩, ⟨6, (some 51), .ext 1 (.t 45), 0, none⟩, ⟨7, (some 12), .mv (.t 50), 0, none⟩, ⟨8, (some 13), .mv (.t 51), 0, none⟩] [2, 7, 8, 9, 10, 11, 12, 13])
       (.seq
        (.seq
         (.reg false [⟨0, (some 52), .mv (.t 13), 0, none⟩, ⟨1, (some 53), .bin .neq (.t 52) (.c (.int .i64 (0))), 0, none⟩, ⟨2, (some 54), .mv (.t 53), 0, none⟩, ⟨3, (some 55), .mv (.t 12), 0, (some (54, false))⟩, ⟨4, (some 56), .len none (.t 55), 0, (some (54, false))⟩, ⟨5, (some 57), .mv (.t 9), 0, (some (54, false))⟩, ⟨6, (some 58), .bin .neq (.t 56) (.t 57), 0, (some (54, false))⟩, ⟨7, (some 59), .pick (.t 54) (.c (.bool true)) (.t 58), 0, none⟩] [2, 7, 8, 9, 10, 11, 12, 59])
         (.cond (.t 59)
          (.seq
           (.reg false [⟨0, (some 6), .mv (.c (.bool false)), 0, none⟩] [6])
           (.ret))
          (.skip)))
        (.seq
         (.reg false [⟨0, (some 60), .mv (.t 9), 0, none⟩, ⟨1, (some 61), .mksl 1 1 [.bool false] (.t 60) (.t 60), 0, none⟩, ⟨2, (some 14), .mv (.t 61), 0, none⟩] [2, 7, 8, 9, 10, 11, 12, 14])
         (.seq
          (.reg false [⟨0, (some 15), .mv (.c (.int .i64 (0))), 0, none⟩] [2, 7, 8, 9, 10, 11, 12, 14, 15])
          (.seq
           (.seq
            (.reg false [⟨0, (some 16), .mv (.c (.int .i64 (0))), 0, none⟩] [2, 7, 8, 9, 10, 11, 12, 14, 15, 16])
            (.blk 0
             (.loop [2, 7, 8, 9, 10, 11, 12, 14, 15, 16]
              (.seq
               (.seq
                (.reg false [⟨0, (some 62), .mv (.t 16), 0, none⟩, ⟨1, (some 63), .bin .add (.t 62) (.c (.int .i64 (1))), 0, none⟩, ⟨2, (some 64), .mv (.t 2), 0, none⟩, ⟨3, (some 65), .len none (.t 64), 0, none⟩, ⟨4, (some 66), .bin .lss (.t 63) (.t 65), 0, none⟩, ⟨5, (some 67), .mv (.t 66), 0, none⟩, ⟨6, (some 68), .mv (.t 15), 0, (some (67, true))⟩, ⟨7, (some 69), .mv (.t 9), 0, (some (67, true))⟩, ⟨8, (some 70), .mv (.t 10), 0, (some (67, true))⟩, ⟨9, (some 71), .bin .sub (.t 69) (.t 70), 0, (some (67, true))⟩, ⟨10, (some 72), .bin .sub (.t 71) (.c (.int .i64 (1))), 0, (some (67, true))⟩, ⟨11, (some 73), .bin .quo (.t 72) (.c (.int .i64 (2))), 0, (some (67, true))⟩, ⟨12, (some 74), .bin .lss (.t 68) (.t 73), 0, (some (67, true))⟩, ⟨13, (some 75), .pick (.t 67) (.t 74) (.c (.bool false)), 0, none⟩] [2, 7, 8, 9, 10, 11, 12, 14, 15, 16, 75])
                (.cond (.t 75)
                 (.skip)
                 (.exit 0)))
               (.seq
                (.blk 1
                 (.seq
                  (.reg false [⟨0, (some 78), .mv (.t 2), 0, none⟩, ⟨1, (some 79), .mv (.t 16), 0, none⟩, ⟨2, (some 80), .iaddr none 1 (.t 78) (.t 79), 0, none⟩, ⟨3, (some 81), .load none (.t 80), 0, none⟩, ⟨4, (some 82), .cvt .u64 (.t 81), 0, none⟩, ⟨5, (some 83), .mv (.t 9), 0, none⟩, ⟨6, (some 84), .cvt .u64 (.t 83), 0, none⟩, ⟨7, (some 85), .bin .rem (.t 82) (.t 84), 0, none⟩, ⟨8, (some 86), .cvt .i64 (.t 85), 0, none⟩, ⟨9, (some 17), .mv (.t 86), 0, none⟩] [2, 7, 8, 9, 10, 11, 12, 14, 15, 16, 17])
                  (.seq
                   (.reg false [⟨0, (some 87), .mv (.t 14), 0, none⟩, ⟨1, (some 88), .mv (.t 17), 0, none⟩, ⟨2, (some 89), .iaddr none 1 (.t 87) (.t 88), 0, none⟩, ⟨3, (some 90), .load none (.t 89), 0, none⟩, ⟨4, (some 91), .un .not (.t 90), 0, none⟩] [2, 7, 8, 9, 10, 11, 12, 14, 15, 16, 17, 91])
                   (.cond (.t 91)
                    (.seq
                     (.reg false [⟨0, (some 92), .mv (.t 14), 0, none⟩, ⟨1, (some 93), .mv (.t 17), 0, none⟩, ⟨2, (some 94), .iaddr none 1 (.t 92) (.t 93), 0, none⟩, ⟨3, none, .store 1 (.t 94) (.c (.bool true)), 0, none⟩] [2, 7, 8, 9, 10, 11, 12, 14, 15, 16, 17])
                     (.seq
                      (.reg false [⟨0, (some 95), .mv (.t 15), 0, none⟩, ⟨1, (some 96), .bin .add (.t 95) (.c (.int .i64 (1))), 0, none⟩, ⟨2, (some 15), .mv (.t 96), 0, none⟩] [2, 7, 8, 9, 10, 11, 12, 14, 15, 16, 17])
                      (.reg true [⟨0, (some 97), .mv (.t 12), 0, none⟩, ⟨1, (some 98), .mv (.t 17), 0, none⟩, ⟨2, (some 99), .mv (.t 12), 0, none⟩, ⟨3, (some 100), .mv (.t 17), 0, none⟩, ⟨4, (some 101), .iaddr none 1 (.t 99) (.t 100), 0, none⟩, ⟨7, (some 104), .mv (.t 2), 0, none⟩, ⟨8, (some 105), .mv (.t 16), 0, none⟩, ⟨9, (some 106), .bin .add (.t 105) (.c (.int .i64 (1))), 0, none⟩, ⟨10, (some 107), .iaddr none 1 (.t 104) (.t 106), 0, none⟩, ⟨13, (some 110), .faddr 1 (.t 8), 0, none⟩, ⟨20, (some 117), .faddr 1 (.t 8), 0, none⟩, ⟨5, (some 102), .load none (.t 101), 0, none⟩, ⟨6, (some 103), .bin .add (.t 102) (.c (.int .i64 (1))), 0, none⟩, ⟨11, (some 108), .load none (.t 107), 0, none⟩, ⟨12, (some 109), .cvt .u64 (.t 108), 0, none⟩, ⟨14, (some 111), .load none (.t 110), 0, none⟩, ⟨15, (some 112), .bin .sub (.t 111) (.c (.int .i64 (1))), 0, none⟩, ⟨16, (some 113), .cvt .u64 (.t 112), 0, none⟩, ⟨17, (some 114), .bin .rem (.t 109) (.t 113), 0, none⟩, ⟨18, (some 115), .cvt .i64 (.t 114), 0, none⟩, ⟨19, (some 116), .bin .add (.t 103) (.t 115), 0, none⟩, ⟨21, (some 118), .load none (.t 117), 0, none⟩, ⟨22, (some 119), .bin .rem (.t 116) (.t 118), 0, none⟩, ⟨23, (some 120), .iaddr none 1 (.t 97) (.t 98), 0, none⟩, ⟨24, none, .store 1 (.t 120) (.t 119), 0, none⟩] [2, 7, 8, 9, 10, 11, 12, 14, 15, 16])))
                    (.skip)))))
                (.reg false [⟨0, (some 76), .mv (.t 16), 0, none⟩, ⟨1, (some 77), .bin .add (.t 76) (.c (.int .i64 (2))), 0, none⟩, ⟨2, (some 16), .mv (.t 77), 0, none⟩] [2, 7, 8, 9, 10, 11, 12, 14, 15, 16]))))))
           (.seq
            (.reg false [⟨0, (some 18), .nilo 1, 0, none⟩] [7, 9, 10, 11, 12, 14, 15, 18])
            (.seq
             (.seq
              (.reg false [⟨0, (some 19), .mv (.c (.int .i64 (0))), 0, none⟩] [7, 9, 10, 11, 12, 14, 15, 18, 19])
              (.blk 2
               (.loop [7, 9, 10, 11, 12, 14, 15, 18, 19]
                (.seq
                 (.seq
                  (.reg false [⟨0, (some 121), .mv (.t 19), 0, none⟩, ⟨1, (some 122), .mv (.t 9), 0, none⟩, ⟨2, (some 123), .bin .lss (.t 121) (.t 122), 0, none⟩] [7, 9, 10, 11, 12, 14, 15, 18, 19, 123])
                  (.cond (.t 123)
                   (.skip)
                   (.exit 2)))
                 (.seq
                  (.blk 3
                   (.reg false [⟨0, (some 126), .mv (.t 18), 0, none⟩, ⟨1, (some 127), .mv (.t 19), 0, none⟩, ⟨2, (some 128), .bin .add (.t 127) (.c (.int .i64 (1))), 0, none⟩, ⟨3, (some 129), .bsl 1 1 [.int .i64 (0)] [(0, 1, .t 128)], 0, none⟩, ⟨4, (some 130), .app 1 8 (.t 126) (.t 129), 0, none⟩, ⟨5, (some 18), .mv (.t 130), 0, none⟩] [7, 9, 10, 11, 12, 14, 15, 18, 19]))
                  (.reg false [⟨0, (some 124), .mv (.t 19), 0, none⟩, ⟨1, (some 125), .bin .add (.t 124) (.c (.int .i64 (1))), 0, none⟩, ⟨2, (some 19), .mv (.t 125), 0, none⟩] [7, 9, 10, 11, 12, 14, 15, 18, 19]))))))
             (.seq
              (.reg false [⟨0, (some 132), .load (some 3) (.t 7), 0, none⟩, ⟨1, (some 133), .mv (.t 10), 0, none⟩, ⟨2, (some 134), .mv (.t 18), 0, none⟩, ⟨3, (some 135), .mv (.t 12), 0, none⟩, ⟨4, (some 136), .call 14 [.t 132, .t 133, .t 134, .t 135], 2, none⟩, ⟨5, (some 131), .mv (.t 136), 0, none⟩, ⟨6, (some 137), .ext 0 (.t 131), 0, none⟩, ⟨7, (some 138), .ext 1 (.t 131), 0, none⟩, ⟨8, (some 139), .ext 2 (.t 131), 0, none⟩, ⟨9, (some 20), .mv (.t 137), 0, none⟩, ⟨10, (some 21), .mv (.t 138), 0, none⟩, ⟨11, (some 22), .mv (.t 139), 0, none⟩] [9, 11, 14, 15, 20, 21, 22])
              (.seq
               (.seq
                (.reg false [⟨0, (some 140), .mv (.t 22), 0, none⟩, ⟨1, (some 141), .bin .neq (.t 140) (.c (.int .i64 (0))), 0, none⟩, ⟨2, (some 142), .mv (.t 141), 0, none⟩, ⟨3, (some 143), .mv (.t 20), 0, (some (142, false))⟩, ⟨4, (some 144), .mv (.t 11), 0, (some (142, false))⟩, ⟨5, (some 145), .iaddr none 1 (.t 144) (.c (.int .i64 (0))), 0, (some (142, false))⟩, ⟨6, (some 146), .load none (.t 145), 0, (some (142, false))⟩, ⟨7, (some 147), .bin .neq (.t 143) (.t 146), 0, (some (142, false))⟩, ⟨8, (some 148), .pick (.t 142) (.c (.bool true)) (.t 147), 0, none⟩, ⟨9, (some 149), .mv (.t 148), 0, none⟩, ⟨10, (some 150), .mv (.t 21), 0, (some (149, false))⟩, ⟨11, (some 151), .len none (.t 150), 0, (some (149, false))⟩, ⟨12, (some 152), .mv (.t 15), 0, (some (149, false))⟩, ⟨13, (some 153), .bin .neq (.t 151) (.t 152), 0, (some (149, false))⟩, ⟨14, (some 154), .pick (.t 149) (.c (.bool true)) (.t 153), 0, none⟩] [9, 14, 21, 154])
                (.cond (.t 154)
                 (.seq
                  (.reg false [⟨0, (some 6), .mv (.c (.bool false)), 0, none⟩] [6])
                  (.ret))
                 (.skip)))
               (.seq
                (.seq
                 (.reg false [⟨0, (some 23), .mv (.c (.int .i64 (0))), 0, none⟩] [9, 14, 21, 23])
                 (.blk 4
                  (.loop [9, 14, 21, 23]
                   (.seq
                    (.seq
                     (.reg false [⟨0, (some 155), .mv (.t 23), 0, none⟩, ⟨1, (some 156), .mv (.t 21), 0, none⟩, ⟨2, (some 157), .len none (.t 156), 0, none⟩, ⟨3, (some 158), .bin .lss (.t 155) (.t 157), 0, none⟩] [9, 14, 21, 23, 158])
                     (.cond (.t 158)
                      (.skip)
                      (.exit 4)))
                    (.seq
                     (.blk 5
                      (.seq
                       (.reg true [⟨0, (some 161), .mv (.t 21), 0, none⟩, ⟨1, (some 162), .mv (.t 23), 0, none⟩, ⟨2, (some 163), .iaddr none 1 (.t 161) (.t 162), 0, none⟩, ⟨3, (some 164), .load none (.t 163), 0, none⟩, ⟨4, (some 165), .bin .lss (.t 164) (.c (.int .i64 (0))), 0, none⟩, ⟨5, (some 166), .mv (.t 165), 0, none⟩, ⟨6, (some 167), .mv (.t 21), 0, (some (166, false))⟩, ⟨7, (some 168), .mv (.t 23), 0, (some (166, false))⟩, ⟨8, (some 169), .iaddr none 1 (.t 167) (.t 168), 0, (some (166, false))⟩, ⟨10, (some 171), .mv (.t 9), 0, (some (166, false))⟩, ⟨9, (some 170), .load none (.t 169), 0, (some (166, false))⟩, ⟨11, (some 172), .bin .geq (.t 170) (.t 171), 0, (some (166, false))⟩, ⟨12, (some 173), .pick (.t 166) (.c (.bool true)) (.t 172), 0, none⟩, ⟨13, (some 174), .mv (.t 173), 0, none⟩, ⟨14, (some 175), .mv (.t 14), 0, (some (174, false))⟩, ⟨15, (some 176), .mv (.t 21), 0, (some (174, false))⟩, ⟨16, (some 177), .mv (.t 23), 0, (some (174, false))⟩, ⟨17, (some 178), .iaddr none 1 (.t 176) (.t 177), 0, (some (174, false))⟩, ⟨18, (some 179), .load none (.t 178), 0, (some (174, false))⟩, ⟨19, (some 180), .iaddr none 1 (.t 175) (.t 179), 0, (some (174, false))⟩, ⟨20, (some 181), .load none (.t 180), 0, (some (174, false))⟩, ⟨21, (some 182), .un .not (.t 181), 0, (some (174, false))⟩, ⟨22, (some 183), .pick (.t 174) (.c (.bool true)) (.t 182), 0, none⟩, ⟨23, (some 184), .mv (.t 183), 0, none⟩, ⟨24, (some 185), .mv (.t 23), 0, (some (184, false))⟩, ⟨25, (some 186), .bin .gtr (.t 185) (.c (.int .i64 (0))), 0, (some (184, false))⟩, ⟨26, (some 187), .mv (.t 186), 0, (some (184, false))⟩, ⟨27, (some 188), .mv (.t 21), 0, (some (187, true))⟩, ⟨28, (some 189), .mv (.t 23), 0, (some (187, true))⟩, ⟨29, (some 190), .bin .sub (.t 189) (.c (.int .i64 (1))), 0, (some (187, true))⟩, ⟨30, (some 191), .iaddr none 1 (.t 188) (.t 190), 0, (some (187, true))⟩, ⟨32, (some 193), .mv (.t 21), 0, (some (187, true))⟩, ⟨33, (some 194), .mv (.t 23), 0, (some (187, true))⟩, ⟨34, (some 195), .iaddr none 1 (.t 193) (.t 194), 0, (some (187, true))⟩, ⟨31, (some 192), .load none (.t 191), 0, (some (187, true))⟩, ⟨35, (some 196), .load none (.t 195), 0, (some (187, true))⟩, ⟨36, (some 197), .bin .geq (.t 192) (.t 196), 0, (some (187, true))⟩, ⟨37, (some 198), .pick (.t 187) (.t 197) (.c (.bool false)), 0, (some (184, false))⟩, ⟨38, (some 199), .pick (.t 184) (.c (.bool true)) (.t 198), 0, none⟩] [9, 14, 21, 23, 199])
                       (.cond (.t 199)
                        (.seq
                         (.reg false [⟨0, (some 6), .mv (.c (.bool false)), 0, none⟩] [6])
                         (.ret))
                        (.skip))))
                     (.reg false [⟨0, (some 159), .mv (.t 23), 0, none⟩, ⟨1, (some 160), .bin .add (.t 159) (.c (.int .i64 (1))), 0, none⟩, ⟨2, (some 23), .mv (.t 160), 0, none⟩] [9, 14, 21, 23]))))))
                (.seq
                 (.reg false [⟨0, (some 200), .call 25 [], 2, none⟩, ⟨1, (some 6), .mv (.t 200), 0, none⟩] [6])
                 (.ret))))))))))))))))

theorem ok6 : okF Tryz.prog 6 3 c6 [.tmp 6] = true := by kernel_rfl

/-- dauber/dauberlaw08.SharePowers -/
def c7 : C :=
 .seq
  (.reg false [⟨0, (some 6), .mv (.c (.bool false)), 0, none⟩] [0, 1, 2])
  (.seq
   (.reg false [⟨0, (some 13), .mv (.t 0), 0, none⟩, ⟨1, (some 14), .call 18 [.t 13], 2, none⟩, ⟨2, (some 12), .mv (.t 14), 0, none⟩, ⟨3, (some 15), .ext 0 (.t 12), 0, none⟩, ⟨4, (some 16), .ext 1 (.t 12), 0, none⟩, ⟨5, (some 7), .alloc [.int .i64 (0), .int .i64 (0), .int .i64 (0)] 3, 0, none⟩, ⟨6, (some 8), .alloc [.int .i64 (0), .int .i64 (0), .int .i64 (0)] 3, 0, none⟩, ⟨7, none, .store 3 (.t 7) (.t 15), 0, none⟩, ⟨8, none, .store 3 (.t 8) (.t 16), 0, none⟩] [1, 2, 7, 8])
   (.seq
    (.seq
     (.reg false [⟨0, (some 9), .mv (.c (.int .i64 (0))), 0, none⟩] [1, 2, 7, 8, 9])
     (.blk 0
      (.loop [1, 2, 7, 8, 9]
       (.seq
        (.seq
         (.reg false [⟨0, (some 17), .mv (.t 9), 0, none⟩, ⟨1, (some 18), .bin .lss (.t 17) (.c (.int .i64 (2))), 0, none⟩] [1, 2, 7, 8, 9, 18])
         (.cond (.t 18)
          (.skip)
          (.exit 0)))
        (.seq
         (.blk 1
          (.seq
           (.reg false [⟨0, (some 22), .load (some 3) (.t 7), 0, none⟩, ⟨1, (some 23), .mv (.t 1), 0, none⟩, ⟨2, (some 24), .call 26 [.t 22, .t 23], 2, none⟩, ⟨3, (some 21), .mv (.t 24), 0, none⟩, ⟨4, (some 25), .ext 0 (.t 21), 0, none⟩, ⟨5, (some 26), .ext 1 (.t 21), 0, none⟩, ⟨6, (some 10), .mv (.t 25), 0, none⟩, ⟨7, (some 11), .mv (.t 26), 0, none⟩] [1, 2, 7, 8, 9, 10, 11])
           (.seq
            (.seq
             (.reg false [⟨0, (some 27), .mv (.t 1), 0, none⟩, ⟨1, (some 28), .bin .lss (.t 27) (.c (.int .i64 (0))), 0, none⟩, ⟨2, (some 29), .mv (.t 28), 0, none⟩, ⟨3, (some 30), .mv (.t 1), 0, (some (29, false))⟩, ⟨4, (some 31), .faddr 1 (.t 8), 0, (some (29, false))⟩, ⟨5, (some 32), .load none (.t 31), 0, (some (29, false))⟩, ⟨6, (some 33), .bin .geq (.t 30) (.t 32), 0, (some (29, false))⟩, ⟨7, (some 34), .pick (.t 29) (.c (.bool true)) (.t 33), 0, none⟩] [1, 2, 7, 8, 9, 10, 11, 34])
             (.cond (.t 34)
              (.seq
               (.reg false [⟨0, (some 35), .mv (.t 11), 0, none⟩, ⟨1, (some 36), .bin .neq (.t 35) (.c (.int .i64 (1))), 0, none⟩, ⟨2, (some 37), .mv (.t 36), 0, none⟩, ⟨3, (some 38), .mv (.t 10), 0, (some (37, false))⟩, ⟨4, (some 39), .bin .neq (.t 38) (.c (.int .i64 (0))), 0, (some (37, false))⟩, ⟨5, (some 40), .pick (.t 37) (.c (.bool true)) (.t 39), 0, none⟩] [1, 2, 7, 8, 9, 40])
               (.cond (.t 40)
                (.seq
                 (.reg false [⟨0, (some 6), .mv (.c (.bool false)), 0, none⟩] [6])
                 (.ret))
                (.skip)))
              (.seq
               (.reg false [⟨0, (some 41), .mv (.t 11), 0, none⟩, ⟨1, (some 42), .bin .neq (.t 41) (.c (.int .i64 (0))), 0, none⟩, ⟨2, (some 43), .mv (.t 42), 0, none⟩, ⟨3, (some 44), .mv (.t 10), 0, (some (43, false))⟩, ⟨4, (some 45), .load (some 3) (.t 8), 0, (some (43, false))⟩, ⟨5, (some 46), .mv (.t 1), 0, (some (43, false))⟩, ⟨6, (some 47), .call 27 [.t 45, .t 46], 2, (some (43, false))⟩, ⟨7, (some 48), .bin .neq (.t 44) (.t 47), 0, (some (43, false))⟩, ⟨8, (some 49), .pick (.t 43) (.c (.bool true)) (.t 48), 0, none⟩, ⟨9, (some 50), .mv (.t 49), 0, none⟩, ⟨10, (some 51), .load (some 3) (.t 7), 0, (some (50, false))⟩, ⟨11, (some 52), .mv (.t 10), 0, (some (50, false))⟩, ⟨12, (some 53), .call 28 [.t 51, .t 52], 2, (some (50, false))⟩, ⟨13, (some 54), .un .not (.t 53), 0, (some (50, false))⟩, ⟨14, (some 55), .pick (.t 50) (.c (.bool true)) (.t 54), 0, none⟩] [1, 2, 7, 8, 9, 55])
               (.cond (.t 55)
                (.seq
                 (.reg false [⟨0, (some 6), .mv (.c (.bool false)), 0, none⟩] [6])
                 (.ret))
                (.skip)))))
            (.seq
             (.seq
              (.reg true [⟨1, (some 57), .mv (.t 2), 0, none⟩, ⟨4, (some 60), .mv (.t 2), 0, none⟩, ⟨0, (some 56), .load (some 3) (.t 7), 0, none⟩, ⟨3, (some 59), .load (some 3) (.t 8), 0, none⟩, ⟨2, (some 58), .call 28 [.t 56, .t 57], 1, none⟩, ⟨5, (some 61), .call 29 [.t 59, .t 60], 1, none⟩, ⟨6, (some 62), .eqb true (.t 58) (.t 61), 0, none⟩] [1, 2, 7, 8, 9, 62])
              (.cond (.t 62)
               (.seq
                (.reg false [⟨0, (some 6), .mv (.c (.bool false)), 0, none⟩] [6])
                (.ret))
               (.skip)))
             (.seq
              (.reg false [⟨0, (some 63), .mv (.t 1), 0, none⟩, ⟨1, (some 64), .cvt .u64 (.t 63), 0, none⟩, ⟨2, (some 65), .faddr 1 (.t 8), 0, none⟩, ⟨3, (some 66), .load none (.t 65), 0, none⟩, ⟨4, (some 67), .cvt .u64 (.t 66), 0, none⟩, ⟨5, (some 68), .bin .rem (.t 64) (.t 67), 0, none⟩, ⟨6, (some 69), .cvt .i64 (.t 68), 0, none⟩, ⟨7, (some 1), .mv (.t 69), 0, none⟩] [1, 2, 7, 8, 9])
              (.reg false [⟨0, (some 70), .mv (.t 2), 0, none⟩, ⟨1, (some 71), .cvt .u64 (.t 70), 0, none⟩, ⟨2, (some 72), .faddr 0 (.t 8), 0, none⟩, ⟨3, (some 73), .load none (.t 72), 0, none⟩, ⟨4, (some 74), .cvt .u64 (.t 73), 0, none⟩, ⟨5, (some 75), .bin .rem (.t 71) (.t 74), 0, none⟩, ⟨6, (some 76), .cvt .i64 (.t 75), 0, none⟩, ⟨7, (some 2), .mv (.t 76), 0, none⟩] [1, 2, 7, 8, 9]))))))
         (.reg false [⟨0, (some 19), .mv (.t 9), 0, none⟩, ⟨1, (some 20), .bin .add (.t 19) (.c (.int .i64 (1))), 0, none⟩, ⟨2, (some 9), .mv (.t 20), 0, none⟩] [1, 2, 7, 8, 9]))))))
    (.seq
     (.reg false [⟨0, (some 77), .call 25 [], 2, none⟩, ⟨1, (some 6), .mv (.t 77), 0, none⟩] [6])
     (.ret))))

theorem ok7 : okF Tryz.prog 7 3 c7 [.tmp 6] = true := by kernel_rfl

/-- dauber/dauberlaw08.ShareRefreshes -/
def c8 : C :=
 .seq
  (.reg false [⟨0, (some 3), .box 2 (.t 1), 0, none⟩, ⟨1, (some 4), .mv (.c (.bool false)), 0, none⟩] [0, 3])
  (.seq
   (.reg false [⟨0, (some 28), .mv (.t 0), 0, none⟩, ⟨1, (some 29), .call 18 [.t 28], 2, none⟩, ⟨2, (some 27), .mv (.t 29), 0, none⟩, ⟨3, (some 30), .ext 0 (.t 27), 0, none⟩, ⟨4, (some 31), .ext 1 (.t 27), 0, none⟩, ⟨5, (some 5), .alloc [.int .i64 (0), .int .i64 (0), .int .i64 (0)] 3, 0, none⟩, ⟨6, (some 6), .alloc [.int .i64 (0), .int .i64 (0), .int .i64 (0)] 3, 0, none⟩, ⟨7, none, .store 3 (.t 5) (.t 30), 0, none⟩, ⟨8, none, .store 3 (.t 6) (.t 31), 0, none⟩] [3, 5, 6])
   (.seq
    (.reg false [⟨0, (some 32), .faddr 1 (.t 6), 0, none⟩, ⟨1, (some 33), .load none (.t 32), 0, none⟩, ⟨2, (some 34), .bin .sub (.t 33) (.c (.int .i64 (1))), 0, none⟩, ⟨3, (some 35), .iaddr (some 2) 1 (.t 3) (.c (.int .i64 (0))), 0, none⟩, ⟨4, (some 36), .load none (.t 35), 0, none⟩, ⟨5, (some 37), .len none (.t 36), 0, none⟩, ⟨6, (some 38), .mx [.c (.int .i64 (1)), .t 37], 0, none⟩, ⟨7, (some 39), .mn [.c (.int .i64 (6)), .t 34, .t 38], 0, none⟩, ⟨8, (some 7), .mv (.t 39), 0, none⟩] [3, 5, 6, 7])
    (.seq
     (.reg true [⟨1, (some 41), .iaddr (some 2) 1 (.t 3) (.c (.int .i64 (0))), 0, none⟩, ⟨3, (some 43), .mv (.t 7), 0, none⟩, ⟨6, (some 46), .iaddr (some 2) 1 (.t 3) (.c (.int .i64 (1))), 0, none⟩, ⟨8, (some 48), .mv (.t 7), 0, none⟩, ⟨0, (some 40), .load (some 3) (.t 6), 0, none⟩, ⟨2, (some 42), .load none (.t 41), 0, none⟩, ⟨5, (some 45), .load (some 3) (.t 6), 0, none⟩, ⟨7, (some 47), .load none (.t 46), 0, none⟩, ⟨4, (some 44), .call 23 [.t 40, .t 42, .t 43], 1, none⟩, ⟨9, (some 49), .call 23 [.t 45, .t 47, .t 48], 1, none⟩, ⟨10, (some 8), .mv (.t 44), 0, none⟩, ⟨11, (some 9), .mv (.t 49), 0, none⟩] [5, 6, 7, 8, 9])
     (.seq
      (.reg false [⟨0, (some 50), .mv (.t 9), 0, none⟩, ⟨1, (some 51), .iaddr none 1 (.t 50) (.c (.int .i64 (0))), 0, none⟩, ⟨2, none, .store 1 (.t 51) (.c (.int .i64 (0))), 0, none⟩] [5, 6, 7, 8, 9])
      (.seq
       (.reg false [⟨0, (some 53), .load (some 3) (.t 5), 0, none⟩, ⟨1, (some 54), .mv (.t 8), 0, none⟩, ⟨2, (some 55), .mv (.t 9), 0, none⟩, ⟨3, (some 56), .call 30 [.t 53, .t 54, .t 55], 2, none⟩, ⟨4, (some 52), .mv (.t 56), 0, none⟩, ⟨5, (some 57), .ext 0 (.t 52), 0, none⟩, ⟨6, (some 58), .ext 1 (.t 52), 0, none⟩, ⟨7, (some 10), .mv (.t 57), 0, none⟩, ⟨8, (some 11), .mv (.t 58), 0, none⟩] [5, 6, 7, 8, 9, 10, 11])
       (.seq
        (.reg false [⟨0, (some 59), .faddr 1 (.t 6), 0, none⟩, ⟨1, (some 60), .load none (.t 59), 0, none⟩, ⟨2, (some 61), .bin .sub (.t 60) (.c (.int .i64 (1))), 0, none⟩, ⟨3, (some 62), .mn [.c (.int .i64 (10)), .t 61], 0, none⟩, ⟨4, (some 12), .mv (.t 62), 0, none⟩] [5, 6, 7, 8, 9, 10, 11, 12])
        (.seq
         (.reg false [⟨0, (some 64), .load (some 3) (.t 5), 0, none⟩, ⟨1, (some 65), .mv (.t 8), 0, none⟩, ⟨2, (some 66), .mv (.t 12), 0, none⟩, ⟨3, (some 67), .call 12 [.t 64, .t 65, .t 66], 2, none⟩, ⟨4, (some 63), .mv (.t 67), 0, none⟩, ⟨5, (some 68), .ext 0 (.t 63), 0, none⟩, ⟨6, (some 69), .ext 1 (.t 63), 0, none⟩, ⟨7, (some 13), .mv (.t 68), 0, none⟩, ⟨8, (some 14), .mv (.t 69), 0, none⟩] [5, 6, 7, 8, 9, 10, 11, 12, 13, 14])
         (.seq
          (.reg false [⟨0, (some 71), .load (some 3) (.t 5), 0, none⟩, ⟨1, (some 72), .mv (.t 9), 0, none⟩, ⟨2, (some 73), .mv (.t 12), 0, none⟩, ⟨3, (some 74), .call 12 [.t 71, .t 72, .t 73], 2, none⟩, ⟨4, (some 70), .mv (.t 74), 0, none⟩, ⟨5, (some 75), .ext 0 (.t 70), 0, none⟩, ⟨6, (some 76), .ext 1 (.t 70), 0, none⟩, ⟨7, (some 15), .mv (.t 75), 0, none⟩, ⟨8, (some 16), .mv (.t 76), 0, none⟩] [5, 6, 7, 8, 9, 10, 11, 12, 13, 14, 15, 16])
          (.seq
           (.reg false [⟨0, (some 78), .load (some 3) (.t 5), 0, none⟩, ⟨1, (some 79), .mv (.t 10), 0, none⟩, ⟨2, (some 80), .mv (.t 12), 0, none⟩, ⟨3, (some 81), .call 12 [.t 78, .t 79, .t 80], 2, none⟩, ⟨4, (some 77), .mv (.t 81), 0, none⟩, ⟨5, (some 82), .ext 0 (.t 77), 0, none⟩, ⟨6, (some 83), .ext 1 (.t 77), 0, none⟩, ⟨7, (some 17), .mv (.t 82), 0, none⟩, ⟨8, (some 18), .mv (.t 83), 0, none⟩] [5, 6, 7, 8, 9, 10, 11, 12, 13, 14, 15, 16, 17, 18])
           (.seq
            (.reg false [⟨0, (some 85), .load (some 3) (.t 5), 0, none⟩, ⟨1, (some 86), .mv (.t 8), 0, none⟩, ⟨2, (some 87), .call 31 [.t 85, .t 86], 2, none⟩, ⟨3, (some 84), .mv (.t 87), 0, none⟩, ⟨4, (some 88), .ext 0 (.t 84), 0, none⟩, ⟨5, (some 89), .ext 1 (.t 84), 0, none⟩, ⟨6, (some 19), .mv (.t 88), 0, none⟩, ⟨7, (some 20), .mv (.t 89), 0, none⟩] [5, 6, 7, 8, 9, 10, 11, 12, 13, 14, 15, 16, 17, 18, 19, 20])
            (.seq
             (.reg false [⟨0, (some 91), .load (some 3) (.t 5), 0, none⟩, ⟨1, (some 92), .mv (.t 9), 0, none⟩, ⟨2, (some 93), .call 31 [.t 91, .t 92], 2, none⟩, ⟨3, (some 90), .mv (.t 93), 0, none⟩, ⟨4, (some 94), .ext 0 (.t 90), 0, none⟩, ⟨5, (some 95), .ext 1 (.t 90), 0, none⟩, ⟨6, (some 21), .mv (.t 94), 0, none⟩, ⟨7, (some 22), .mv (.t 95), 0, none⟩] [5, 6, 7, 8, 10, 11, 12, 13, 14, 15, 16, 17, 18, 19, 20, 21, 22])
             (.seq
              (.reg false [⟨0, (some 97), .load (some 3) (.t 5), 0, none⟩, ⟨1, (some 98), .mv (.t 10), 0, none⟩, ⟨2, (some 99), .call 31 [.t 97, .t 98], 2, none⟩, ⟨3, (some 96), .mv (.t 99), 0, none⟩, ⟨4, (some 100), .ext 0 (.t 96), 0, none⟩, ⟨5, (some 101), .ext 1 (.t 96), 0, none⟩, ⟨6, (some 23), .mv (.t 100), 0, none⟩, ⟨7, (some 24), .mv (.t 101), 0, none⟩] [6, 7, 8, 10, 11, 12, 13, 14, 15, 16, 17, 18, 19, 20, 21, 22, 23, 24])
              (.seq
               (.seq
                (.reg true [⟨0, (some 102), .mv (.t 11), 0, none⟩, ⟨1, (some 103), .bin .neq (.t 102) (.c (.int .i64 (0))), 0, none⟩, ⟨2, (some 104), .mv (.t 103), 0, none⟩, ⟨3, (some 105), .mv (.t 14), 0, (some (104, false))⟩, ⟨4, (some 106), .bin .neq (.t 105) (.c (.int .i64 (0))), 0, (some (104, false))⟩, ⟨5, (some 107), .pick (.t 104) (.c (.bool true)) (.t 106), 0, none⟩, ⟨6, (some 108), .mv (.t 107), 0, none⟩, ⟨7, (some 109), .mv (.t 16), 0, (some (108, false))⟩, ⟨8, (some 110), .bin .neq (.t 109) (.c (.int .i64 (0))), 0, (some (108, false))⟩, ⟨9, (some 111), .pick (.t 108) (.c (.bool true)) (.t 110), 0, none⟩, ⟨10, (some 112), .mv (.t 111), 0, none⟩, ⟨11, (some 113), .mv (.t 18), 0, (some (112, false))⟩, ⟨12, (some 114), .bin .neq (.t 113) (.c (.int .i64 (0))), 0, (some (112, false))⟩, ⟨13, (some 115), .pick (.t 112) (.c (.bool true)) (.t 114), 0, none⟩, ⟨14, (some 116), .mv (.t 115), 0, none⟩, ⟨15, (some 117), .mv (.t 20), 0, (some (116, false))⟩, ⟨16, (some 118), .bin .neq (.t 117) (.c (.int .i64 (0))), 0, (some (116, false))⟩, ⟨17, (some 119), .pick (.t 116) (.c (.bool true)) (.t 118), 0, none⟩, ⟨18, (some 120), .mv (.t 119), 0, none⟩, ⟨19, (some 121), .mv (.t 22), 0, (some (120, false))⟩, ⟨20, (some 122), .bin .neq (.t 121) (.c (.int .i64 (0))), 0, (some (120, false))⟩, ⟨21, (some 123), .pick (.t 120) (.c (.bool true)) (.t 122), 0, none⟩, ⟨22, (some 124), .mv (.t 123), 0, none⟩, ⟨23, (some 125), .mv (.t 24), 0, (some (124, false))⟩, ⟨24, (some 126), .bin .neq (.t 125) (.c (.int .i64 (0))), 0, (some (124, false))⟩, ⟨25, (some 127), .pick (.t 124) (.c (.bool true)) (.t 126), 0, none⟩, ⟨26, (some 128), .mv (.t 127), 0, none⟩, ⟨27, (some 129), .mv (.t 10), 0, (some (128, false))⟩, ⟨28, (some 130), .len none (.t 129), 0, (some (128, false))⟩, ⟨29, (some 131), .mv (.t 7), 0, (some (128, false))⟩, ⟨30, (some 132), .bin .neq (.t 130) (.t 131), 0, (some (128, false))⟩, ⟨31, (some 133), .pick (.t 128) (.c (.bool true)) (.t 132), 0, none⟩, ⟨32, (some 134), .mv (.t 133), 0, none⟩, ⟨33, (some 135), .mv (.t 10), 0, (some (134, false))⟩, ⟨34, (some 136), .iaddr none 1 (.t 135) (.c (.int .i64 (0))), 0, (some (134, false))⟩, ⟨36, (some 138), .mv (.t 8), 0, (some (134, false))⟩, ⟨37, (some 139), .iaddr none 1 (.t 138) (.c (.int .i64 (0))), 0, (some (134, false))⟩, ⟨35, (some 137), .load none (.t 136), 0, (some (134, false))⟩, ⟨38, (some 140), .load none (.t 139), 0, (some (134, false))⟩, ⟨39, (some 141), .bin .neq (.t 137) (.t 140), 0, (some (134, false))⟩, ⟨40, (some 142), .pick (.t 134) (.c (.bool true)) (.t 141), 0, none⟩] [6, 7, 12, 13, 15, 17, 19, 21, 23, 142])
                (.cond (.t 142)
                 (.seq
                  (.reg false [⟨0, (some 4), .mv (.c (.bool false)), 0, none⟩] [4])
                  (.ret))
                 (.skip)))
               (.seq
                (.seq
                 (.reg false [⟨0, (some 25), .mv (.c (.int .i64 (0))), 0, none⟩] [6, 7, 12, 13, 15, 17, 19, 21, 23, 25])
                 (.blk 0
                  (.loop [6, 7, 12, 13, 15, 17, 19, 21, 23, 25]
                   (.seq
                    (.seq
                     (.reg false [⟨0, (some 143), .mv (.t 25), 0, none⟩, ⟨1, (some 144), .mv (.t 12), 0, none⟩, ⟨2, (some 145), .bin .lss (.t 143) (.t 144), 0, none⟩] [6, 7, 12, 13, 15, 17, 19, 21, 23, 25, 145])
                     (.cond (.t 145)
                      (.skip)
                      (.exit 0)))
                    (.seq
                     (.blk 1
                      (.seq
                       (.reg true [⟨0, (some 148), .mv (.t 17), 0, none⟩, ⟨1, (some 149), .mv (.t 25), 0, none⟩, ⟨2, (some 150), .iaddr none 1 (.t 148) (.t 149), 0, none⟩, ⟨4, (some 152), .mv (.t 13), 0, none⟩, ⟨5, (some 153), .mv (.t 25), 0, none⟩, ⟨6, (some 154), .iaddr none 1 (.t 152) (.t 153), 0, none⟩, ⟨8, (some 156), .mv (.t 15), 0, none⟩, ⟨9, (some 157), .mv (.t 25), 0, none⟩, ⟨10, (some 158), .iaddr none 1 (.t 156) (.t 157), 0, none⟩, ⟨13, (some 161), .faddr 1 (.t 6), 0, none⟩, ⟨3, (some 151), .load none (.t 150), 0, none⟩, ⟨7, (some 155), .load none (.t 154), 0, none⟩, ⟨11, (some 159), .load none (.t 158), 0, none⟩, ⟨12, (some 160), .bin .add (.t 155) (.t 159), 0, none⟩, ⟨14, (some 162), .load none (.t 161), 0, none⟩, ⟨15, (some 163), .bin .rem (.t 160) (.t 162), 0, none⟩, ⟨16, (some 164), .bin .neq (.t 151) (.t 163), 0, none⟩] [6, 7, 12, 13, 15, 17, 19, 21, 23, 25, 164])
                       (.cond (.t 164)
                        (.seq
                         (.reg false [⟨0, (some 4), .mv (.c (.bool false)), 0, none⟩] [4])
                         (.ret))
                        (.skip))))
                     (.reg false [⟨0, (some 146), .mv (.t 25), 0, none⟩, ⟨1, (some 147), .bin .add (.t 146) (.c (.int .i64 (1))), 0, none⟩, ⟨2, (some 25), .mv (.t 147), 0, none⟩] [6, 7, 12, 13, 15, 17, 19, 21, 23, 25]))))))
                (.seq
                 (.seq
                  (.reg false [⟨0, (some 26), .mv (.c (.int .i64 (0))), 0, none⟩] [6, 7, 19, 21, 23, 26])
                  (.blk 2
                   (.loop [6, 7, 19, 21, 23, 26]
                    (.seq
                     (.seq
                      (.reg false [⟨0, (some 165), .mv (.t 26), 0, none⟩, ⟨1, (some 166), .mv (.t 7), 0, none⟩, ⟨2, (some 167), .bin .lss (.t 165) (.t 166), 0, none⟩] [6, 7, 19, 21, 23, 26, 167])
                      (.cond (.t 167)
                       (.skip)
                       (.exit 2)))
                     (.seq
                      (.blk 3
                       (.seq
                        (.reg true [⟨0, (some 170), .mv (.t 23), 0, none⟩, ⟨1, (some 171), .mv (.t 26), 0, none⟩, ⟨2, (some 172), .iaddr none 1 (.t 170) (.t 171), 0, none⟩, ⟨4, (some 174), .mv (.t 19), 0, none⟩, ⟨5, (some 175), .mv (.t 26), 0, none⟩, ⟨6, (some 176), .iaddr none 1 (.t 174) (.t 175), 0, none⟩, ⟨8, (some 178), .mv (.t 21), 0, none⟩, ⟨9, (some 179), .mv (.t 26), 0, none⟩, ⟨10, (some 180), .iaddr none 1 (.t 178) (.t 179), 0, none⟩, ⟨13, (some 183), .faddr 0 (.t 6), 0, none⟩, ⟨3, (some 173), .load none (.t 172), 0, none⟩, ⟨7, (some 177), .load none (.t 176), 0, none⟩, ⟨11, (some 181), .load none (.t 180), 0, none⟩, ⟨12, (some 182), .bin .mul (.t 177) (.t 181), 0, none⟩, ⟨14, (some 184), .load none (.t 183), 0, none⟩, ⟨15, (some 185), .bin .rem (.t 182) (.t 184), 0, none⟩, ⟨16, (some 186), .bin .neq (.t 173) (.t 185), 0, none⟩] [6, 7, 19, 21, 23, 26, 186])
                        (.cond (.t 186)
                         (.seq
                          (.reg false [⟨0, (some 4), .mv (.c (.bool false)), 0, none⟩] [4])
                          (.ret))
                         (.skip))))
                      (.reg false [⟨0, (some 168), .mv (.t 26), 0, none⟩, ⟨1, (some 169), .bin .add (.t 168) (.c (.int .i64 (1))), 0, none⟩, ⟨2, (some 26), .mv (.t 169), 0, none⟩] [6, 7, 19, 21, 23, 26]))))))
                 (.seq
                  (.reg false [⟨0, (some 187), .call 25 [], 2, none⟩, ⟨1, (some 4), .mv (.t 187), 0, none⟩] [4])
                  (.ret)))))))))))))))))

theorem ok8 : okF Tryz.prog 8 2 c8 [.tmp 4] = true := by kernel_rfl

/-- dauber/share.Find -/
def c9 : C :=
 .seq
  (.reg false [⟨0, (some 2), .alloc [.int .i64 (0), .int .i64 (0), .int .i64 (0)] 3, 0, none⟩, ⟨1, (some 3), .mv (.c (.int .i64 (0))), 0, none⟩] [0, 2])
  (.seq
   (.seq
    (.reg false [⟨0, (some 7), .mv (.t 0), 0, none⟩, ⟨1, (some 8), .bsl 1 1 [.int .i64 (0)] [(0, 1, .t 7)], 0, none⟩, ⟨2, (some 9), .call 32 [.c (.int .i64 (3)), .c (.int .i64 (65521)), .t 8], 2, none⟩, ⟨3, (some 10), .un .not (.t 9), 0, none⟩, ⟨4, (some 11), .mv (.t 10), 0, none⟩, ⟨5, (some 12), .mv (.t 0), 0, (some (11, false))⟩, ⟨6, (some 13), .call 33 [.t 12], 2, (some (11, false))⟩, ⟨7, (some 14), .un .not (.t 13), 0, (some (11, false))⟩, ⟨8, (some 15), .pick (.t 11) (.c (.bool true)) (.t 14), 0, none⟩] [0, 2, 15])
    (.cond (.t 15)
     (.seq
      (.reg false [⟨0, (some 16), .build [.int .i64 (0), .int .i64 (0), .int .i64 (0)] [], 0, none⟩, ⟨1, none, .store 3 (.t 2) (.t 16), 0, none⟩, ⟨2, (some 3), .mv (.c (.int .i64 (1))), 0, none⟩] [2, 3])
      (.ret))
     (.skip)))
   (.seq
    (.reg false [⟨0, (some 17), .mv (.t 0), 0, none⟩, ⟨1, (some 18), .bin .add (.t 17) (.c (.int .i64 (1))), 0, none⟩, ⟨2, (some 4), .mv (.t 18), 0, none⟩] [0, 2, 4])
    (.seq
     (.blk 0
      (.loop [0, 2, 4]
       (.seq
        (.seq
         (.reg false [⟨0, (some 19), .mv (.t 4), 0, none⟩, ⟨1, (some 20), .call 33 [.t 19], 2, none⟩, ⟨2, (some 21), .un .not (.t 20), 0, none⟩] [0, 2, 4, 21])
         (.cond (.t 21)
          (.skip)
          (.exit 0)))
        (.blk 1
         (.reg false [⟨0, (some 22), .mv (.t 4), 0, none⟩, ⟨1, (some 23), .mv (.t 0), 0, none⟩, ⟨2, (some 24), .bin .add (.t 22) (.t 23), 0, none⟩, ⟨3, (some 4), .mv (.t 24), 0, none⟩] [0, 2, 4])))))
     (.seq
      (.reg false [⟨0, (some 5), .mv (.c (.int .i64 (2))), 0, none⟩] [0, 2, 4, 5])
      (.blk 2
       (.loop [0, 2, 4, 5]
        (.seq
         (.blk 3
          (.seq
           (.reg false [⟨0, (some 27), .mv (.t 4), 0, none⟩, ⟨1, (some 28), .mv (.t 5), 0, none⟩, ⟨2, (some 29), .mv (.t 4), 0, none⟩, ⟨3, (some 30), .bin .sub (.t 29) (.c (.int .i64 (1))), 0, none⟩, ⟨4, (some 31), .mv (.t 0), 0, none⟩, ⟨5, (some 32), .bin .quo (.t 30) (.t 31), 0, none⟩, ⟨6, (some 33), .call 34 [.t 27, .t 28, .t 32], 2, none⟩, ⟨7, (some 6), .mv (.t 33), 0, none⟩] [0, 2, 4, 5, 6])
           (.seq
            (.reg false [⟨0, (some 34), .mv (.t 6), 0, none⟩, ⟨1, (some 35), .bin .neq (.t 34) (.c (.int .i64 (1))), 0, none⟩] [0, 2, 4, 5, 6, 35])
            (.cond (.t 35)
             (.seq
              (.reg false [⟨0, (some 36), .mv (.t 4), 0, none⟩, ⟨1, (some 37), .mv (.t 0), 0, none⟩, ⟨2, (some 38), .mv (.t 6), 0, none⟩, ⟨3, (some 39), .build [.int .i64 (0), .int .i64 (0), .int .i64 (0)] [(0, 1, .t 36), (1, 1, .t 37), (2, 1, .t 38)], 0, none⟩, ⟨4, none, .store 3 (.t 2) (.t 39), 0, none⟩, ⟨5, (some 3), .mv (.c (.int .i64 (0))), 0, none⟩] [2, 3])
              (.ret))
             (.skip)))))
         (.reg false [⟨0, (some 25), .mv (.t 5), 0, none⟩, ⟨1, (some 26), .bin .add (.t 25) (.c (.int .i64 (1))), 0, none⟩, ⟨2, (some 5), .mv (.t 26), 0, none⟩] [0, 2, 4, 5]))))))))

theorem ok9 : okF Tryz.prog 9 1 c9 [.cell (some 3) 2, .tmp 3] = true := by kernel_rfl

/-- dauber/daubertop.primes -/
def c10 : C :=
 .seq
  (.reg false [⟨0, (some 2), .mv (.c (.int .i64 (0))), 0, none⟩] [0])
  (.seq
   (.reg false [⟨0, (some 4), .build (List.replicate 8 (.int .i64 (0))) [(0, 1, .c (.int .i64 (7))), (1, 1, .c (.int .i64 (11))), (2, 1, .c (.int .i64 (13))), (3, 1, .c (.int .i64 (17))), (4, 1, .c (.int .i64 (31))), (5, 1, .c (.int .i64 (97))), (6, 1, .c (.int .i64 (251))), (7, 1, .c (.int .i64 (1009)))], 0, none⟩, ⟨1, (some 3), .alloc (List.replicate 8 (.int .i64 (0))) 8, 0, none⟩, ⟨2, none, .store 8 (.t 3) (.t 4), 0, none⟩] [0, 3])
   (.seq
    (.reg false [⟨0, (some 5), .mv (.t 0), 0, none⟩, ⟨1, (some 6), .call 11 [.t 5, .c (.int .i64 (7))], 2, none⟩, ⟨2, (some 7), .iaddr (some 8) 1 (.t 3) (.t 6), 0, none⟩, ⟨3, (some 8), .load none (.t 7), 0, none⟩, ⟨4, (some 2), .mv (.t 8), 0, none⟩] [2])
    (.ret)))

theorem ok10 : okF Tryz.prog 10 1 c10 [.tmp 2] = true := by kernel_rfl

/-- dauber/daubertop.small -/
def c11 : C :=
 .seq
  (.reg false [⟨0, (some 4), .mv (.c (.int .i64 (0))), 0, none⟩] [0, 1])
  (.seq
   (.reg false [⟨0, (some 5), .mv (.t 0), 0, none⟩, ⟨1, (some 6), .cvt .u64 (.t 5), 0, none⟩, ⟨2, (some 7), .mv (.t 1), 0, none⟩, ⟨3, (some 8), .bin .add (.t 7) (.c (.int .i64 (1))), 0, none⟩, ⟨4, (some 9), .cvt .u64 (.t 8), 0, none⟩, ⟨5, (some 10), .bin .rem (.t 6) (.t 9), 0, none⟩, ⟨6, (some 11), .cvt .i64 (.t 10), 0, none⟩, ⟨7, (some 4), .mv (.t 11), 0, none⟩] [4])
   (.ret))

theorem ok11 : okF Tryz.prog 11 2 c11 [.tmp 4] = true := by kernel_rfl

/-- dauber/share.Shares -/
def c12 : C :=
 .seq
  (.reg false [⟨0, (some 3), .box 3 (.t 0), 0, none⟩, ⟨1, (some 6), .mv (.c (.nils)), 0, none⟩, ⟨2, (some 7), .mv (.c (.int .i64 (0))), 0, none⟩] [1, 2, 3])
  (.seq
   (.seq
    (.reg false [⟨0, (some 11), .load (some 3) (.t 3), 0, none⟩, ⟨1, (some 12), .mv (.t 1), 0, none⟩, ⟨2, (some 13), .call 35 [.t 11, .t 12], 2, none⟩, ⟨3, (some 8), .mv (.t 13), 0, none⟩] [1, 2, 3, 8])
    (.seq
     (.reg false [⟨0, (some 14), .mv (.t 8), 0, none⟩, ⟨1, (some 15), .bin .neq (.t 14) (.c (.int .i64 (0))), 0, none⟩] [1, 2, 3, 8, 15])
     (.cond (.t 15)
      (.seq
       (.reg false [⟨0, (some 16), .mv (.t 8), 0, none⟩, ⟨1, (some 6), .mv (.c (.nils)), 0, none⟩, ⟨2, (some 7), .mv (.t 16), 0, none⟩] [6, 7])
       (.ret))
      (.skip))))
   (.seq
    (.seq
     (.reg false [⟨0, (some 17), .mv (.t 2), 0, none⟩, ⟨1, (some 18), .bin .lss (.t 17) (.c (.int .i64 (1))), 0, none⟩, ⟨2, (some 19), .mv (.t 18), 0, none⟩, ⟨3, (some 20), .mv (.t 2), 0, (some (19, false))⟩, ⟨4, (some 21), .bin .gtr (.t 20) (.c (.int .i64 (64))), 0, (some (19, false))⟩, ⟨5, (some 22), .pick (.t 19) (.c (.bool true)) (.t 21), 0, none⟩, ⟨6, (some 23), .mv (.t 22), 0, none⟩, ⟨7, (some 24), .mv (.t 2), 0, (some (23, false))⟩, ⟨8, (some 25), .faddr 1 (.t 3), 0, (some (23, false))⟩, ⟨9, (some 26), .load none (.t 25), 0, (some (23, false))⟩, ⟨10, (some 27), .bin .geq (.t 24) (.t 26), 0, (some (23, false))⟩, ⟨11, (some 28), .pick (.t 23) (.c (.bool true)) (.t 27), 0, none⟩] [1, 2, 3, 28])
     (.cond (.t 28)
      (.seq
       (.reg false [⟨0, (some 6), .mv (.c (.nils)), 0, none⟩, ⟨1, (some 7), .mv (.c (.int .i64 (1))), 0, none⟩] [6, 7])
       (.ret))
      (.skip)))
    (.seq
     (.reg false [⟨0, (some 9), .nilo 1, 0, none⟩] [1, 2, 3, 9])
     (.seq
      (.seq
       (.reg false [⟨0, (some 29), .mv (.t 2), 0, none⟩, ⟨1, (some 30), .mv (.c (.int .i64 (0))), 0, none⟩] [1, 3, 9, 29, 30])
       (.blk 0
        (.loop [1, 3, 9, 29, 30]
         (.seq
          (.reg false [⟨0, (some 31), .bin .lss (.t 30) (.t 29), 0, none⟩] [1, 3, 9, 29, 30, 31])
          (.seq
           (.cond (.t 31)
            (.skip)
            (.exit 0))
           (.seq
            (.blk 1
             (.seq
              (.reg false [⟨0, (some 32), .mv (.t 30), 0, none⟩, ⟨1, (some 10), .mv (.t 32), 0, none⟩] [1, 3, 9, 10, 29, 30])
              (.reg false [⟨0, (some 33), .mv (.t 9), 0, none⟩, ⟨1, (some 34), .load (some 3) (.t 3), 0, none⟩, ⟨2, (some 35), .mv (.t 1), 0, none⟩, ⟨3, (some 36), .mv (.t 10), 0, none⟩, ⟨4, (some 37), .bin .add (.t 36) (.c (.int .i64 (1))), 0, none⟩, ⟨5, (some 38), .call 36 [.t 34, .t 35, .t 37], 2, none⟩, ⟨6, (some 39), .bsl 1 1 [.int .i64 (0)] [(0, 1, .t 38)], 0, none⟩, ⟨7, (some 40), .app 1 8 (.t 33) (.t 39), 0, none⟩, ⟨8, (some 9), .mv (.t 40), 0, none⟩] [1, 3, 9, 29, 30])))
            (.reg false [⟨0, (some 41), .bin .add (.t 30) (.c (.int .i64 (1))), 0, none⟩, ⟨1, (some 30), .mv (.t 41), 0, none⟩] [1, 3, 9, 29, 30])))))))
      (.seq
       (.reg false [⟨0, (some 42), .mv (.t 9), 0, none⟩, ⟨1, (some 6), .mv (.t 42), 0, none⟩, ⟨2, (some 7), .mv (.c (.int .i64 (0))), 0, none⟩] [6, 7])
       (.ret))))))

theorem ok12 : okF Tryz.prog 12 3 c12 [.tmp 6, .tmp 7] = true := by kernel_rfl

/-- dauber/code.Encode -/
def c13 : C :=
 .seq
  (.reg false [⟨0, (some 2), .box 3 (.t 0), 0, none⟩, ⟨1, (some 4), .mv (.c (.nils)), 0, none⟩, ⟨2, (some 5), .mv (.c (.int .i64 (0))), 0, none⟩] [1, 2])
  (.seq
   (.reg false [⟨0, (some 9), .load (some 3) (.t 2), 0, none⟩, ⟨1, (some 10), .call 37 [.t 9], 2, none⟩, ⟨2, (some 8), .mv (.t 10), 0, none⟩, ⟨3, (some 11), .ext 0 (.t 8), 0, none⟩, ⟨4, (some 12), .ext 1 (.t 8), 0, none⟩, ⟨5, (some 6), .mv (.t 11), 0, none⟩, ⟨6, (some 7), .mv (.t 12), 0, none⟩] [1, 2, 6, 7])
   (.seq
    (.seq
     (.reg false [⟨0, (some 13), .mv (.t 7), 0, none⟩, ⟨1, (some 14), .bin .neq (.t 13) (.c (.int .i64 (0))), 0, none⟩] [1, 2, 6, 7, 14])
     (.cond (.t 14)
      (.seq
       (.reg false [⟨0, (some 15), .mv (.t 7), 0, none⟩, ⟨1, (some 4), .mv (.c (.nils)), 0, none⟩, ⟨2, (some 5), .mv (.t 15), 0, none⟩] [4, 5])
       (.ret))
      (.skip)))
    (.seq
     (.seq
      (.reg false [⟨0, (some 16), .mv (.t 1), 0, none⟩, ⟨1, (some 17), .len none (.t 16), 0, none⟩, ⟨2, (some 18), .faddr 2 (.t 2), 0, none⟩, ⟨3, (some 19), .load none (.t 18), 0, none⟩, ⟨4, (some 20), .bin .neq (.t 17) (.t 19), 0, none⟩] [1, 2, 6, 20])
      (.cond (.t 20)
       (.seq
        (.reg false [⟨0, (some 4), .mv (.c (.nils)), 0, none⟩, ⟨1, (some 5), .mv (.c (.int .i64 (7))), 0, none⟩] [4, 5])
        (.ret))
       (.skip)))
     (.seq
      (.seq
       (.reg false [⟨0, (some 21), .faddr 0 (.t 2), 0, none⟩, ⟨1, (some 22), .load none (.t 21), 0, none⟩, ⟨2, (some 23), .mv (.t 1), 0, none⟩, ⟨3, (some 24), .call 38 [.t 22, .t 23], 2, none⟩, ⟨4, (some 25), .un .not (.t 24), 0, none⟩] [1, 6, 25])
       (.cond (.t 25)
        (.seq
         (.reg false [⟨0, (some 4), .mv (.c (.nils)), 0, none⟩, ⟨1, (some 5), .mv (.c (.int .i64 (1))), 0, none⟩] [4, 5])
         (.ret))
        (.skip)))
      (.seq
       (.reg false [⟨0, (some 26), .mv (.t 6), 0, none⟩, ⟨1, (some 27), .mv (.t 1), 0, none⟩, ⟨2, (some 28), .call 40 [.t 27], 2, none⟩, ⟨3, (some 29), .call 39 [.t 26, .t 28], 2, none⟩, ⟨4, (some 4), .mv (.t 29), 0, none⟩, ⟨5, (some 5), .mv (.c (.int .i64 (0))), 0, none⟩] [4, 5])
       (.ret))))))

theorem ok13 : okF Tryz.prog 13 2 c13 [.tmp 4, .tmp 5] = true := by kernel_rfl

/-- dauber/share.Heal -/
def c14 : C :=
 .seq
  (.reg false [⟨0, (some 4), .box 3 (.t 0), 0, none⟩, ⟨1, (some 8), .mv (.c (.int .i64 (0))), 0, none⟩, ⟨2, (some 9), .nilo 1, 0, none⟩, ⟨3, (some 10), .mv (.c (.int .i64 (0))), 0, none⟩] [1, 2, 3, 4, 9])
  (.seq
   (.seq
    (.reg false [⟨0, (some 17), .load (some 3) (.t 4), 0, none⟩, ⟨1, (some 18), .mv (.t 2), 0, none⟩, ⟨2, (some 19), .mv (.t 3), 0, none⟩, ⟨3, (some 20), .call 41 [.t 17, .t 18, .t 19], 2, none⟩, ⟨4, (some 11), .mv (.t 20), 0, none⟩] [1, 2, 3, 4, 9, 11])
    (.seq
     (.reg false [⟨0, (some 21), .mv (.t 11), 0, none⟩, ⟨1, (some 22), .bin .neq (.t 21) (.c (.int .i64 (0))), 0, none⟩] [1, 2, 3, 4, 9, 11, 22])
     (.cond (.t 22)
      (.seq
       (.reg false [⟨0, (some 23), .mv (.t 11), 0, none⟩, ⟨1, (some 8), .mv (.c (.int .i64 (0))), 0, none⟩, ⟨2, (some 9), .nilo 1, 0, none⟩, ⟨3, (some 10), .mv (.t 23), 0, none⟩] [8, 9, 10])
       (.ret))
      (.skip))))
   (.seq
    (.seq
     (.reg false [⟨0, (some 24), .mv (.t 1), 0, none⟩, ⟨1, (some 25), .bin .lss (.t 24) (.c (.int .i64 (0))), 0, none⟩, ⟨2, (some 26), .mv (.t 25), 0, none⟩, ⟨3, (some 27), .mv (.t 1), 0, (some (26, false))⟩, ⟨4, (some 28), .bin .geq (.t 27) (.c (.int .i64 (16))), 0, (some (26, false))⟩, ⟨5, (some 29), .pick (.t 26) (.c (.bool true)) (.t 28), 0, none⟩, ⟨6, (some 30), .mv (.t 29), 0, none⟩, ⟨7, (some 31), .mv (.t 1), 0, (some (30, false))⟩, ⟨8, (some 32), .mv (.t 2), 0, (some (30, false))⟩, ⟨9, (some 33), .len none (.t 32), 0, (some (30, false))⟩, ⟨10, (some 34), .bin .geq (.t 31) (.t 33), 0, (some (30, false))⟩, ⟨11, (some 35), .pick (.t 30) (.c (.bool true)) (.t 34), 0, none⟩] [1, 2, 3, 4, 9, 35])
     (.cond (.t 35)
      (.seq
       (.reg false [⟨0, (some 8), .mv (.c (.int .i64 (0))), 0, none⟩, ⟨1, (some 9), .nilo 1, 0, none⟩, ⟨2, (some 10), .mv (.c (.int .i64 (1))), 0, none⟩] [8, 9, 10])
       (.ret))
      (.skip)))
    (.seq
     (.reg true [⟨0, (some 36), .faddr 1 (.t 4), 0, none⟩, ⟨2, (some 38), .mv (.t 2), 0, none⟩, ⟨4, (some 40), .mv (.t 1), 0, none⟩, ⟨5, (some 41), .bin .add (.t 40) (.c (.int .i64 (1))), 0, none⟩, ⟨1, (some 37), .load none (.t 36), 0, none⟩, ⟨3, (some 39), .call 42 [.t 38], 1, none⟩, ⟨6, (some 42), .build [.int .i64 (0), .nils, .int .i64 (0)] [(0, 1, .t 37), (1, 1, .t 39), (2, 1, .t 41)], 0, none⟩, ⟨7, (some 12), .alloc [.int .i64 (0), .nils, .int .i64 (0)] 3, 0, none⟩, ⟨8, none, .store 3 (.t 12) (.t 42), 0, none⟩] [3, 9, 12])
     (.seq
      (.reg true [⟨1, (some 45), .mv (.t 3), 0, none⟩, ⟨0, (some 44), .load (some 3) (.t 12), 0, none⟩, ⟨2, (some 46), .call 42 [.t 45], 1, none⟩, ⟨3, (some 47), .call 15 [.t 44, .t 46, .c (.nils)], 1, none⟩, ⟨4, (some 43), .mv (.t 47), 0, none⟩, ⟨5, (some 48), .ext 0 (.t 43), 0, none⟩, ⟨6, (some 49), .ext 1 (.t 43), 0, none⟩, ⟨7, (some 13), .mv (.t 48), 0, none⟩, ⟨8, (some 10), .mv (.t 49), 0, none⟩] [3, 9, 10, 12, 13])
      (.seq
       (.seq
        (.reg false [⟨0, (some 50), .mv (.t 10), 0, none⟩, ⟨1, (some 51), .bin .neq (.t 50) (.c (.int .i64 (0))), 0, none⟩] [3, 9, 10, 12, 13, 51])
        (.cond (.t 51)
         (.seq
          (.reg false [⟨0, (some 52), .mv (.t 10), 0, none⟩, ⟨1, (some 8), .mv (.c (.int .i64 (0))), 0, none⟩, ⟨2, (some 9), .nilo 1, 0, none⟩, ⟨3, (some 10), .mv (.t 52), 0, none⟩] [8, 9, 10])
          (.ret))
         (.skip)))
       (.seq
        (.seq
         (.reg false [⟨0, (some 53), .mv (.t 13), 0, none⟩, ⟨1, (some 54), .call 43 [.t 53], 2, none⟩, ⟨2, (some 55), .len none (.t 54), 0, none⟩, ⟨3, (some 56), .mv (.c (.int .i64 (0))), 0, none⟩] [3, 9, 12, 13, 54, 55, 56])
         (.blk 0
          (.loop [3, 9, 12, 13, 54, 55, 56]
           (.seq
            (.reg false [⟨0, (some 57), .bin .lss (.t 56) (.t 55), 0, none⟩] [3, 9, 12, 13, 54, 55, 56, 57])
            (.seq
             (.cond (.t 57)
              (.skip)
              (.exit 0))
             (.seq
              (.blk 1
               (.seq
                (.reg false [⟨0, (some 58), .mv (.t 56), 0, none⟩, ⟨1, (some 59), .iaddr none 1 (.t 54) (.t 56), 0, none⟩, ⟨2, (some 60), .load none (.t 59), 0, none⟩, ⟨3, (some 14), .mv (.t 58), 0, none⟩, ⟨4, (some 15), .mv (.t 60), 0, none⟩] [3, 9, 12, 13, 14, 15, 54, 55, 56])
                (.seq
                 (.reg false [⟨0, (some 61), .mv (.t 15), 0, none⟩, ⟨1, (some 62), .mv (.t 3), 0, none⟩, ⟨2, (some 63), .mv (.t 14), 0, none⟩, ⟨3, (some 64), .iaddr none 1 (.t 62) (.t 63), 0, none⟩, ⟨4, (some 65), .load none (.t 64), 0, none⟩, ⟨5, (some 66), .bin .neq (.t 61) (.t 65), 0, none⟩] [3, 9, 12, 13, 14, 54, 55, 56, 66])
                 (.cond (.t 66)
                  (.reg false [⟨0, (some 67), .mv (.t 9), 0, none⟩, ⟨1, (some 68), .mv (.t 14), 0, none⟩, ⟨2, (some 69), .bsl 1 1 [.int .i64 (0)] [(0, 1, .t 68)], 0, none⟩, ⟨3, (some 70), .app 1 8 (.t 67) (.t 69), 0, none⟩, ⟨4, (some 9), .mv (.t 70), 0, none⟩] [3, 9, 12, 13, 54, 55, 56])
                  (.skip)))))
              (.reg false [⟨0, (some 71), .bin .add (.t 56) (.c (.int .i64 (1))), 0, none⟩, ⟨1, (some 56), .mv (.t 71), 0, none⟩] [3, 9, 12, 13, 54, 55, 56])))))))
        (.seq
         (.reg false [⟨0, (some 73), .load (some 3) (.t 12), 0, none⟩, ⟨1, (some 74), .mv (.t 13), 0, none⟩, ⟨2, (some 75), .call 17 [.t 73, .t 74], 2, none⟩, ⟨3, (some 72), .mv (.t 75), 0, none⟩, ⟨4, (some 76), .ext 0 (.t 72), 0, none⟩, ⟨5, (some 77), .ext 1 (.t 72), 0, none⟩, ⟨6, (some 16), .mv (.t 76), 0, none⟩, ⟨7, (some 10), .mv (.t 77), 0, none⟩] [9, 10, 16])
         (.seq
          (.seq
           (.reg false [⟨0, (some 78), .mv (.t 10), 0, none⟩, ⟨1, (some 79), .bin .neq (.t 78) (.c (.int .i64 (0))), 0, none⟩] [9, 10, 16, 79])
           (.cond (.t 79)
            (.seq
             (.reg false [⟨0, (some 80), .mv (.t 10), 0, none⟩, ⟨1, (some 8), .mv (.c (.int .i64 (0))), 0, none⟩, ⟨2, (some 9), .nilo 1, 0, none⟩, ⟨3, (some 10), .mv (.t 80), 0, none⟩] [8, 9, 10])
             (.ret))
            (.skip)))
          (.seq
           (.reg false [⟨0, (some 81), .mv (.t 16), 0, none⟩, ⟨1, (some 82), .iaddr none 1 (.t 81) (.c (.int .i64 (0))), 0, none⟩, ⟨2, (some 83), .load none (.t 82), 0, none⟩, ⟨3, (some 84), .mv (.t 9), 0, none⟩, ⟨4, (some 8), .mv (.t 83), 0, none⟩, ⟨5, (some 9), .mv (.t 84), 0, none⟩, ⟨6, (some 10), .mv (.c (.int .i64 (0))), 0, none⟩] [8, 9, 10])
           (.ret))))))))))

theorem ok14 : okF Tryz.prog 14 4 c14 [.tmp 8, .tmp 9, .tmp 10] = true := by kernel_rfl

/-- dauber/code.Decode -/
def c15 : C :=
 .seq
  (.reg false [⟨0, (some 3), .box 3 (.t 0), 0, none⟩, ⟨1, (some 6), .mv (.c (.nils)), 0, none⟩, ⟨2, (some 7), .mv (.c (.int .i64 (0))), 0, none⟩] [1, 2, 3])
  (.seq
   (.reg false [⟨0, (some 12), .load (some 3) (.t 3), 0, none⟩, ⟨1, (some 13), .mv (.t 1), 0, none⟩, ⟨2, (some 14), .mv (.t 2), 0, none⟩, ⟨3, (some 15), .call 44 [.t 12, .t 13, .t 14], 2, none⟩, ⟨4, (some 11), .mv (.t 15), 0, none⟩, ⟨5, (some 16), .ext 0 (.t 11), 0, none⟩, ⟨6, (some 17), .ext 1 (.t 11), 0, none⟩, ⟨7, (some 18), .ext 2 (.t 11), 0, none⟩, ⟨8, (some 9), .alloc [.nils, .nils] 2, 0, none⟩, ⟨9, (some 8), .mv (.t 16), 0, none⟩, ⟨10, none, .store 2 (.t 9) (.t 17), 0, none⟩, ⟨11, (some 10), .mv (.t 18), 0, none⟩] [8, 10])
   (.seq
    (.reg false [⟨0, (some 19), .mv (.t 8), 0, none⟩, ⟨1, (some 20), .mv (.t 10), 0, none⟩, ⟨2, (some 6), .mv (.t 19), 0, none⟩, ⟨3, (some 7), .mv (.t 20), 0, none⟩] [6, 7])
    (.ret)))

theorem ok15 : okF Tryz.prog 15 3 c15 [.tmp 6, .tmp 7] = true := by kernel_rfl

/-- dauber/daubertop.nine -/
def c16 : C :=
 .seq
  (.reg false [⟨0, (some 0), .mv (.c (.bool false)), 0, none⟩] [])
  (.seq
   (.reg false [⟨0, (some 6), .call 9 [.c (.int .i64 (11))], 2, none⟩, ⟨1, (some 5), .mv (.t 6), 0, none⟩, ⟨2, (some 7), .ext 0 (.t 5), 0, none⟩, ⟨3, (some 8), .ext 1 (.t 5), 0, none⟩, ⟨4, (some 1), .alloc [.int .i64 (0), .int .i64 (0), .int .i64 (0)] 3, 0, none⟩, ⟨5, none, .store 3 (.t 1) (.t 7), 0, none⟩, ⟨6, (some 2), .mv (.t 8), 0, none⟩] [1, 2])
   (.seq
    (.reg false [⟨0, (some 10), .call 45 [.c (.int .i64 (11))], 2, none⟩, ⟨1, (some 9), .mv (.t 10), 0, none⟩, ⟨2, (some 11), .ext 0 (.t 9), 0, none⟩, ⟨3, (some 12), .ext 1 (.t 9), 0, none⟩, ⟨4, (some 3), .mv (.t 11), 0, none⟩, ⟨5, (some 4), .mv (.t 12), 0, none⟩] [1, 2, 3, 4])
    (.seq
     (.reg false [⟨0, (some 13), .mv (.t 2), 0, none⟩, ⟨1, (some 14), .bin .eql (.t 13) (.c (.int .i64 (0))), 0, none⟩, ⟨2, (some 15), .mv (.t 14), 0, none⟩, ⟨3, (some 16), .mv (.t 4), 0, (some (15, true))⟩, ⟨4, (some 17), .bin .eql (.t 16) (.c (.int .i64 (0))), 0, (some (15, true))⟩, ⟨5, (some 18), .pick (.t 15) (.t 17) (.c (.bool false)), 0, none⟩, ⟨6, (some 19), .mv (.t 18), 0, none⟩, ⟨7, (some 20), .mv (.t 3), 0, (some (19, true))⟩, ⟨8, (some 21), .eqn 0 true (.t 20) (.c (.nilp)), 0, (some (19, true))⟩, ⟨9, (some 22), .pick (.t 19) (.t 21) (.c (.bool false)), 0, none⟩, ⟨10, (some 23), .mv (.t 22), 0, none⟩, ⟨11, (some 24), .faddr 0 (.t 1), 0, (some (23, true))⟩, ⟨12, (some 25), .load none (.t 24), 0, (some (23, true))⟩, ⟨13, (some 26), .bin .eql (.t 25) (.c (.int .i64 (23))), 0, (some (23, true))⟩, ⟨14, (some 27), .pick (.t 23) (.t 26) (.c (.bool false)), 0, none⟩, ⟨15, (some 28), .mv (.t 27), 0, none⟩, ⟨16, (some 29), .load (some 3) (.t 1), 0, (some (28, true))⟩, ⟨17, (some 30), .build (List.replicate 6 (.int .i64 (0))) [(0, 3, .t 29), (3, 1, .c (.int .i64 (2))), (4, 1, .c (.int .i64 (0))), (5, 1, .c (.int .i64 (1)))], 0, (some (28, true))⟩, ⟨18, (some 31), .call 46 [.t 30], 2, (some (28, true))⟩, ⟨19, (some 32), .bin .eql (.t 31) (.c (.int .i64 (0))), 0, (some (28, true))⟩, ⟨20, (some 33), .pick (.t 28) (.t 32) (.c (.bool false)), 0, none⟩, ⟨21, (some 0), .mv (.t 33), 0, none⟩] [0])
     (.ret))))

theorem ok16 : okF Tryz.prog 16 0 c16 [.tmp 0] = true := by kernel_rfl

/-- dauber/code.Message -/
def c17 : C :=
 .seq
  (.reg false [⟨0, (some 2), .box 3 (.t 0), 0, none⟩, ⟨1, (some 4), .mv (.c (.nils)), 0, none⟩, ⟨2, (some 5), .mv (.c (.int .i64 (0))), 0, none⟩] [1, 2])
  (.seq
   (.reg false [⟨0, (some 12), .load (some 3) (.t 2), 0, none⟩, ⟨1, (some 13), .call 37 [.t 12], 2, none⟩, ⟨2, (some 11), .mv (.t 13), 0, none⟩, ⟨3, (some 14), .ext 0 (.t 11), 0, none⟩, ⟨4, (some 15), .ext 1 (.t 11), 0, none⟩, ⟨5, (some 6), .mv (.t 14), 0, none⟩, ⟨6, (some 7), .mv (.t 15), 0, none⟩] [1, 6, 7])
   (.seq
    (.seq
     (.reg false [⟨0, (some 16), .mv (.t 7), 0, none⟩, ⟨1, (some 17), .bin .neq (.t 16) (.c (.int .i64 (0))), 0, none⟩] [1, 6, 7, 17])
     (.cond (.t 17)
      (.seq
       (.reg false [⟨0, (some 18), .mv (.t 7), 0, none⟩, ⟨1, (some 4), .mv (.c (.nils)), 0, none⟩, ⟨2, (some 5), .mv (.t 18), 0, none⟩] [4, 5])
       (.ret))
      (.skip)))
    (.seq
     (.seq
      (.reg false [⟨0, (some 19), .mv (.t 6), 0, none⟩, ⟨1, (some 20), .mv (.t 1), 0, none⟩, ⟨2, (some 21), .call 47 [.t 19, .t 20], 2, none⟩, ⟨3, (some 8), .mv (.t 21), 0, none⟩] [1, 6, 8])
      (.seq
       (.reg false [⟨0, (some 22), .mv (.t 8), 0, none⟩, ⟨1, (some 23), .bin .neq (.t 22) (.c (.int .i64 (0))), 0, none⟩] [1, 6, 8, 23])
       (.cond (.t 23)
        (.seq
         (.reg false [⟨0, (some 24), .mv (.t 8), 0, none⟩, ⟨1, (some 4), .mv (.c (.nils)), 0, none⟩, ⟨2, (some 5), .mv (.t 24), 0, none⟩] [4, 5])
         (.ret))
        (.skip))))
     (.seq
      (.reg false [⟨0, (some 26), .mv (.t 6), 0, none⟩, ⟨1, (some 27), .mv (.t 1), 0, none⟩, ⟨2, (some 28), .call 48 [.t 26, .t 27], 2, none⟩, ⟨3, (some 25), .mv (.t 28), 0, none⟩, ⟨4, (some 29), .ext 0 (.t 25), 0, none⟩, ⟨5, (some 30), .ext 1 (.t 25), 0, none⟩, ⟨6, (some 9), .mv (.t 29), 0, none⟩, ⟨7, (some 10), .mv (.t 30), 0, none⟩] [9, 10])
      (.seq
       (.seq
        (.reg false [⟨0, (some 31), .mv (.t 10), 0, none⟩, ⟨1, (some 32), .un .not (.t 31), 0, none⟩] [9, 32])
        (.cond (.t 32)
         (.seq
          (.reg false [⟨0, (some 4), .mv (.c (.nils)), 0, none⟩, ⟨1, (some 5), .mv (.c (.int .i64 (30))), 0, none⟩] [4, 5])
          (.ret))
         (.skip)))
       (.seq
        (.reg false [⟨0, (some 33), .mv (.t 9), 0, none⟩, ⟨1, (some 4), .mv (.t 33), 0, none⟩, ⟨2, (some 5), .mv (.c (.int .i64 (0))), 0, none⟩] [4, 5])
        (.ret)))))))

theorem ok17 : okF Tryz.prog 17 2 c17 [.tmp 4, .tmp 5] = true := by kernel_rfl

/-- dauber/dauberlaw08.group -/
def c18 : C :=
 .seq
  (.reg false [⟨0, (some 2), .alloc [.int .i64 (0), .int .i64 (0), .int .i64 (0)] 3, 0, none⟩, ⟨1, (some 3), .alloc [.int .i64 (0), .int .i64 (0), .int .i64 (0)] 3, 0, none⟩] [0, 2, 3])
  (.seq
   (.reg false [⟨0, (some 7), .build (List.replicate 12 (.int .i64 (0))) [(0, 1, .c (.int .i64 (3))), (1, 1, .c (.int .i64 (5))), (2, 1, .c (.int .i64 (7))), (3, 1, .c (.int .i64 (11))), (4, 1, .c (.int .i64 (13))), (5, 1, .c (.int .i64 (17))), (6, 1, .c (.int .i64 (31))), (7, 1, .c (.int .i64 (97))), (8, 1, .c (.int .i64 (101))), (9, 1, .c (.int .i64 (251))), (10, 1, .c (.int .i64 (1009))), (11, 1, .c (.int .i64 (65521)))], 0, none⟩, ⟨1, (some 4), .alloc (List.replicate 12 (.int .i64 (0))) 12, 0, none⟩, ⟨2, none, .store 12 (.t 4) (.t 7), 0, none⟩] [0, 2, 3, 4])
   (.seq
    (.reg false [⟨0, (some 9), .mv (.t 0), 0, none⟩, ⟨1, (some 10), .call 49 [.t 9], 2, none⟩, ⟨2, (some 8), .mv (.t 10), 0, none⟩, ⟨3, (some 11), .ext 0 (.t 8), 0, none⟩, ⟨4, (some 12), .ext 1 (.t 8), 0, none⟩, ⟨5, (some 5), .alloc [.int .i64 (0), .int .i64 (0), .int .i64 (0)] 3, 0, none⟩, ⟨6, none, .store 3 (.t 5) (.t 11), 0, none⟩, ⟨7, (some 6), .mv (.t 12), 0, none⟩] [0, 2, 3, 4, 5, 6])
    (.seq
     (.seq
      (.reg false [⟨0, (some 13), .mv (.t 6), 0, none⟩, ⟨1, (some 14), .un .not (.t 13), 0, none⟩] [0, 2, 3, 4, 5, 14])
      (.cond (.t 14)
       (.reg false [⟨0, (some 16), .mv (.t 0), 0, none⟩, ⟨1, (some 17), .cvt .u64 (.t 16), 0, none⟩, ⟨2, (some 18), .bin .rem (.t 17) (.c (.int .u64 (12))), 0, none⟩, ⟨3, (some 19), .iaddr (some 12) 1 (.t 4) (.t 18), 0, none⟩, ⟨4, (some 20), .load none (.t 19), 0, none⟩, ⟨5, (some 21), .call 49 [.t 20], 2, none⟩, ⟨6, (some 15), .mv (.t 21), 0, none⟩, ⟨7, (some 22), .ext 0 (.t 15), 0, none⟩, ⟨8, (some 23), .ext 1 (.t 15), 0, none⟩, ⟨9, none, .store 3 (.t 5) (.t 22), 0, none⟩] [2, 3, 5])
       (.skip)))
     (.seq
      (.reg true [⟨0, (some 24), .load (some 3) (.t 5), 0, none⟩, ⟨1, (some 25), .loadx (some 3) (.t 5) [2], 0, none⟩, ⟨2, none, .store 3 (.t 2) (.t 24), 0, none⟩, ⟨3, none, .store 3 (.t 3) (.t 25), 0, none⟩] [2, 3])
      (.ret)))))

theorem ok18 : okF Tryz.prog 18 1 c18 [.cell (some 3) 2, .cell (some 3) 3] = true := by kernel_rfl

/-- dauber/dauberlaw08.raw -/
def c19 : C :=
 .seq
  (.reg false [⟨0, (some 4), .mv (.c (.nils)), 0, none⟩] [0, 1])
  (.seq
   (.reg false [⟨0, (some 5), .nilo 1, 0, none⟩] [0, 1, 5])
   (.seq
    (.reg false [⟨0, (some 6), .mv (.t 5), 0, none⟩, ⟨1, (some 7), .mv (.t 0), 0, none⟩, ⟨2, (some 8), .mv (.t 0), 0, none⟩, ⟨3, (some 9), .len none (.t 8), 0, none⟩, ⟨4, (some 10), .mv (.t 1), 0, none⟩, ⟨5, (some 11), .mn [.t 9, .t 10], 0, none⟩, ⟨6, (some 12), .slc none 1 (.t 7) none (some (.t 11)) none, 0, none⟩, ⟨7, (some 13), .app 1 8 (.t 6) (.t 12), 0, none⟩, ⟨8, (some 4), .mv (.t 13), 0, none⟩] [4])
    (.ret)))

theorem ok19 : okF Tryz.prog 19 2 c19 [.tmp 4] = true := by kernel_rfl

/-- dauber/dauberref08.Pairs -/
def c20 : C :=
 .seq
  (.reg false [⟨0, (some 3), .box 3 (.t 0), 0, none⟩, ⟨1, (some 6), .mv (.c (.int .i64 (0))), 0, none⟩] [1, 2, 3])
  (.seq
   (.seq
    (.reg false [⟨0, (some 10), .mv (.t 1), 0, none⟩, ⟨1, (some 11), .len none (.t 10), 0, none⟩, ⟨2, (some 12), .mv (.t 2), 0, none⟩, ⟨3, (some 13), .len none (.t 12), 0, none⟩, ⟨4, (some 14), .bin .neq (.t 11) (.t 13), 0, none⟩] [1, 2, 3, 14])
    (.cond (.t 14)
     (.seq
      (.reg false [⟨0, (some 6), .mv (.c (.int .i64 (7))), 0, none⟩] [6])
      (.ret))
     (.skip)))
   (.seq
    (.seq
     (.reg false [⟨0, (some 15), .mv (.t 1), 0, none⟩, ⟨1, (some 16), .len none (.t 15), 0, none⟩, ⟨2, (some 17), .bin .lss (.t 16) (.c (.int .i64 (1))), 0, none⟩, ⟨3, (some 18), .mv (.t 17), 0, none⟩, ⟨4, (some 19), .mv (.t 1), 0, (some (18, false))⟩, ⟨5, (some 20), .len none (.t 19), 0, (some (18, false))⟩, ⟨6, (some 21), .bin .gtr (.t 20) (.c (.int .i64 (64))), 0, (some (18, false))⟩, ⟨7, (some 22), .pick (.t 18) (.c (.bool true)) (.t 21), 0, none⟩] [1, 2, 3, 22])
     (.cond (.t 22)
      (.seq
       (.reg false [⟨0, (some 6), .mv (.c (.int .i64 (2))), 0, none⟩] [6])
       (.ret))
      (.skip)))
    (.seq
     (.seq
      (.reg false [⟨0, (some 7), .mv (.c (.int .i64 (0))), 0, none⟩] [1, 2, 3, 7])
      (.blk 0
       (.loop [1, 2, 3, 7]
        (.seq
         (.seq
          (.reg false [⟨0, (some 23), .mv (.t 7), 0, none⟩, ⟨1, (some 24), .mv (.t 1), 0, none⟩, ⟨2, (some 25), .len none (.t 24), 0, none⟩, ⟨3, (some 26), .bin .lss (.t 23) (.t 25), 0, none⟩] [1, 2, 3, 7, 26])
          (.cond (.t 26)
           (.skip)
           (.exit 0)))
         (.seq
          (.blk 1
           (.seq
            (.reg true [⟨0, (some 29), .mv (.t 1), 0, none⟩, ⟨1, (some 30), .mv (.t 7), 0, none⟩, ⟨2, (some 31), .iaddr none 1 (.t 29) (.t 30), 0, none⟩, ⟨3, (some 32), .load none (.t 31), 0, none⟩, ⟨4, (some 33), .bin .lss (.t 32) (.c (.int .i64 (1))), 0, none⟩, ⟨5, (some 34), .mv (.t 33), 0, none⟩, ⟨6, (some 35), .mv (.t 1), 0, (some (34, false))⟩, ⟨7, (some 36), .mv (.t 7), 0, (some (34, false))⟩, ⟨8, (some 37), .iaddr none 1 (.t 35) (.t 36), 0, (some (34, false))⟩, ⟨10, (some 39), .faddr 1 (.t 3), 0, (some (34, false))⟩, ⟨9, (some 38), .load none (.t 37), 0, (some (34, false))⟩, ⟨11, (some 40), .load none (.t 39), 0, (some (34, false))⟩, ⟨12, (some 41), .bin .geq (.t 38) (.t 40), 0, (some (34, false))⟩, ⟨13, (some 42), .pick (.t 34) (.c (.bool true)) (.t 41), 0, none⟩, ⟨14, (some 43), .mv (.t 42), 0, none⟩, ⟨16, (some 45), .mv (.t 2), 0, (some (43, false))⟩, ⟨17, (some 46), .mv (.t 7), 0, (some (43, false))⟩, ⟨18, (some 47), .iaddr none 1 (.t 45) (.t 46), 0, (some (43, false))⟩, ⟨15, (some 44), .load (some 3) (.t 3), 0, (some (43, false))⟩, ⟨19, (some 48), .load none (.t 47), 0, (some (43, false))⟩, ⟨20, (some 49), .call 50 [.t 44, .t 48], 2, (some (43, false))⟩, ⟨21, (some 50), .un .not (.t 49), 0, (some (43, false))⟩, ⟨22, (some 51), .pick (.t 43) (.c (.bool true)) (.t 50), 0, none⟩] [1, 2, 3, 7, 51])
            (.cond (.t 51)
             (.seq
              (.reg false [⟨0, (some 6), .mv (.c (.int .i64 (1))), 0, none⟩] [6])
              (.ret))
             (.skip))))
          (.reg false [⟨0, (some 27), .mv (.t 7), 0, none⟩, ⟨1, (some 28), .bin .add (.t 27) (.c (.int .i64 (1))), 0, none⟩, ⟨2, (some 7), .mv (.t 28), 0, none⟩] [1, 2, 3, 7]))))))
     (.seq
      (.seq
       (.reg false [⟨0, (some 8), .mv (.c (.int .i64 (0))), 0, none⟩] [1, 8])
       (.blk 2
        (.loop [1, 8]
         (.seq
          (.seq
           (.reg false [⟨0, (some 52), .mv (.t 8), 0, none⟩, ⟨1, (some 53), .mv (.t 1), 0, none⟩, ⟨2, (some 54), .len none (.t 53), 0, none⟩, ⟨3, (some 55), .bin .lss (.t 52) (.t 54), 0, none⟩] [1, 8, 55])
           (.cond (.t 55)
            (.skip)
            (.exit 2)))
          (.seq
           (.blk 3
            (.seq
             (.reg false [⟨0, (some 9), .mv (.c (.int .i64 (0))), 0, none⟩] [1, 8, 9])
             (.blk 4
              (.loop [1, 8, 9]
               (.seq
                (.seq
                 (.reg false [⟨0, (some 58), .mv (.t 9), 0, none⟩, ⟨1, (some 59), .mv (.t 8), 0, none⟩, ⟨2, (some 60), .bin .lss (.t 58) (.t 59), 0, none⟩] [1, 8, 9, 60])
                 (.cond (.t 60)
                  (.skip)
                  (.exit 4)))
                (.seq
                 (.blk 5
                  (.seq
                   (.reg true [⟨0, (some 63), .mv (.t 1), 0, none⟩, ⟨1, (some 64), .mv (.t 8), 0, none⟩, ⟨2, (some 65), .iaddr none 1 (.t 63) (.t 64), 0, none⟩, ⟨4, (some 67), .mv (.t 1), 0, none⟩, ⟨5, (some 68), .mv (.t 9), 0, none⟩, ⟨6, (some 69), .iaddr none 1 (.t 67) (.t 68), 0, none⟩, ⟨3, (some 66), .load none (.t 65), 0, none⟩, ⟨7, (some 70), .load none (.t 69), 0, none⟩, ⟨8, (some 71), .bin .eql (.t 66) (.t 70), 0, none⟩] [1, 8, 9, 71])
                   (.cond (.t 71)
                    (.seq
                     (.reg false [⟨0, (some 6), .mv (.c (.int .i64 (81))), 0, none⟩] [6])
                     (.ret))
                    (.skip))))
                 (.reg false [⟨0, (some 61), .mv (.t 9), 0, none⟩, ⟨1, (some 62), .bin .add (.t 61) (.c (.int .i64 (1))), 0, none⟩, ⟨2, (some 9), .mv (.t 62), 0, none⟩] [1, 8, 9])))))))
           (.reg false [⟨0, (some 56), .mv (.t 8), 0, none⟩, ⟨1, (some 57), .bin .add (.t 56) (.c (.int .i64 (1))), 0, none⟩, ⟨2, (some 8), .mv (.t 57), 0, none⟩] [1, 8]))))))
      (.seq
       (.reg false [⟨0, (some 6), .mv (.c (.int .i64 (0))), 0, none⟩] [6])
       (.ret))))))

theorem ok20 : okF Tryz.prog 20 3 c20 [.tmp 6] = true := by kernel_rfl

/-- dauber/dauberref08.Heal -/
def c21 : C :=
 .seq
  (.reg false [⟨0, (some 4), .box 3 (.t 0), 0, none⟩, ⟨1, (some 8), .mv (.c (.int .i64 (0))), 0, none⟩, ⟨2, (some 9), .mv (.c (.nils)), 0, none⟩, ⟨3, (some 10), .mv (.c (.bool false)), 0, none⟩] [1, 2, 3, 4])
  (.seq
   (.reg true [⟨0, (some 18), .faddr 1 (.t 4), 0, none⟩, ⟨2, (some 20), .mv (.t 2), 0, none⟩, ⟨4, (some 22), .mv (.t 1), 0, none⟩, ⟨5, (some 23), .bin .add (.t 22) (.c (.int .i64 (1))), 0, none⟩, ⟨1, (some 19), .load none (.t 18), 0, none⟩, ⟨3, (some 21), .call 51 [.t 20], 1, none⟩, ⟨6, (some 24), .build [.int .i64 (0), .nils, .int .i64 (0)] [(0, 1, .t 19), (1, 1, .t 21), (2, 1, .t 23)], 0, none⟩, ⟨7, (some 11), .alloc [.int .i64 (0), .nils, .int .i64 (0)] 3, 0, none⟩, ⟨8, none, .store 3 (.t 11) (.t 24), 0, none⟩] [3, 11])
   (.seq
    (.reg true [⟨1, (some 27), .mv (.t 3), 0, none⟩, ⟨0, (some 26), .load (some 3) (.t 11), 0, none⟩, ⟨2, (some 28), .call 51 [.t 27], 1, none⟩, ⟨3, (some 29), .call 52 [.t 26, .t 28, .c (.nils)], 1, none⟩, ⟨4, (some 25), .mv (.t 29), 0, none⟩, ⟨5, (some 30), .ext 0 (.t 25), 0, none⟩, ⟨6, (some 31), .ext 1 (.t 25), 0, none⟩, ⟨7, (some 12), .mv (.t 30), 0, none⟩, ⟨8, (some 13), .mv (.t 31), 0, none⟩] [3, 11, 12, 13])
    (.seq
     (.seq
      (.reg false [⟨0, (some 32), .mv (.t 13), 0, none⟩, ⟨1, (some 33), .un .not (.t 32), 0, none⟩] [3, 11, 12, 33])
      (.cond (.t 33)
       (.seq
        (.reg false [⟨0, (some 8), .mv (.c (.int .i64 (0))), 0, none⟩, ⟨1, (some 9), .mv (.c (.nils)), 0, none⟩, ⟨2, (some 10), .mv (.c (.bool false)), 0, none⟩] [8, 9, 10])
        (.ret))
       (.skip)))
     (.seq
      (.reg false [⟨0, (some 35), .load (some 3) (.t 11), 0, none⟩, ⟨1, (some 36), .mv (.t 12), 0, none⟩, ⟨2, (some 37), .call 53 [.t 35, .t 36], 2, none⟩, ⟨3, (some 34), .mv (.t 37), 0, none⟩, ⟨4, (some 38), .ext 0 (.t 34), 0, none⟩, ⟨5, (some 39), .ext 1 (.t 34), 0, none⟩, ⟨6, (some 14), .mv (.t 38), 0, none⟩, ⟨7, (some 15), .mv (.t 39), 0, none⟩] [3, 12, 14])
      (.seq
       (.reg false [⟨0, (some 16), .nilo 1, 0, none⟩] [3, 12, 14, 16])
       (.seq
        (.seq
         (.reg false [⟨0, (some 17), .mv (.c (.int .i64 (0))), 0, none⟩] [3, 12, 14, 16, 17])
         (.blk 0
          (.loop [3, 12, 14, 16, 17]
           (.seq
            (.seq
             (.reg false [⟨0, (some 40), .mv (.t 17), 0, none⟩, ⟨1, (some 41), .mv (.t 12), 0, none⟩, ⟨2, (some 42), .len none (.t 41), 0, none⟩, ⟨3, (some 43), .bin .lss (.t 40) (.t 42), 0, none⟩] [3, 12, 14, 16, 17, 43])
             (.cond (.t 43)
              (.skip)
              (.exit 0)))
            (.seq
             (.blk 1
              (.seq
               (.reg true [⟨0, (some 46), .mv (.t 12), 0, none⟩, ⟨1, (some 47), .mv (.t 17), 0, none⟩, ⟨2, (some 48), .iaddr none 1 (.t 46) (.t 47), 0, none⟩, ⟨4, (some 50), .mv (.t 3), 0, none⟩, ⟨5, (some 51), .mv (.t 17), 0, none⟩, ⟨6, (some 52), .iaddr none 1 (.t 50) (.t 51), 0, none⟩, ⟨3, (some 49), .load none (.t 48), 0, none⟩, ⟨7, (some 53), .load none (.t 52), 0, none⟩, ⟨8, (some 54), .bin .neq (.t 49) (.t 53), 0, none⟩] [3, 12, 14, 16, 17, 54])
               (.cond (.t 54)
                (.reg false [⟨0, (some 55), .mv (.t 16), 0, none⟩, ⟨1, (some 56), .mv (.t 17), 0, none⟩, ⟨2, (some 57), .bsl 1 1 [.int .i64 (0)] [(0, 1, .t 56)], 0, none⟩, ⟨3, (some 58), .app 1 8 (.t 55) (.t 57), 0, none⟩, ⟨4, (some 16), .mv (.t 58), 0, none⟩] [3, 12, 14, 16, 17])
                (.skip))))
             (.reg false [⟨0, (some 44), .mv (.t 17), 0, none⟩, ⟨1, (some 45), .bin .add (.t 44) (.c (.int .i64 (1))), 0, none⟩, ⟨2, (some 17), .mv (.t 45), 0, none⟩] [3, 12, 14, 16, 17]))))))
        (.seq
         (.reg false [⟨0, (some 59), .mv (.t 14), 0, none⟩, ⟨1, (some 60), .iaddr none 1 (.t 59) (.c (.int .i64 (0))), 0, none⟩, ⟨2, (some 61), .load none (.t 60), 0, none⟩, ⟨3, (some 62), .mv (.t 16), 0, none⟩, ⟨4, (some 8), .mv (.t 61), 0, none⟩, ⟨5, (some 9), .mv (.t 62), 0, none⟩, ⟨6, (some 10), .mv (.c (.bool true)), 0, none⟩] [8, 9, 10])
         (.ret))))))))

theorem ok21 : okF Tryz.prog 21 4 c21 [.tmp 8, .tmp 9, .tmp 10] = true := by kernel_rfl

/-- dauber/dauberlaw08.places -/
def c22 : C :=
 .seq
  (.reg false [⟨0, (some 3), .box 3 (.t 0), 0, none⟩, ⟨1, (some 6), .mv (.c (.nils)), 0, none⟩] [1, 2, 3])
  (.seq
   (.reg false [⟨0, (some 7), .nilo 1, 0, none⟩] [1, 2, 3, 7])
   (.seq
    (.seq
     (.reg false [⟨0, (some 8), .mv (.c (.int .i64 (0))), 0, none⟩] [1, 2, 3, 7, 8])
     (.blk 0
      (.loop [1, 2, 3, 7, 8]
       (.seq
        (.seq
         (.reg false [⟨0, (some 12), .mv (.t 8), 0, none⟩, ⟨1, (some 13), .mv (.t 1), 0, none⟩, ⟨2, (some 14), .len none (.t 13), 0, none⟩, ⟨3, (some 15), .bin .lss (.t 12) (.t 14), 0, none⟩, ⟨4, (some 16), .mv (.t 15), 0, none⟩, ⟨5, (some 17), .mv (.t 7), 0, (some (16, true))⟩, ⟨6, (some 18), .len none (.t 17), 0, (some (16, true))⟩, ⟨7, (some 19), .mv (.t 2), 0, (some (16, true))⟩, ⟨8, (some 20), .bin .lss (.t 18) (.t 19), 0, (some (16, true))⟩, ⟨9, (some 21), .pick (.t 16) (.t 20) (.c (.bool false)), 0, none⟩] [1, 2, 3, 7, 8, 21])
         (.cond (.t 21)
          (.skip)
          (.exit 0)))
        (.seq
         (.blk 1
          (.seq
           (.reg true [⟨0, (some 24), .mv (.t 1), 0, none⟩, ⟨1, (some 25), .mv (.t 8), 0, none⟩, ⟨2, (some 26), .iaddr none 1 (.t 24) (.t 25), 0, none⟩, ⟨5, (some 29), .faddr 1 (.t 3), 0, none⟩, ⟨3, (some 27), .load none (.t 26), 0, none⟩, ⟨4, (some 28), .cvt .u64 (.t 27), 0, none⟩, ⟨6, (some 30), .load none (.t 29), 0, none⟩, ⟨7, (some 31), .bin .sub (.t 30) (.c (.int .i64 (1))), 0, none⟩, ⟨8, (some 32), .cvt .u64 (.t 31), 0, none⟩, ⟨9, (some 33), .bin .rem (.t 28) (.t 32), 0, none⟩, ⟨10, (some 34), .cvt .i64 (.t 33), 0, none⟩, ⟨11, (some 35), .bin .add (.c (.int .i64 (1))) (.t 34), 0, none⟩, ⟨12, (some 9), .mv (.t 35), 0, none⟩] [1, 2, 3, 7, 8, 9])
           (.seq
            (.reg false [⟨0, (some 10), .mv (.c (.bool true)), 0, none⟩] [1, 2, 3, 7, 8, 9, 10])
            (.seq
             (.seq
              (.reg false [⟨0, (some 11), .mv (.c (.int .i64 (0))), 0, none⟩] [1, 2, 3, 7, 8, 9, 10, 11])
              (.blk 2
               (.loop [1, 2, 3, 7, 8, 9, 10, 11]
                (.seq
                 (.seq
                  (.reg false [⟨0, (some 36), .mv (.t 11), 0, none⟩, ⟨1, (some 37), .mv (.t 7), 0, none⟩, ⟨2, (some 38), .len none (.t 37), 0, none⟩, ⟨3, (some 39), .bin .lss (.t 36) (.t 38), 0, none⟩] [1, 2, 3, 7, 8, 9, 10, 11, 39])
                  (.cond (.t 39)
                   (.skip)
                   (.exit 2)))
                 (.seq
                  (.blk 3
                   (.reg false [⟨0, (some 42), .mv (.t 10), 0, none⟩, ⟨1, (some 43), .mv (.t 42), 0, none⟩, ⟨2, (some 44), .mv (.t 7), 0, (some (43, true))⟩, ⟨3, (some 45), .mv (.t 11), 0, (some (43, true))⟩, ⟨4, (some 46), .iaddr none 1 (.t 44) (.t 45), 0, (some (43, true))⟩, ⟨5, (some 47), .load none (.t 46), 0, (some (43, true))⟩, ⟨6, (some 48), .mv (.t 9), 0, (some (43, true))⟩, ⟨7, (some 49), .bin .neq (.t 47) (.t 48), 0, (some (43, true))⟩, ⟨8, (some 50), .pick (.t 43) (.t 49) (.c (.bool false)), 0, none⟩, ⟨9, (some 10), .mv (.t 50), 0, none⟩] [1, 2, 3, 7, 8, 9, 10, 11]))
                  (.reg false [⟨0, (some 40), .mv (.t 11), 0, none⟩, ⟨1, (some 41), .bin .add (.t 40) (.c (.int .i64 (1))), 0, none⟩, ⟨2, (some 11), .mv (.t 41), 0, none⟩] [1, 2, 3, 7, 8, 9, 10, 11]))))))
             (.seq
              (.reg false [⟨0, (some 51), .mv (.t 10), 0, none⟩] [1, 2, 3, 7, 8, 9, 51])
              (.cond (.t 51)
               (.reg false [⟨0, (some 52), .mv (.t 7), 0, none⟩, ⟨1, (some 53), .mv (.t 9), 0, none⟩, ⟨2, (some 54), .bsl 1 1 [.int .i64 (0)] [(0, 1, .t 53)], 0, none⟩, ⟨3, (some 55), .app 1 8 (.t 52) (.t 54), 0, none⟩, ⟨4, (some 7), .mv (.t 55), 0, none⟩] [1, 2, 3, 7, 8])
               (.skip)))))))
         (.reg false [⟨0, (some 22), .mv (.t 8), 0, none⟩, ⟨1, (some 23), .bin .add (.t 22) (.c (.int .i64 (1))), 0, none⟩, ⟨2, (some 8), .mv (.t 23), 0, none⟩] [1, 2, 3, 7, 8]))))))
    (.seq
     (.seq
      (.reg false [⟨0, (some 56), .mv (.t 7), 0, none⟩, ⟨1, (some 57), .len none (.t 56), 0, none⟩, ⟨2, (some 58), .bin .eql (.t 57) (.c (.int .i64 (0))), 0, none⟩] [7, 58])
      (.cond (.t 58)
       (.reg false [⟨0, (some 59), .bsl 1 1 [.int .i64 (0)] [(0, 1, .c (.int .i64 (1)))], 0, none⟩, ⟨1, (some 7), .mv (.t 59), 0, none⟩] [7])
       (.skip)))
     (.seq
      (.reg false [⟨0, (some 60), .mv (.t 7), 0, none⟩, ⟨1, (some 6), .mv (.t 60), 0, none⟩] [6])
      (.ret)))))

theorem ok22 : okF Tryz.prog 22 3 c22 [.tmp 6] = true := by kernel_rfl

/-- dauber/dauberlaw08.numbers -/
def c23 : C :=
 .seq
  (.reg false [⟨0, (some 3), .box 3 (.t 0), 0, none⟩, ⟨1, (some 6), .mv (.c (.nils)), 0, none⟩] [1, 2, 3])
  (.seq
   (.reg false [⟨0, (some 7), .nilo 1, 0, none⟩] [1, 2, 3, 7])
   (.seq
    (.seq
     (.reg false [⟨0, (some 8), .mv (.c (.int .i64 (0))), 0, none⟩] [1, 2, 3, 7, 8])
     (.blk 0
      (.loop [1, 2, 3, 7, 8]
       (.seq
        (.seq
         (.reg false [⟨0, (some 10), .mv (.t 8), 0, none⟩, ⟨1, (some 11), .mv (.t 2), 0, none⟩, ⟨2, (some 12), .bin .lss (.t 10) (.t 11), 0, none⟩] [1, 2, 3, 7, 8, 12])
         (.cond (.t 12)
          (.skip)
          (.exit 0)))
        (.seq
         (.blk 1
          (.seq
           (.reg false [⟨0, (some 15), .mv (.t 8), 0, none⟩, ⟨1, (some 9), .mv (.t 15), 0, none⟩] [1, 2, 3, 7, 8, 9])
           (.seq
            (.seq
             (.reg false [⟨0, (some 16), .mv (.t 8), 0, none⟩, ⟨1, (some 17), .mv (.t 1), 0, none⟩, ⟨2, (some 18), .len none (.t 17), 0, none⟩, ⟨3, (some 19), .bin .lss (.t 16) (.t 18), 0, none⟩] [1, 2, 3, 7, 8, 9, 19])
             (.cond (.t 19)
              (.reg true [⟨0, (some 20), .mv (.t 1), 0, none⟩, ⟨1, (some 21), .mv (.t 8), 0, none⟩, ⟨2, (some 22), .iaddr none 1 (.t 20) (.t 21), 0, none⟩, ⟨5, (some 25), .faddr 1 (.t 3), 0, none⟩, ⟨3, (some 23), .load none (.t 22), 0, none⟩, ⟨4, (some 24), .cvt .u64 (.t 23), 0, none⟩, ⟨6, (some 26), .load none (.t 25), 0, none⟩, ⟨7, (some 27), .cvt .u64 (.t 26), 0, none⟩, ⟨8, (some 28), .bin .rem (.t 24) (.t 27), 0, none⟩, ⟨9, (some 29), .cvt .i64 (.t 28), 0, none⟩, ⟨10, (some 9), .mv (.t 29), 0, none⟩] [1, 2, 3, 7, 8, 9])
              (.skip)))
            (.reg false [⟨0, (some 30), .mv (.t 7), 0, none⟩, ⟨1, (some 31), .mv (.t 9), 0, none⟩, ⟨2, (some 32), .faddr 1 (.t 3), 0, none⟩, ⟨3, (some 33), .load none (.t 32), 0, none⟩, ⟨4, (some 34), .bin .rem (.t 31) (.t 33), 0, none⟩, ⟨5, (some 35), .bsl 1 1 [.int .i64 (0)] [(0, 1, .t 34)], 0, none⟩, ⟨6, (some 36), .app 1 8 (.t 30) (.t 35), 0, none⟩, ⟨7, (some 7), .mv (.t 36), 0, none⟩] [1, 2, 3, 7, 8]))))
         (.reg false [⟨0, (some 13), .mv (.t 8), 0, none⟩, ⟨1, (some 14), .bin .add (.t 13) (.c (.int .i64 (1))), 0, none⟩, ⟨2, (some 8), .mv (.t 14), 0, none⟩] [1, 2, 3, 7, 8]))))))
    (.seq
     (.reg false [⟨0, (some 37), .mv (.t 7), 0, none⟩, ⟨1, (some 6), .mv (.t 37), 0, none⟩] [6])
     (.ret))))

theorem ok23 : okF Tryz.prog 23 3 c23 [.tmp 6] = true := by kernel_rfl

/-- dauber/dauberref08.Value -/
def c24 : C :=
 .seq
  (.reg false [⟨0, (some 3), .box 3 (.t 0), 0, none⟩, ⟨1, (some 6), .mv (.c (.int .i64 (0))), 0, none⟩] [1, 2, 3])
  (.seq
   (.reg false [⟨0, (some 7), .mv (.c (.int .i64 (0))), 0, none⟩] [1, 2, 3, 7])
   (.seq
    (.seq
     (.reg false [⟨0, (some 9), .mv (.t 1), 0, none⟩, ⟨1, (some 10), .len none (.t 9), 0, none⟩, ⟨2, (some 11), .bin .sub (.t 10) (.c (.int .i64 (1))), 0, none⟩, ⟨3, (some 8), .mv (.t 11), 0, none⟩] [1, 2, 3, 7, 8])
     (.blk 0
      (.loop [1, 2, 3, 7, 8]
       (.seq
        (.seq
         (.reg false [⟨0, (some 12), .mv (.t 8), 0, none⟩, ⟨1, (some 13), .bin .geq (.t 12) (.c (.int .i64 (0))), 0, none⟩] [1, 2, 3, 7, 8, 13])
         (.cond (.t 13)
          (.skip)
          (.exit 0)))
        (.seq
         (.blk 1
          (.reg true [⟨0, (some 16), .mv (.t 7), 0, none⟩, ⟨1, (some 17), .mv (.t 2), 0, none⟩, ⟨2, (some 18), .bin .mul (.t 16) (.t 17), 0, none⟩, ⟨3, (some 19), .mv (.t 1), 0, none⟩, ⟨4, (some 20), .mv (.t 8), 0, none⟩, ⟨5, (some 21), .iaddr none 1 (.t 19) (.t 20), 0, none⟩, ⟨8, (some 24), .faddr 1 (.t 3), 0, none⟩, ⟨6, (some 22), .load none (.t 21), 0, none⟩, ⟨7, (some 23), .bin .add (.t 18) (.t 22), 0, none⟩, ⟨9, (some 25), .load none (.t 24), 0, none⟩, ⟨10, (some 26), .bin .rem (.t 23) (.t 25), 0, none⟩, ⟨11, (some 7), .mv (.t 26), 0, none⟩] [1, 2, 3, 7, 8]))
         (.reg false [⟨0, (some 14), .mv (.t 8), 0, none⟩, ⟨1, (some 15), .bin .sub (.t 14) (.c (.int .i64 (1))), 0, none⟩, ⟨2, (some 8), .mv (.t 15), 0, none⟩] [1, 2, 3, 7, 8]))))))
    (.seq
     (.reg false [⟨0, (some 27), .mv (.t 7), 0, none⟩, ⟨1, (some 6), .mv (.t 27), 0, none⟩] [6])
     (.ret))))

theorem ok24 : okF Tryz.prog 24 3 c24 [.tmp 6] = true := by kernel_rfl

/-- dauber/dauberlaw08.awake -/
def c25 : C :=
 .seq
  (.reg false [⟨0, (some 0), .mv (.c (.bool false)), 0, none⟩] [])
  (.seq
   (.reg false [⟨0, (some 9), .call 9 [.c (.int .i64 (11))], 2, none⟩, ⟨1, (some 8), .mv (.t 9), 0, none⟩, ⟨2, (some 10), .ext 0 (.t 8), 0, none⟩, ⟨3, (some 11), .ext 1 (.t 8), 0, none⟩, ⟨4, (some 1), .alloc [.int .i64 (0), .int .i64 (0), .int .i64 (0)] 3, 0, none⟩, ⟨5, none, .store 3 (.t 1) (.t 10), 0, none⟩, ⟨6, (some 2), .mv (.t 11), 0, none⟩] [1, 2])
   (.seq
    (.reg false [⟨0, (some 13), .load (some 3) (.t 1), 0, none⟩, ⟨1, (some 14), .bsl 1 2 [.int .i64 (0), .int .i64 (0)] [(0, 1, .c (.int .i64 (7))), (1, 1, .c (.int .i64 (3)))], 0, none⟩, ⟨2, (some 15), .call 12 [.t 13, .t 14, .c (.int .i64 (3))], 2, none⟩, ⟨3, (some 12), .mv (.t 15), 0, none⟩, ⟨4, (some 16), .ext 0 (.t 12), 0, none⟩, ⟨5, (some 17), .ext 1 (.t 12), 0, none⟩, ⟨6, (some 3), .mv (.t 16), 0, none⟩, ⟨7, (some 4), .mv (.t 17), 0, none⟩] [1, 2, 3, 4])
    (.seq
     (.reg false [⟨0, (some 19), .load (some 3) (.t 1), 0, none⟩, ⟨1, (some 20), .bsl 1 4 [.int .i64 (0), .int .i64 (0), .int .i64 (0), .int .i64 (0)] [(0, 1, .c (.int .i64 (1))), (1, 1, .c (.int .i64 (2))), (2, 1, .c (.int .i64 (3))), (3, 1, .c (.int .i64 (4)))], 0, none⟩, ⟨2, (some 21), .bsl 1 4 [.int .i64 (0), .int .i64 (0), .int .i64 (0), .int .i64 (0)] [(0, 1, .c (.int .i64 (10))), (1, 1, .c (.int .i64 (2))), (2, 1, .c (.int .i64 (5))), (3, 1, .c (.int .i64 (0)))], 0, none⟩, ⟨3, (some 22), .call 14 [.t 19, .c (.int .i64 (1)), .t 20, .t 21], 2, none⟩, ⟨4, (some 18), .mv (.t 22), 0, none⟩, ⟨5, (some 23), .ext 0 (.t 18), 0, none⟩, ⟨6, (some 24), .ext 1 (.t 18), 0, none⟩, ⟨7, (some 25), .ext 2 (.t 18), 0, none⟩, ⟨8, (some 5), .mv (.t 23), 0, none⟩, ⟨9, (some 6), .mv (.t 24), 0, none⟩, ⟨10, (some 7), .mv (.t 25), 0, none⟩] [1, 2, 3, 4, 5, 6, 7])
     (.seq
      (.reg false [⟨0, (some 26), .mv (.t 2), 0, none⟩, ⟨1, (some 27), .bin .eql (.t 26) (.c (.int .i64 (0))), 0, none⟩, ⟨2, (some 28), .mv (.t 27), 0, none⟩, ⟨3, (some 29), .mv (.t 4), 0, (some (28, true))⟩, ⟨4, (some 30), .bin .eql (.t 29) (.c (.int .i64 (0))), 0, (some (28, true))⟩, ⟨5, (some 31), .pick (.t 28) (.t 30) (.c (.bool false)), 0, none⟩, ⟨6, (some 32), .mv (.t 31), 0, none⟩, ⟨7, (some 33), .mv (.t 7), 0, (some (32, true))⟩, ⟨8, (some 34), .bin .eql (.t 33) (.c (.int .i64 (0))), 0, (some (32, true))⟩, ⟨9, (some 35), .pick (.t 32) (.t 34) (.c (.bool false)), 0, none⟩, ⟨10, (some 36), .mv (.t 35), 0, none⟩, ⟨11, (some 37), .faddr 0 (.t 1), 0, (some (36, true))⟩, ⟨12, (some 38), .load none (.t 37), 0, (some (36, true))⟩, ⟨13, (some 39), .bin .eql (.t 38) (.c (.int .i64 (23))), 0, (some (36, true))⟩, ⟨14, (some 40), .pick (.t 36) (.t 39) (.c (.bool false)), 0, none⟩, ⟨15, (some 41), .mv (.t 40), 0, none⟩, ⟨16, (some 42), .mv (.t 3), 0, (some (41, true))⟩, ⟨17, (some 43), .len none (.t 42), 0, (some (41, true))⟩, ⟨18, (some 44), .bin .eql (.t 43) (.c (.int .i64 (3))), 0, (some (41, true))⟩, ⟨19, (some 45), .pick (.t 41) (.t 44) (.c (.bool false)), 0, none⟩, ⟨20, (some 46), .mv (.t 45), 0, none⟩, ⟨21, (some 47), .mv (.t 3), 0, (some (46, true))⟩, ⟨22, (some 48), .iaddr none 1 (.t 47) (.c (.int .i64 (0))), 0, (some (46, true))⟩, ⟨23, (some 49), .load none (.t 48), 0, (some (46, true))⟩, ⟨24, (some 50), .bin .eql (.t 49) (.c (.int .i64 (10))), 0, (some (46, true))⟩, ⟨25, (some 51), .pick (.t 46) (.t 50) (.c (.bool false)), 0, none⟩, ⟨26, (some 52), .mv (.t 51), 0, none⟩, ⟨27, (some 53), .mv (.t 5), 0, (some (52, true))⟩, ⟨28, (some 54), .bin .eql (.t 53) (.c (.int .i64 (7))), 0, (some (52, true))⟩, ⟨29, (some 55), .pick (.t 52) (.t 54) (.c (.bool false)), 0, none⟩, ⟨30, (some 56), .mv (.t 55), 0, none⟩, ⟨31, (some 57), .mv (.t 6), 0, (some (56, true))⟩, ⟨32, (some 58), .len none (.t 57), 0, (some (56, true))⟩, ⟨33, (some 59), .bin .eql (.t 58) (.c (.int .i64 (1))), 0, (some (56, true))⟩, ⟨34, (some 60), .pick (.t 56) (.t 59) (.c (.bool false)), 0, none⟩, ⟨35, (some 61), .mv (.t 60), 0, none⟩, ⟨36, (some 62), .mv (.t 6), 0, (some (61, true))⟩, ⟨37, (some 63), .iaddr none 1 (.t 62) (.c (.int .i64 (0))), 0, (some (61, true))⟩, ⟨38, (some 64), .load none (.t 63), 0, (some (61, true))⟩, ⟨39, (some 65), .bin .eql (.t 64) (.c (.int .i64 (3))), 0, (some (61, true))⟩, ⟨40, (some 66), .pick (.t 61) (.t 65) (.c (.bool false)), 0, none⟩, ⟨41, (some 0), .mv (.t 66), 0, none⟩] [0])
      (.ret)))))

theorem ok25 : okF Tryz.prog 25 0 c25 [.tmp 0] = true := by kernel_rfl

/-- (dauber/share.Group).Power -/
def c26 : C :=
 .seq
  (.reg false [⟨0, (some 2), .box 3 (.t 0), 0, none⟩, ⟨1, (some 4), .mv (.c (.int .i64 (0))), 0, none⟩, ⟨2, (some 5), .mv (.c (.int .i64 (0))), 0, none⟩] [1, 2])
  (.seq
   (.seq
    (.reg false [⟨0, (some 7), .load (some 3) (.t 2), 0, none⟩, ⟨1, (some 8), .call 54 [.t 7], 2, none⟩, ⟨2, (some 6), .mv (.t 8), 0, none⟩] [1, 2, 6])
    (.seq
     (.reg false [⟨0, (some 9), .mv (.t 6), 0, none⟩, ⟨1, (some 10), .bin .neq (.t 9) (.c (.int .i64 (0))), 0, none⟩] [1, 2, 6, 10])
     (.cond (.t 10)
      (.seq
       (.reg false [⟨0, (some 11), .mv (.t 6), 0, none⟩, ⟨1, (some 4), .mv (.c (.int .i64 (0))), 0, none⟩, ⟨2, (some 5), .mv (.t 11), 0, none⟩] [4, 5])
       (.ret))
      (.skip))))
   (.seq
    (.seq
     (.reg false [⟨0, (some 12), .load (some 3) (.t 2), 0, none⟩, ⟨1, (some 13), .mv (.t 1), 0, none⟩, ⟨2, (some 14), .bsl 1 1 [.int .i64 (0)] [(0, 1, .t 13)], 0, none⟩, ⟨3, (some 15), .call 55 [.t 12, .t 14], 2, none⟩, ⟨4, (some 16), .un .not (.t 15), 0, none⟩] [1, 2, 16])
     (.cond (.t 16)
      (.seq
       (.reg false [⟨0, (some 4), .mv (.c (.int .i64 (0))), 0, none⟩, ⟨1, (some 5), .mv (.c (.int .i64 (1))), 0, none⟩] [4, 5])
       (.ret))
      (.skip)))
    (.seq
     (.reg false [⟨0, (some 17), .load (some 3) (.t 2), 0, none⟩, ⟨1, (some 18), .mv (.t 1), 0, none⟩, ⟨2, (some 19), .call 56 [.t 17, .t 18], 2, none⟩, ⟨3, (some 4), .mv (.t 19), 0, none⟩, ⟨4, (some 5), .mv (.c (.int .i64 (0))), 0, none⟩] [4, 5])
     (.ret))))

theorem ok26 : okF Tryz.prog 26 2 c26 [.tmp 4, .tmp 5] = true := by kernel_rfl

/-- dauber/dauberref08.Power -/
def c27 : C :=
 .seq
  (.reg false [⟨0, (some 2), .box 3 (.t 0), 0, none⟩, ⟨1, (some 4), .mv (.c (.int .i64 (0))), 0, none⟩] [1, 2])
  (.seq
   (.reg false [⟨0, (some 5), .faddr 2 (.t 2), 0, none⟩, ⟨1, (some 6), .load none (.t 5), 0, none⟩, ⟨2, (some 7), .mv (.t 1), 0, none⟩, ⟨3, (some 8), .faddr 0 (.t 2), 0, none⟩, ⟨4, (some 9), .load none (.t 8), 0, none⟩, ⟨5, (some 10), .call 57 [.t 6, .t 7, .t 9], 2, none⟩, ⟨6, (some 4), .mv (.t 10), 0, none⟩] [4])
   (.ret))

theorem ok27 : okF Tryz.prog 27 2 c27 [.tmp 4] = true := by kernel_rfl

/-- (dauber/share.Group).Has -/
def c28 : C :=
 .seq
  (.reg false [⟨0, (some 2), .box 3 (.t 0), 0, none⟩, ⟨1, (some 4), .mv (.c (.bool false)), 0, none⟩] [1, 2])
  (.seq
   (.reg false [⟨0, (some 5), .load (some 3) (.t 2), 0, none⟩, ⟨1, (some 6), .call 54 [.t 5], 2, none⟩, ⟨2, (some 7), .bin .eql (.t 6) (.c (.int .i64 (0))), 0, none⟩, ⟨3, (some 8), .mv (.t 7), 0, none⟩, ⟨4, (some 9), .load (some 3) (.t 2), 0, (some (8, true))⟩, ⟨5, (some 10), .mv (.t 1), 0, (some (8, true))⟩, ⟨6, (some 11), .bsl 1 1 [.int .i64 (0)] [(0, 1, .t 10)], 0, (some (8, true))⟩, ⟨7, (some 12), .call 58 [.t 9, .t 11], 2, (some (8, true))⟩, ⟨8, (some 13), .pick (.t 8) (.t 12) (.c (.bool false)), 0, none⟩, ⟨9, (some 4), .mv (.t 13), 0, none⟩] [4])
   (.ret))

theorem ok28 : okF Tryz.prog 28 2 c28 [.tmp 4] = true := by kernel_rfl

/-- dauber/dauberref08.Has -/
def c29 : C :=
 .seq
  (.reg false [⟨0, (some 2), .box 3 (.t 0), 0, none⟩, ⟨1, (some 4), .mv (.c (.bool false)), 0, none⟩] [1, 2])
  (.seq
   (.reg false [⟨0, (some 5), .mv (.t 1), 0, none⟩, ⟨1, (some 6), .bin .geq (.t 5) (.c (.int .i64 (1))), 0, none⟩, ⟨2, (some 7), .mv (.t 6), 0, none⟩, ⟨3, (some 8), .mv (.t 1), 0, (some (7, true))⟩, ⟨4, (some 9), .faddr 0 (.t 2), 0, (some (7, true))⟩, ⟨5, (some 10), .load none (.t 9), 0, (some (7, true))⟩, ⟨6, (some 11), .bin .lss (.t 8) (.t 10), 0, (some (7, true))⟩, ⟨7, (some 12), .pick (.t 7) (.t 11) (.c (.bool false)), 0, none⟩, ⟨8, (some 13), .mv (.t 12), 0, none⟩, ⟨9, (some 14), .mv (.t 1), 0, (some (13, true))⟩, ⟨10, (some 15), .faddr 1 (.t 2), 0, (some (13, true))⟩, ⟨11, (some 16), .load none (.t 15), 0, (some (13, true))⟩, ⟨12, (some 17), .faddr 0 (.t 2), 0, (some (13, true))⟩, ⟨13, (some 18), .load none (.t 17), 0, (some (13, true))⟩, ⟨14, (some 19), .call 57 [.t 14, .t 16, .t 18], 2, (some (13, true))⟩, ⟨15, (some 20), .bin .eql (.t 19) (.c (.int .i64 (1))), 0, (some (13, true))⟩, ⟨16, (some 21), .pick (.t 13) (.t 20) (.c (.bool false)), 0, none⟩, ⟨17, (some 4), .mv (.t 21), 0, none⟩] [4])
   (.ret))

theorem ok29 : okF Tryz.prog 29 2 c29 [.tmp 4] = true := by kernel_rfl

/-- dauber/share.Sum -/
def c30 : C :=
 .seq
  (.reg false [⟨0, (some 3), .box 3 (.t 0), 0, none⟩, ⟨1, (some 6), .mv (.c (.nils)), 0, none⟩, ⟨2, (some 7), .mv (.c (.int .i64 (0))), 0, none⟩] [1, 2, 3])
  (.seq
   (.seq
    (.reg false [⟨0, (some 14), .mv (.t 1), 0, none⟩, ⟨1, (some 15), .mv (.t 2), 0, none⟩, ⟨2, (some 16), .bsl 1 2 [.nils, .nils] [(0, 1, .t 14), (1, 1, .t 15)], 0, none⟩, ⟨3, (some 17), .len none (.t 16), 0, none⟩, ⟨4, (some 18), .mv (.c (.int .i64 (0))), 0, none⟩] [1, 2, 3, 16, 17, 18])
    (.blk 0
     (.loop [1, 2, 3, 16, 17, 18]
      (.seq
       (.reg false [⟨0, (some 19), .bin .lss (.t 18) (.t 17), 0, none⟩] [1, 2, 3, 16, 17, 18, 19])
       (.seq
        (.cond (.t 19)
         (.skip)
         (.exit 0))
        (.seq
         (.blk 1
          (.seq
           (.reg false [⟨0, (some 20), .iaddr none 1 (.t 16) (.t 18), 0, none⟩, ⟨1, (some 21), .load none (.t 20), 0, none⟩, ⟨2, (some 9), .mv (.t 21), 0, none⟩] [1, 2, 3, 9, 16, 17, 18])
           (.seq
            (.reg false [⟨0, (some 22), .load (some 3) (.t 3), 0, none⟩, ⟨1, (some 23), .mv (.t 9), 0, none⟩, ⟨2, (some 24), .call 35 [.t 22, .t 23], 2, none⟩, ⟨3, (some 10), .mv (.t 24), 0, none⟩] [1, 2, 3, 10, 16, 17, 18])
            (.seq
             (.reg false [⟨0, (some 25), .mv (.t 10), 0, none⟩, ⟨1, (some 26), .bin .neq (.t 25) (.c (.int .i64 (0))), 0, none⟩] [1, 2, 3, 10, 16, 17, 18, 26])
             (.cond (.t 26)
              (.seq
               (.reg false [⟨0, (some 27), .mv (.t 10), 0, none⟩, ⟨1, (some 6), .mv (.c (.nils)), 0, none⟩, ⟨2, (some 7), .mv (.t 27), 0, none⟩] [6, 7])
               (.ret))
              (.skip))))))
         (.reg false [⟨0, (some 28), .bin .add (.t 18) (.c (.int .i64 (1))), 0, none⟩, ⟨1, (some 18), .mv (.t 28), 0, none⟩] [1, 2, 3, 16, 17, 18])))))))
   (.seq
    (.seq
     (.reg false [⟨0, (some 29), .mv (.t 1), 0, none⟩, ⟨1, (some 30), .len none (.t 29), 0, none⟩, ⟨2, (some 31), .mv (.t 2), 0, none⟩, ⟨3, (some 32), .len none (.t 31), 0, none⟩, ⟨4, (some 33), .bin .neq (.t 30) (.t 32), 0, none⟩] [1, 2, 3, 33])
     (.cond (.t 33)
      (.seq
       (.reg false [⟨0, (some 6), .mv (.c (.nils)), 0, none⟩, ⟨1, (some 7), .mv (.c (.int .i64 (7))), 0, none⟩] [6, 7])
       (.ret))
      (.skip)))
    (.seq
     (.reg false [⟨0, (some 11), .nilo 1, 0, none⟩] [1, 2, 3, 11])
     (.seq
      (.seq
       (.reg false [⟨0, (some 34), .mv (.t 1), 0, none⟩, ⟨1, (some 35), .len none (.t 34), 0, none⟩, ⟨2, (some 36), .mv (.c (.int .i64 (0))), 0, none⟩] [2, 3, 11, 34, 35, 36])
       (.blk 2
        (.loop [2, 3, 11, 34, 35, 36]
         (.seq
          (.reg false [⟨0, (some 37), .bin .lss (.t 36) (.t 35), 0, none⟩] [2, 3, 11, 34, 35, 36, 37])
          (.seq
           (.cond (.t 37)
            (.skip)
            (.exit 2))
           (.seq
            (.blk 3
             (.seq
              (.reg false [⟨0, (some 38), .mv (.t 36), 0, none⟩, ⟨1, (some 39), .iaddr none 1 (.t 34) (.t 36), 0, none⟩, ⟨2, (some 40), .load none (.t 39), 0, none⟩, ⟨3, (some 12), .mv (.t 38), 0, none⟩, ⟨4, (some 13), .mv (.t 40), 0, none⟩] [2, 3, 11, 12, 13, 34, 35, 36])
              (.reg true [⟨0, (some 41), .mv (.t 11), 0, none⟩, ⟨3, (some 44), .mv (.t 13), 0, none⟩, ⟨4, (some 45), .mv (.t 2), 0, none⟩, ⟨5, (some 46), .mv (.t 12), 0, none⟩, ⟨6, (some 47), .iaddr none 1 (.t 45) (.t 46), 0, none⟩, ⟨1, (some 42), .load (some 3) (.t 3), 0, none⟩, ⟨7, (some 48), .load none (.t 47), 0, none⟩, ⟨2, (some 43), .call 59 [.t 42], 1, none⟩, ⟨8, (some 49), .call 60 [.t 43, .t 44, .t 48], 1, none⟩, ⟨9, (some 50), .bsl 1 1 [.int .i64 (0)] [(0, 1, .t 49)], 0, none⟩, ⟨10, (some 51), .app 1 8 (.t 41) (.t 50), 0, none⟩, ⟨11, (some 11), .mv (.t 51), 0, none⟩] [2, 3, 11, 34, 35, 36])))
            (.reg false [⟨0, (some 52), .bin .add (.t 36) (.c (.int .i64 (1))), 0, none⟩, ⟨1, (some 36), .mv (.t 52), 0, none⟩] [2, 3, 11, 34, 35, 36])))))))
      (.seq
       (.reg false [⟨0, (some 53), .mv (.t 11), 0, none⟩, ⟨1, (some 6), .mv (.t 53), 0, none⟩, ⟨2, (some 7), .mv (.c (.int .i64 (0))), 0, none⟩] [6, 7])
       (.ret))))))

theorem ok30 : okF Tryz.prog 30 3 c30 [.tmp 6, .tmp 7] = true := by kernel_rfl

/-- dauber/share.Commit -/
def c31 : C :=
 .seq
  (.reg false [⟨0, (some 2), .box 3 (.t 0), 0, none⟩, ⟨1, (some 4), .mv (.c (.nils)), 0, none⟩, ⟨2, (some 5), .mv (.c (.int .i64 (0))), 0, none⟩] [1, 2])
  (.seq
   (.seq
    (.reg false [⟨0, (some 10), .load (some 3) (.t 2), 0, none⟩, ⟨1, (some 11), .mv (.t 1), 0, none⟩, ⟨2, (some 12), .call 35 [.t 10, .t 11], 2, none⟩, ⟨3, (some 6), .mv (.t 12), 0, none⟩] [1, 2, 6])
    (.seq
     (.reg false [⟨0, (some 13), .mv (.t 6), 0, none⟩, ⟨1, (some 14), .bin .neq (.t 13) (.c (.int .i64 (0))), 0, none⟩] [1, 2, 6, 14])
     (.cond (.t 14)
      (.seq
       (.reg false [⟨0, (some 15), .mv (.t 6), 0, none⟩, ⟨1, (some 4), .mv (.c (.nils)), 0, none⟩, ⟨2, (some 5), .mv (.t 15), 0, none⟩] [4, 5])
       (.ret))
      (.skip))))
   (.seq
    (.reg false [⟨0, (some 7), .nilo 1, 0, none⟩] [1, 2, 7])
    (.seq
     (.seq
      (.reg false [⟨0, (some 16), .mv (.t 1), 0, none⟩, ⟨1, (some 17), .len none (.t 16), 0, none⟩, ⟨2, (some 18), .mv (.c (.int .i64 (0))), 0, none⟩] [2, 7, 16, 17, 18])
      (.blk 0
       (.loop [2, 7, 16, 17, 18]
        (.seq
         (.reg false [⟨0, (some 19), .bin .lss (.t 18) (.t 17), 0, none⟩] [2, 7, 16, 17, 18, 19])
         (.seq
          (.cond (.t 19)
           (.skip)
           (.exit 0))
          (.seq
           (.blk 1
            (.seq
             (.reg false [⟨0, (some 20), .iaddr none 1 (.t 16) (.t 18), 0, none⟩, ⟨1, (some 21), .load none (.t 20), 0, none⟩, ⟨2, (some 9), .mv (.t 21), 0, none⟩] [2, 7, 9, 16, 17, 18])
             (.reg false [⟨0, (some 22), .mv (.t 7), 0, none⟩, ⟨1, (some 23), .load (some 3) (.t 2), 0, none⟩, ⟨2, (some 24), .mv (.t 9), 0, none⟩, ⟨3, (some 25), .call 56 [.t 23, .t 24], 2, none⟩, ⟨4, (some 26), .bsl 1 1 [.int .i64 (0)] [(0, 1, .t 25)], 0, none⟩, ⟨5, (some 27), .app 1 8 (.t 22) (.t 26), 0, none⟩, ⟨6, (some 7), .mv (.t 27), 0, none⟩] [2, 7, 16, 17, 18])))
           (.reg false [⟨0, (some 28), .bin .add (.t 18) (.c (.int .i64 (1))), 0, none⟩, ⟨1, (some 18), .mv (.t 28), 0, none⟩] [2, 7, 16, 17, 18])))))))
     (.seq
      (.reg false [⟨0, (some 29), .mv (.t 7), 0, none⟩, ⟨1, (some 4), .mv (.t 29), 0, none⟩, ⟨2, (some 5), .mv (.c (.int .i64 (0))), 0, none⟩] [4, 5])
      (.ret)))))

theorem ok31 : okF Tryz.prog 31 2 c31 [.tmp 4, .tmp 5] = true := by kernel_rfl

/-- dauber/share.in -/
def c32 : C :=
 .seq
  (.reg false [⟨0, (some 3), .box 1 (.t 0), 0, none⟩, ⟨1, (some 4), .box 1 (.t 1), 0, none⟩, ⟨2, (some 6), .mv (.c (.bool false)), 0, none⟩] [2, 3, 4])
  (.seq
   (.reg false [⟨0, (some 7), .mv (.t 2), 0, none⟩, ⟨1, (some 8), .mkfn (.func 62) [] [.t 3, .t 4], 0, none⟩, ⟨2, (some 9), .call 61 [.t 7, .t 8], 2, none⟩, ⟨3, (some 10), .un .not (.t 9), 0, none⟩, ⟨4, (some 6), .mv (.t 10), 0, none⟩] [6])
   (.ret))

theorem ok32 : okF Tryz.prog 32 3 c32 [.tmp 6] = true := by kernel_rfl

/-- dauber/share.isPrime -/
def c33 : C :=
 .seq
  (.reg false [⟨0, (some 2), .mv (.c (.bool false)), 0, none⟩] [0])
  (.seq
   (.seq
    (.reg false [⟨0, (some 3), .mv (.c (.int .i64 (2))), 0, none⟩] [0, 3])
    (.blk 0
     (.loop [0, 3]
      (.seq
       (.seq
        (.reg false [⟨0, (some 4), .mv (.t 3), 0, none⟩, ⟨1, (some 5), .mv (.t 3), 0, none⟩, ⟨2, (some 6), .bin .mul (.t 4) (.t 5), 0, none⟩, ⟨3, (some 7), .mv (.t 0), 0, none⟩, ⟨4, (some 8), .bin .leq (.t 6) (.t 7), 0, none⟩] [0, 3, 8])
        (.cond (.t 8)
         (.skip)
         (.exit 0)))
       (.seq
        (.blk 1
         (.seq
          (.reg false [⟨0, (some 11), .mv (.t 0), 0, none⟩, ⟨1, (some 12), .mv (.t 3), 0, none⟩, ⟨2, (some 13), .bin .rem (.t 11) (.t 12), 0, none⟩, ⟨3, (some 14), .bin .eql (.t 13) (.c (.int .i64 (0))), 0, none⟩] [0, 3, 14])
          (.cond (.t 14)
           (.seq
            (.reg false [⟨0, (some 2), .mv (.c (.bool false)), 0, none⟩] [2])
            (.ret))
           (.skip))))
        (.reg false [⟨0, (some 9), .mv (.t 3), 0, none⟩, ⟨1, (some 10), .bin .add (.t 9) (.c (.int .i64 (1))), 0, none⟩, ⟨2, (some 3), .mv (.t 10), 0, none⟩] [0, 3]))))))
   (.seq
    (.reg false [⟨0, (some 15), .mv (.t 0), 0, none⟩, ⟨1, (some 16), .bin .gtr (.t 15) (.c (.int .i64 (1))), 0, none⟩, ⟨2, (some 2), .mv (.t 16), 0, none⟩] [2])
    (.ret)))

theorem ok33 : okF Tryz.prog 33 1 c33 [.tmp 2] = true := by kernel_rfl

/-- (dauber/share.modulus).power -/
def c34 : C :=
 .seq
  (.reg false [⟨0, (some 3), .box 1 (.t 0), 0, none⟩, ⟨1, (some 6), .mv (.c (.int .i64 (0))), 0, none⟩] [1, 2, 3])
  (.seq
   (.reg false [⟨0, (some 7), .alloc [.nilf] 1, 0, none⟩, ⟨1, none, .store 1 (.t 7) (.c (.clo (.func 63) [] [])), 0, none⟩] [1, 2, 3, 7])
   (.seq
    (.reg false [⟨0, (some 8), .mkfn (.func 65) [] [.t 7, .t 3], 0, none⟩, ⟨1, (some 9), .mv (.t 1), 0, none⟩, ⟨2, (some 10), .load none (.t 3), 0, none⟩, ⟨3, (some 11), .bin .rem (.t 9) (.t 10), 0, none⟩, ⟨4, (some 12), .mv (.t 2), 0, none⟩, ⟨5, (some 13), .call 64 [.t 8, .c (.int .i64 (1)), .t 11, .t 12], 2, none⟩, ⟨6, (some 6), .mv (.t 13), 0, none⟩] [6])
    (.ret)))

theorem ok34 : okF Tryz.prog 34 3 c34 [.tmp 6] = true := by kernel_rfl

/-- dauber/share.checkPoly -/
def c35 : C :=
 .seq
  (.reg false [⟨0, (some 2), .box 3 (.t 0), 0, none⟩, ⟨1, (some 4), .mv (.c (.int .i64 (0))), 0, none⟩] [1, 2])
  (.seq
   (.seq
    (.reg false [⟨0, (some 6), .load (some 3) (.t 2), 0, none⟩, ⟨1, (some 7), .call 54 [.t 6], 2, none⟩, ⟨2, (some 5), .mv (.t 7), 0, none⟩] [1, 2, 5])
    (.seq
     (.reg false [⟨0, (some 8), .mv (.t 5), 0, none⟩, ⟨1, (some 9), .bin .neq (.t 8) (.c (.int .i64 (0))), 0, none⟩] [1, 2, 5, 9])
     (.cond (.t 9)
      (.seq
       (.reg false [⟨0, (some 10), .mv (.t 5), 0, none⟩, ⟨1, (some 4), .mv (.t 10), 0, none⟩] [4])
       (.ret))
      (.skip))))
   (.seq
    (.seq
     (.reg false [⟨0, (some 11), .mv (.t 1), 0, none⟩, ⟨1, (some 12), .len none (.t 11), 0, none⟩, ⟨2, (some 13), .bin .lss (.t 12) (.c (.int .i64 (1))), 0, none⟩, ⟨3, (some 14), .mv (.t 13), 0, none⟩, ⟨4, (some 15), .mv (.t 1), 0, (some (14, false))⟩, ⟨5, (some 16), .len none (.t 15), 0, (some (14, false))⟩, ⟨6, (some 17), .bin .gtr (.t 16) (.c (.int .i64 (16))), 0, (some (14, false))⟩, ⟨7, (some 18), .pick (.t 14) (.c (.bool true)) (.t 17), 0, none⟩] [1, 2, 18])
     (.cond (.t 18)
      (.seq
       (.reg false [⟨0, (some 4), .mv (.c (.int .i64 (2))), 0, none⟩] [4])
       (.ret))
      (.skip)))
    (.seq
     (.seq
      (.reg false [⟨0, (some 19), .load (some 3) (.t 2), 0, none⟩, ⟨1, (some 20), .mv (.t 1), 0, none⟩, ⟨2, (some 21), .call 55 [.t 19, .t 20], 2, none⟩, ⟨3, (some 22), .un .not (.t 21), 0, none⟩] [22])
      (.cond (.t 22)
       (.seq
        (.reg false [⟨0, (some 4), .mv (.c (.int .i64 (1))), 0, none⟩] [4])
        (.ret))
       (.skip)))
     (.seq
      (.reg false [⟨0, (some 4), .mv (.c (.int .i64 (0))), 0, none⟩] [4])
      (.ret)))))

theorem ok35 : okF Tryz.prog 35 2 c35 [.tmp 4] = true := by kernel_rfl

/-- (dauber/share.Group).value -/
def c36 : C :=
 .seq
  (.reg false [⟨0, (some 3), .box 3 (.t 0), 0, none⟩, ⟨1, (some 6), .mv (.c (.int .i64 (0))), 0, none⟩] [1, 2, 3])
  (.seq
   (.reg false [⟨0, (some 7), .mv (.c (.int .i64 (0))), 0, none⟩] [1, 2, 3, 7])
   (.seq
    (.seq
     (.reg false [⟨0, (some 9), .mv (.t 1), 0, none⟩, ⟨1, (some 10), .len none (.t 9), 0, none⟩, ⟨2, (some 11), .bin .sub (.t 10) (.c (.int .i64 (1))), 0, none⟩, ⟨3, (some 8), .mv (.t 11), 0, none⟩] [1, 2, 3, 7, 8])
     (.blk 0
      (.loop [1, 2, 3, 7, 8]
       (.seq
        (.seq
         (.reg false [⟨0, (some 12), .mv (.t 8), 0, none⟩, ⟨1, (some 13), .bin .geq (.t 12) (.c (.int .i64 (0))), 0, none⟩] [1, 2, 3, 7, 8, 13])
         (.cond (.t 13)
          (.skip)
          (.exit 0)))
        (.seq
         (.blk 1
          (.reg true [⟨4, (some 20), .mv (.t 7), 0, none⟩, ⟨5, (some 21), .mv (.t 2), 0, none⟩, ⟨6, (some 22), .faddr 1 (.t 3), 0, none⟩, ⟨10, (some 26), .mv (.t 1), 0, none⟩, ⟨11, (some 27), .mv (.t 8), 0, none⟩, ⟨12, (some 28), .iaddr none 1 (.t 26) (.t 27), 0, none⟩, ⟨0, (some 16), .load (some 3) (.t 3), 0, none⟩, ⟨2, (some 18), .load (some 3) (.t 3), 0, none⟩, ⟨7, (some 23), .load none (.t 22), 0, none⟩, ⟨8, (some 24), .bin .rem (.t 21) (.t 23), 0, none⟩, ⟨13, (some 29), .load none (.t 28), 0, none⟩, ⟨1, (some 17), .call 59 [.t 16], 1, none⟩, ⟨3, (some 19), .call 59 [.t 18], 1, none⟩, ⟨9, (some 25), .call 63 [.t 19, .t 20, .t 24], 1, none⟩, ⟨14, (some 30), .call 60 [.t 17, .t 25, .t 29], 1, none⟩, ⟨15, (some 7), .mv (.t 30), 0, none⟩] [1, 2, 3, 7, 8]))
         (.reg false [⟨0, (some 14), .mv (.t 8), 0, none⟩, ⟨1, (some 15), .bin .sub (.t 14) (.c (.int .i64 (1))), 0, none⟩, ⟨2, (some 8), .mv (.t 15), 0, none⟩] [1, 2, 3, 7, 8]))))))
    (.seq
     (.reg false [⟨0, (some 31), .mv (.t 7), 0, none⟩, ⟨1, (some 6), .mv (.t 31), 0, none⟩] [6])
     (.ret))))

theorem ok36 : okF Tryz.prog 36 3 c36 [.tmp 6] = true := by kernel_rfl

/-- dauber/code.open -/
def c37 : C :=
 .seq
  (.reg false [⟨0, (some 1), .box 3 (.t 0), 0, none⟩, ⟨1, (some 2), .mv (.c (.nilp)), 0, none⟩, ⟨2, (some 3), .mv (.c (.int .i64 (0))), 0, none⟩] [1])
  (.seq
   (.reg false [⟨0, (some 7), .faddr 0 (.t 1), 0, none⟩, ⟨1, (some 8), .load none (.t 7), 0, none⟩, ⟨2, (some 9), .call 45 [.t 8], 2, none⟩, ⟨3, (some 6), .mv (.t 9), 0, none⟩, ⟨4, (some 10), .ext 0 (.t 6), 0, none⟩, ⟨5, (some 11), .ext 1 (.t 6), 0, none⟩, ⟨6, (some 4), .mv (.t 10), 0, none⟩, ⟨7, (some 5), .mv (.t 11), 0, none⟩] [1, 4, 5])
   (.seq
    (.seq
     (.reg false [⟨0, (some 12), .mv (.t 5), 0, none⟩, ⟨1, (some 13), .bin .neq (.t 12) (.c (.int .i64 (0))), 0, none⟩] [1, 4, 5, 13])
     (.cond (.t 13)
      (.seq
       (.reg false [⟨0, (some 14), .mv (.t 5), 0, none⟩, ⟨1, (some 2), .mv (.c (.nilp)), 0, none⟩, ⟨2, (some 3), .mv (.t 14), 0, none⟩] [2, 3])
       (.ret))
      (.skip)))
    (.seq
     (.seq
      (.reg false [⟨0, (some 15), .faddr 1 (.t 1), 0, none⟩, ⟨1, (some 16), .load none (.t 15), 0, none⟩, ⟨2, (some 17), .len none (.t 16), 0, none⟩, ⟨3, (some 18), .bin .gtr (.t 17) (.c (.int .i64 (64))), 0, none⟩] [1, 4, 18])
      (.cond (.t 18)
       (.seq
        (.reg false [⟨0, (some 2), .mv (.c (.nilp)), 0, none⟩, ⟨1, (some 3), .mv (.c (.int .i64 (2))), 0, none⟩] [2, 3])
        (.ret))
       (.skip)))
     (.seq
      (.seq
       (.reg false [⟨0, (some 19), .faddr 2 (.t 1), 0, none⟩, ⟨1, (some 20), .load none (.t 19), 0, none⟩, ⟨2, (some 21), .bin .lss (.t 20) (.c (.int .i64 (1))), 0, none⟩, ⟨3, (some 22), .mv (.t 21), 0, none⟩, ⟨4, (some 23), .faddr 2 (.t 1), 0, (some (22, false))⟩, ⟨5, (some 24), .load none (.t 23), 0, (some (22, false))⟩, ⟨6, (some 25), .faddr 1 (.t 1), 0, (some (22, false))⟩, ⟨7, (some 26), .load none (.t 25), 0, (some (22, false))⟩, ⟨8, (some 27), .len none (.t 26), 0, (some (22, false))⟩, ⟨9, (some 28), .bin .gtr (.t 24) (.t 27), 0, (some (22, false))⟩, ⟨10, (some 29), .pick (.t 22) (.c (.bool true)) (.t 28), 0, none⟩, ⟨11, (some 30), .mv (.t 29), 0, none⟩, ⟨12, (some 31), .faddr 0 (.t 1), 0, (some (30, false))⟩, ⟨13, (some 32), .load none (.t 31), 0, (some (30, false))⟩, ⟨14, (some 33), .faddr 1 (.t 1), 0, (some (30, false))⟩, ⟨15, (some 34), .load none (.t 33), 0, (some (30, false))⟩, ⟨16, (some 35), .call 38 [.t 32, .t 34], 2, (some (30, false))⟩, ⟨17, (some 36), .un .not (.t 35), 0, (some (30, false))⟩, ⟨18, (some 37), .pick (.t 30) (.c (.bool true)) (.t 36), 0, none⟩, ⟨19, (some 38), .mv (.t 37), 0, none⟩, ⟨20, (some 39), .faddr 1 (.t 1), 0, (some (38, false))⟩, ⟨21, (some 40), .load none (.t 39), 0, (some (38, false))⟩, ⟨22, (some 41), .call 66 [.t 40], 2, (some (38, false))⟩, ⟨23, (some 42), .un .not (.t 41), 0, (some (38, false))⟩, ⟨24, (some 43), .pick (.t 38) (.c (.bool true)) (.t 42), 0, none⟩] [1, 4, 43])
       (.cond (.t 43)
        (.seq
         (.reg false [⟨0, (some 2), .mv (.c (.nilp)), 0, none⟩, ⟨1, (some 3), .mv (.c (.int .i64 (1))), 0, none⟩] [2, 3])
         (.ret))
        (.skip)))
      (.seq
       (.reg false [⟨0, (some 44), .load (some 3) (.t 1), 0, none⟩, ⟨1, (some 45), .mv (.t 4), 0, none⟩, ⟨2, (some 46), .build [.int .i64 (0), .nils, .int .i64 (0), .nilp] [(0, 3, .t 44), (3, 1, .t 45)], 0, none⟩, ⟨3, (some 47), .box 4 (.t 46), 0, none⟩, ⟨4, (some 2), .mv (.t 47), 0, none⟩, ⟨5, (some 3), .mv (.c (.int .i64 (0))), 0, none⟩] [2, 3])
       (.ret))))))

theorem ok37 : okF Tryz.prog 37 1 c37 [.tmp 2, .tmp 3] = true := by kernel_rfl

/-- dauber/code.areElements -/
def c38 : C :=
 .seq
  (.reg false [⟨0, (some 2), .box 1 (.t 0), 0, none⟩, ⟨1, (some 4), .mv (.c (.bool false)), 0, none⟩] [1, 2])
  (.seq
   (.reg false [⟨0, (some 5), .mv (.t 1), 0, none⟩, ⟨1, (some 6), .mkfn (.func 68) [] [.t 2], 0, none⟩, ⟨2, (some 7), .call 67 [.t 5, .t 6], 2, none⟩, ⟨3, (some 8), .un .not (.t 7), 0, none⟩, ⟨4, (some 4), .mv (.t 8), 0, none⟩] [4])
   (.ret))

theorem ok38 : okF Tryz.prog 38 2 c38 [.tmp 4] = true := by kernel_rfl

/-- (*dauber/code.works).word -/
def c39 : C :=
 .seq
  (.reg false [⟨0, (some 4), .mv (.c (.nils)), 0, none⟩] [0, 1])
  (.seq
   (.reg false [⟨0, (some 5), .nilo 1, 0, none⟩] [0, 1, 5])
   (.seq
    (.seq
     (.reg false [⟨0, (some 10), .mv (.t 0), 0, none⟩, ⟨1, (some 11), .nilc (.t 10), 0, none⟩, ⟨2, (some 12), .faddr 0 (.t 11), 0, none⟩, ⟨3, (some 13), .faddr 1 (.t 12), 0, none⟩, ⟨4, (some 14), .load none (.t 13), 0, none⟩, ⟨5, (some 15), .len none (.t 14), 0, none⟩, ⟨6, (some 16), .mv (.c (.int .i64 (0))), 0, none⟩] [0, 1, 5, 14, 15, 16])
     (.blk 0
      (.loop [0, 1, 5, 14, 15, 16]
       (.seq
        (.reg false [⟨0, (some 17), .bin .lss (.t 16) (.t 15), 0, none⟩] [0, 1, 5, 14, 15, 16, 17])
        (.seq
         (.cond (.t 17)
          (.skip)
          (.exit 0))
         (.seq
          (.blk 1
           (.seq
            (.reg false [⟨0, (some 18), .iaddr none 1 (.t 14) (.t 16), 0, none⟩, ⟨1, (some 19), .load none (.t 18), 0, none⟩, ⟨2, (some 7), .mv (.t 19), 0, none⟩] [0, 1, 5, 7, 14, 15, 16])
            (.seq
             (.reg false [⟨0, (some 21), .mv (.t 0), 0, none⟩, ⟨1, (some 22), .nilc (.t 21), 0, none⟩, ⟨2, (some 23), .faddr 3 (.t 22), 0, none⟩, ⟨3, (some 24), .load none (.t 23), 0, none⟩, ⟨4, (some 25), .mv (.t 1), 0, none⟩, ⟨5, (some 26), .mv (.t 7), 0, none⟩, ⟨6, (some 27), .call 69 [.t 24, .t 25, .t 26], 2, none⟩, ⟨7, (some 20), .mv (.t 27), 0, none⟩, ⟨8, (some 28), .ext 0 (.t 20), 0, none⟩, ⟨9, (some 29), .ext 1 (.t 20), 0, none⟩, ⟨10, (some 8), .mv (.t 28), 0, none⟩, ⟨11, (some 9), .mv (.t 29), 0, none⟩] [0, 1, 5, 8, 14, 15, 16])
             (.reg false [⟨0, (some 30), .mv (.t 5), 0, none⟩, ⟨1, (some 31), .mv (.t 8), 0, none⟩, ⟨2, (some 32), .bsl 1 1 [.int .i64 (0)] [(0, 1, .t 31)], 0, none⟩, ⟨3, (some 33), .app 1 8 (.t 30) (.t 32), 0, none⟩, ⟨4, (some 5), .mv (.t 33), 0, none⟩] [0, 1, 5, 14, 15, 16]))))
          (.reg false [⟨0, (some 34), .bin .add (.t 16) (.c (.int .i64 (1))), 0, none⟩, ⟨1, (some 16), .mv (.t 34), 0, none⟩] [0, 1, 5, 14, 15, 16])))))))
    (.seq
     (.reg false [⟨0, (some 35), .mv (.t 5), 0, none⟩, ⟨1, (some 4), .mv (.t 35), 0, none⟩] [4])
     (.ret))))

theorem ok39 : okF Tryz.prog 39 2 c39 [.tmp 4] = true := by kernel_rfl

/-- dauber/code.trim -/
def c40 : C :=
 .seq
  (.reg false [⟨0, (some 2), .mv (.c (.nils)), 0, none⟩] [0])
  (.seq
   (.reg false [⟨0, (some 4), .mv (.t 0), 0, none⟩, ⟨1, (some 5), .len none (.t 4), 0, none⟩, ⟨2, (some 3), .mv (.t 5), 0, none⟩] [0, 3])
   (.seq
    (.blk 0
     (.loop [0, 3]
      (.seq
       (.seq
        (.reg false [⟨0, (some 6), .mv (.t 3), 0, none⟩, ⟨1, (some 7), .bin .gtr (.t 6) (.c (.int .i64 (0))), 0, none⟩, ⟨2, (some 8), .mv (.t 7), 0, none⟩, ⟨3, (some 9), .mv (.t 0), 0, (some (8, true))⟩, ⟨4, (some 10), .mv (.t 3), 0, (some (8, true))⟩, ⟨5, (some 11), .bin .sub (.t 10) (.c (.int .i64 (1))), 0, (some (8, true))⟩, ⟨6, (some 12), .iaddr none 1 (.t 9) (.t 11), 0, (some (8, true))⟩, ⟨7, (some 13), .load none (.t 12), 0, (some (8, true))⟩, ⟨8, (some 14), .bin .eql (.t 13) (.c (.int .i64 (0))), 0, (some (8, true))⟩, ⟨9, (some 15), .pick (.t 8) (.t 14) (.c (.bool false)), 0, none⟩] [0, 3, 15])
        (.cond (.t 15)
         (.skip)
         (.exit 0)))
       (.blk 1
        (.reg false [⟨0, (some 16), .mv (.t 3), 0, none⟩, ⟨1, (some 17), .bin .sub (.t 16) (.c (.int .i64 (1))), 0, none⟩, ⟨2, (some 3), .mv (.t 17), 0, none⟩] [0, 3])))))
    (.seq
     (.reg false [⟨0, (some 18), .mv (.t 0), 0, none⟩, ⟨1, (some 19), .mv (.t 3), 0, none⟩, ⟨2, (some 20), .slc none 1 (.t 18) none (some (.t 19)) none, 0, none⟩, ⟨3, (some 21), .call 70 [.t 20], 2, none⟩, ⟨4, (some 2), .mv (.t 21), 0, none⟩] [2])
     (.ret))))

theorem ok40 : okF Tryz.prog 40 1 c40 [.tmp 2] = true := by kernel_rfl

/-- dauber/share.checkShares -/
def c41 : C :=
 .seq
  (.reg false [⟨0, (some 3), .box 3 (.t 0), 0, none⟩, ⟨1, (some 6), .alloc [.int .i64 (0)] 1, 0, none⟩] [1, 2, 3, 6])
  (.seq
   (.seq
    (.reg false [⟨0, (some 12), .load (some 3) (.t 3), 0, none⟩, ⟨1, (some 13), .call 54 [.t 12], 2, none⟩, ⟨2, (some 7), .mv (.t 13), 0, none⟩] [1, 2, 3, 6, 7])
    (.seq
     (.reg false [⟨0, (some 14), .mv (.t 7), 0, none⟩, ⟨1, (some 15), .bin .neq (.t 14) (.c (.int .i64 (0))), 0, none⟩] [1, 2, 3, 6, 7, 15])
     (.cond (.t 15)
      (.seq
       (.reg false [⟨0, (some 16), .mv (.t 7), 0, none⟩, ⟨1, none, .store 1 (.t 6) (.t 16), 0, none⟩] [6])
       (.ret))
      (.skip))))
   (.seq
    (.seq
     (.reg false [⟨0, (some 17), .mv (.t 1), 0, none⟩, ⟨1, (some 18), .len none (.t 17), 0, none⟩, ⟨2, (some 19), .mv (.t 2), 0, none⟩, ⟨3, (some 20), .len none (.t 19), 0, none⟩, ⟨4, (some 21), .bin .neq (.t 18) (.t 20), 0, none⟩] [1, 2, 3, 6, 21])
     (.cond (.t 21)
      (.seq
       (.reg false [⟨0, none, .store 1 (.t 6) (.c (.int .i64 (7))), 0, none⟩] [6])
       (.ret))
      (.skip)))
    (.seq
     (.seq
      (.reg false [⟨0, (some 22), .mv (.t 1), 0, none⟩, ⟨1, (some 23), .len none (.t 22), 0, none⟩, ⟨2, (some 24), .bin .lss (.t 23) (.c (.int .i64 (1))), 0, none⟩, ⟨3, (some 25), .mv (.t 24), 0, none⟩, ⟨4, (some 26), .mv (.t 1), 0, (some (25, false))⟩, ⟨5, (some 27), .len none (.t 26), 0, (some (25, false))⟩, ⟨6, (some 28), .bin .gtr (.t 27) (.c (.int .i64 (64))), 0, (some (25, false))⟩, ⟨7, (some 29), .pick (.t 25) (.c (.bool true)) (.t 28), 0, none⟩] [1, 2, 3, 6, 29])
      (.cond (.t 29)
       (.seq
        (.reg false [⟨0, none, .store 1 (.t 6) (.c (.int .i64 (2))), 0, none⟩] [6])
        (.ret))
       (.skip)))
     (.seq
      (.reg false [⟨0, (some 30), .mkm, 0, none⟩, ⟨1, (some 8), .alloc [.nilm] 1, 0, none⟩, ⟨2, none, .store 1 (.t 8) (.t 30), 0, none⟩] [1, 2, 3, 6, 8])
      (.seq
       (.reg false [⟨0, (some 9), .alloc [.bool false] 1, 0, none⟩, ⟨1, none, .store 1 (.t 9) (.c (.bool false)), 0, none⟩] [1, 2, 3, 6, 8, 9])
       (.seq
        (.seq
         (.reg false [⟨0, (some 31), .mv (.t 1), 0, none⟩, ⟨1, (some 32), .mv (.t 2), 0, none⟩, ⟨2, (some 33), .call 71 [.t 31, .t 32], 2, none⟩] [3, 6, 8, 9, 33])
         (.blk 0
          (.rf (.t 33) [34, 35]
           (.seq
            (.reg false [⟨0, (some 10), .mv (.t 34), 0, none⟩] [3, 6, 8, 9, 10, 35])
            (.reg false [⟨0, (some 11), .mv (.t 35), 0, none⟩] [3, 6, 8, 9, 10, 11]))
           (.blk 1
            (.seq
             (.seq
              (.reg false [⟨0, (some 36), .faddr 1 (.t 3), 0, none⟩, ⟨1, (some 37), .load none (.t 36), 0, none⟩, ⟨2, (some 38), .bin .sub (.t 37) (.c (.int .i64 (1))), 0, none⟩, ⟨3, (some 39), .mv (.t 10), 0, none⟩, ⟨4, (some 40), .bsl 1 1 [.int .i64 (0)] [(0, 1, .t 39)], 0, none⟩, ⟨5, (some 41), .call 32 [.c (.int .i64 (1)), .t 38, .t 40], 2, none⟩, ⟨6, (some 42), .un .not (.t 41), 0, none⟩, ⟨7, (some 43), .mv (.t 42), 0, none⟩, ⟨8, (some 44), .load (some 3) (.t 3), 0, (some (43, false))⟩, ⟨9, (some 45), .mv (.t 11), 0, (some (43, false))⟩, ⟨10, (some 46), .bsl 1 1 [.int .i64 (0)] [(0, 1, .t 45)], 0, (some (43, false))⟩, ⟨11, (some 47), .call 55 [.t 44, .t 46], 2, (some (43, false))⟩, ⟨12, (some 48), .un .not (.t 47), 0, (some (43, false))⟩, ⟨13, (some 49), .pick (.t 43) (.c (.bool true)) (.t 48), 0, none⟩] [6, 8, 9, 10, 49])
              (.cond (.t 49)
               (.seq
                (.reg false [⟨0, none, .store 1 (.t 6) (.c (.int .i64 (1))), 0, none⟩] [])
                (.ret))
               (.skip)))
             (.seq
              (.reg false [⟨0, (some 50), .load none (.t 9), 0, none⟩, ⟨1, (some 51), .mv (.t 50), 0, none⟩, ⟨2, (some 52), .load none (.t 8), 0, (some (51, false))⟩, ⟨3, (some 53), .mv (.t 10), 0, (some (51, false))⟩, ⟨4, (some 54), .lkp 0 (.bool false) false (.t 52) (.t 53), 0, (some (51, false))⟩, ⟨5, (some 55), .pick (.t 51) (.c (.bool true)) (.t 54), 0, none⟩, ⟨6, none, .store 1 (.t 9) (.t 55), 0, none⟩] [8, 10])
              (.reg false [⟨0, (some 56), .load none (.t 8), 0, none⟩, ⟨1, (some 57), .mv (.t 10), 0, none⟩, ⟨2, none, .mput 0 (.t 56) (.t 57) (.c (.bool true)), 0, none⟩] [])))))))
        (.seq
         (.seq
          (.reg false [⟨0, (some 58), .load none (.t 9), 0, none⟩] [6, 58])
          (.cond (.t 58)
           (.seq
            (.reg false [⟨0, none, .store 1 (.t 6) (.c (.int .i64 (81))), 0, none⟩] [6])
            (.ret))
           (.skip)))
         (.seq
          (.reg false [⟨0, none, .store 1 (.t 6) (.c (.int .i64 (0))), 0, none⟩] [6])
          (.ret)))))))))

theorem ok41 : okF Tryz.prog 41 3 c41 [.cell none 6] = true := by kernel_rfl

/-- dauber/share.ints -/
def c42 : C :=
 .seq
  (.reg false [⟨0, (some 2), .mv (.c (.nils)), 0, none⟩] [0])
  (.seq
   (.reg false [⟨0, (some 3), .nilo 1, 0, none⟩] [0, 3])
   (.seq
    (.seq
     (.reg false [⟨0, (some 6), .mv (.t 0), 0, none⟩, ⟨1, (some 7), .len none (.t 6), 0, none⟩, ⟨2, (some 8), .mv (.c (.int .i64 (0))), 0, none⟩] [3, 6, 7, 8])
     (.blk 0
      (.loop [3, 6, 7, 8]
       (.seq
        (.reg false [⟨0, (some 9), .bin .lss (.t 8) (.t 7), 0, none⟩] [3, 6, 7, 8, 9])
        (.seq
         (.cond (.t 9)
          (.skip)
          (.exit 0))
         (.seq
          (.blk 1
           (.seq
            (.reg false [⟨0, (some 10), .iaddr none 1 (.t 6) (.t 8), 0, none⟩, ⟨1, (some 11), .load none (.t 10), 0, none⟩, ⟨2, (some 5), .mv (.t 11), 0, none⟩] [3, 5, 6, 7, 8])
            (.reg false [⟨0, (some 12), .mv (.t 3), 0, none⟩, ⟨1, (some 13), .mv (.t 5), 0, none⟩, ⟨2, (some 14), .bsl 1 1 [.int .i64 (0)] [(0, 1, .t 13)], 0, none⟩, ⟨3, (some 15), .app 1 8 (.t 12) (.t 14), 0, none⟩, ⟨4, (some 3), .mv (.t 15), 0, none⟩] [3, 6, 7, 8])))
          (.reg false [⟨0, (some 16), .bin .add (.t 8) (.c (.int .i64 (1))), 0, none⟩, ⟨1, (some 8), .mv (.t 16), 0, none⟩] [3, 6, 7, 8])))))))
    (.seq
     (.reg false [⟨0, (some 17), .mv (.t 3), 0, none⟩, ⟨1, (some 2), .mv (.t 17), 0, none⟩] [2])
     (.ret))))

theorem ok42 : okF Tryz.prog 42 1 c42 [.tmp 2] = true := by kernel_rfl

/-- dauber/share.longs -/
def c43 : C :=
 .seq
  (.reg false [⟨0, (some 2), .mv (.c (.nils)), 0, none⟩] [0])
  (.seq
   (.reg false [⟨0, (some 3), .nilo 1, 0, none⟩] [0, 3])
   (.seq
    (.seq
     (.reg false [⟨0, (some 6), .mv (.t 0), 0, none⟩, ⟨1, (some 7), .len none (.t 6), 0, none⟩, ⟨2, (some 8), .mv (.c (.int .i64 (0))), 0, none⟩] [3, 6, 7, 8])
     (.blk 0
      (.loop [3, 6, 7, 8]
       (.seq
        (.reg false [⟨0, (some 9), .bin .lss (.t 8) (.t 7), 0, none⟩] [3, 6, 7, 8, 9])
        (.seq
         (.cond (.t 9)
          (.skip)
          (.exit 0))
         (.seq
          (.blk 1
           (.seq
            (.reg false [⟨0, (some 10), .iaddr none 1 (.t 6) (.t 8), 0, none⟩, ⟨1, (some 11), .load none (.t 10), 0, none⟩, ⟨2, (some 5), .mv (.t 11), 0, none⟩] [3, 5, 6, 7, 8])
            (.reg false [⟨0, (some 12), .mv (.t 3), 0, none⟩, ⟨1, (some 13), .mv (.t 5), 0, none⟩, ⟨2, (some 14), .bsl 1 1 [.int .i64 (0)] [(0, 1, .t 13)], 0, none⟩, ⟨3, (some 15), .app 1 8 (.t 12) (.t 14), 0, none⟩, ⟨4, (some 3), .mv (.t 15), 0, none⟩] [3, 6, 7, 8])))
          (.reg false [⟨0, (some 16), .bin .add (.t 8) (.c (.int .i64 (1))), 0, none⟩, ⟨1, (some 8), .mv (.t 16), 0, none⟩] [3, 6, 7, 8])))))))
    (.seq
     (.reg false [⟨0, (some 17), .mv (.t 3), 0, none⟩, ⟨1, (some 2), .mv (.t 17), 0, none⟩] [2])
     (.ret))))

theorem ok43 : okF Tryz.prog 43 1 c43 [.tmp 2] = true := by kernel_rfl

/-- dauber/code.decoded -/
def c44 : C :=
 .seq
  (.reg false [⟨0, (some 3), .box 3 (.t 0), 0, none⟩, ⟨1, (some 6), .mv (.c (.nils)), 0, none⟩, ⟨2, (some 7), .alloc [.nils, .nils] 2, 0, none⟩, ⟨3, (some 8), .mv (.c (.int .i64 (0))), 0, none⟩] [1, 2, 3, 7])
  (.seq
   (.reg false [⟨0, (some 15), .load (some 3) (.t 3), 0, none⟩, ⟨1, (some 16), .call 37 [.t 15], 2, none⟩, ⟨2, (some 14), .mv (.t 16), 0, none⟩, ⟨3, (some 17), .ext 0 (.t 14), 0, none⟩, ⟨4, (some 18), .ext 1 (.t 14), 0, none⟩, ⟨5, (some 9), .mv (.t 17), 0, none⟩, ⟨6, (some 8), .mv (.t 18), 0, none⟩] [1, 2, 7, 8, 9])
   (.seq
    (.seq
     (.reg false [⟨0, (some 19), .mv (.t 8), 0, none⟩, ⟨1, (some 20), .bin .neq (.t 19) (.c (.int .i64 (0))), 0, none⟩] [1, 2, 7, 8, 9, 20])
     (.cond (.t 20)
      (.seq
       (.reg false [⟨0, (some 21), .build [.nils, .nils] [], 0, none⟩, ⟨1, (some 22), .mv (.t 8), 0, none⟩, ⟨2, (some 6), .mv (.c (.nils)), 0, none⟩, ⟨3, none, .store 2 (.t 7) (.t 21), 0, none⟩, ⟨4, (some 8), .mv (.t 22), 0, none⟩] [6, 7, 8])
       (.ret))
      (.skip)))
    (.seq
     (.seq
      (.reg false [⟨0, (some 23), .mv (.t 9), 0, none⟩, ⟨1, (some 24), .mv (.t 1), 0, none⟩, ⟨2, (some 25), .mv (.t 2), 0, none⟩, ⟨3, (some 26), .call 72 [.t 23, .t 24, .t 25], 2, none⟩, ⟨4, (some 10), .mv (.t 26), 0, none⟩] [1, 2, 7, 9, 10])
      (.seq
       (.reg false [⟨0, (some 27), .mv (.t 10), 0, none⟩, ⟨1, (some 28), .bin .neq (.t 27) (.c (.int .i64 (0))), 0, none⟩] [1, 2, 7, 9, 10, 28])
       (.cond (.t 28)
        (.seq
         (.reg false [⟨0, (some 29), .build [.nils, .nils] [], 0, none⟩, ⟨1, (some 30), .mv (.t 10), 0, none⟩, ⟨2, (some 6), .mv (.c (.nils)), 0, none⟩, ⟨3, none, .store 2 (.t 7) (.t 29), 0, none⟩, ⟨4, (some 8), .mv (.t 30), 0, none⟩] [6, 7, 8])
         (.ret))
        (.skip))))
     (.seq
      (.reg false [⟨0, (some 32), .mv (.t 9), 0, none⟩, ⟨1, (some 33), .mv (.t 1), 0, none⟩, ⟨2, (some 34), .mv (.t 2), 0, none⟩, ⟨3, (some 35), .call 73 [.t 32, .t 33, .t 34], 2, none⟩, ⟨4, (some 31), .mv (.t 35), 0, none⟩, ⟨5, (some 36), .ext 0 (.t 31), 0, none⟩, ⟨6, (some 37), .ext 1 (.t 31), 0, none⟩, ⟨7, (some 11), .mv (.t 36), 0, none⟩, ⟨8, (some 12), .mv (.t 37), 0, none⟩] [1, 2, 7, 9, 11, 12])
      (.seq
       (.reg false [⟨0, (some 39), .mv (.t 9), 0, none⟩, ⟨1, (some 40), .mv (.t 1), 0, none⟩, ⟨2, (some 41), .mv (.t 2), 0, none⟩, ⟨3, (some 42), .mv (.t 11), 0, none⟩, ⟨4, (some 43), .mv (.t 12), 0, none⟩, ⟨5, (some 44), .call 74 [.t 39, .t 40, .t 41, .t 42, .t 43], 2, none⟩, ⟨6, (some 38), .mv (.t 44), 0, none⟩, ⟨7, (some 45), .ext 0 (.t 38), 0, none⟩, ⟨8, (some 46), .ext 1 (.t 38), 0, none⟩, ⟨9, (some 6), .mv (.t 45), 0, none⟩, ⟨10, (some 13), .mv (.t 46), 0, none⟩] [6, 7, 11, 12, 13])
       (.seq
        (.seq
         (.reg false [⟨0, (some 47), .mv (.t 13), 0, none⟩, ⟨1, (some 48), .un .not (.t 47), 0, none⟩] [6, 7, 11, 12, 48])
         (.cond (.t 48)
          (.seq
           (.reg false [⟨0, (some 49), .mv (.t 11), 0, none⟩, ⟨1, (some 50), .mv (.t 12), 0, none⟩, ⟨2, (some 51), .build [.nils, .nils] [(0, 1, .t 49), (1, 1, .t 50)], 0, none⟩, ⟨3, (some 6), .mv (.c (.nils)), 0, none⟩, ⟨4, none, .store 2 (.t 7) (.t 51), 0, none⟩, ⟨5, (some 8), .mv (.c (.int .i64 (30))), 0, none⟩] [6, 7, 8])
           (.ret))
          (.skip)))
        (.seq
         (.reg false [⟨0, (some 52), .mv (.t 6), 0, none⟩, ⟨1, (some 53), .build [.nils, .nils] [], 0, none⟩, ⟨2, (some 6), .mv (.t 52), 0, none⟩, ⟨3, none, .store 2 (.t 7) (.t 53), 0, none⟩, ⟨4, (some 8), .mv (.c (.int .i64 (0))), 0, none⟩] [6, 7, 8])
         (.ret))))))))

theorem ok44 : okF Tryz.prog 44 3 c44 [.tmp 6, .cell (some 2) 7, .tmp 8] = true := by kernel_rfl

/-- dauber/field.New -/
def c45 : C :=
 .seq
  (.reg false [⟨0, (some 2), .mv (.c (.nilp)), 0, none⟩, ⟨1, (some 3), .mv (.c (.int .i64 (0))), 0, none⟩] [0])
  (.seq
   (.seq
    (.reg false [⟨0, (some 9), .mv (.t 0), 0, none⟩, ⟨1, (some 10), .bin .lss (.t 9) (.c (.int .i64 (2))), 0, none⟩, ⟨2, (some 11), .mv (.t 10), 0, none⟩, ⟨3, (some 12), .mv (.t 0), 0, (some (11, false))⟩, ⟨4, (some 13), .bin .gtr (.t 12) (.c (.int .i64 (65536))), 0, (some (11, false))⟩, ⟨5, (some 14), .pick (.t 11) (.c (.bool true)) (.t 13), 0, none⟩] [0, 14])
    (.cond (.t 14)
     (.seq
      (.reg false [⟨0, (some 2), .mv (.c (.nilp)), 0, none⟩, ⟨1, (some 3), .mv (.c (.int .i64 (20))), 0, none⟩] [2, 3])
      (.ret))
     (.skip)))
   (.seq
    (.reg false [⟨0, (some 15), .mv (.t 0), 0, none⟩, ⟨1, (some 16), .call 75 [.t 15], 2, none⟩, ⟨2, (some 4), .mv (.t 16), 0, none⟩] [0, 4])
    (.seq
     (.seq
      (.reg false [⟨0, (some 17), .mv (.t 4), 0, none⟩, ⟨1, (some 18), .len none (.t 17), 0, none⟩, ⟨2, (some 19), .bin .gtr (.t 18) (.c (.int .i64 (1))), 0, none⟩] [0, 4, 19])
      (.cond (.t 19)
       (.seq
        (.reg false [⟨0, (some 2), .mv (.c (.nilp)), 0, none⟩, ⟨1, (some 3), .mv (.c (.int .i64 (20))), 0, none⟩] [2, 3])
        (.ret))
       (.skip)))
     (.seq
      (.reg false [⟨0, (some 20), .mv (.t 0), 0, none⟩, ⟨1, (some 21), .mv (.t 4), 0, none⟩, ⟨2, (some 22), .iaddr none 1 (.t 21) (.c (.int .i64 (0))), 0, none⟩, ⟨3, (some 23), .load none (.t 22), 0, none⟩, ⟨4, (some 24), .build [.nili, .int .i64 (0), .int .i64 (0), .int .i64 (0), .nils, .int .i64 (0)] [(1, 1, .t 20), (2, 1, .t 23)], 0, none⟩, ⟨5, (some 25), .box 6 (.t 24), 0, none⟩, ⟨6, (some 5), .mv (.t 25), 0, none⟩] [0, 5])
      (.seq
       (.seq
        (.reg false [⟨0, (some 26), .mv (.t 0), 0, none⟩, ⟨1, (some 6), .mv (.t 26), 0, none⟩] [0, 5, 6])
        (.blk 0
         (.loop [0, 5, 6]
          (.seq
           (.seq
            (.reg false [⟨0, (some 27), .mv (.t 6), 0, none⟩, ⟨1, (some 28), .bin .gtr (.t 27) (.c (.int .i64 (1))), 0, none⟩] [0, 5, 6, 28])
            (.cond (.t 28)
             (.skip)
             (.exit 0)))
           (.seq
            (.blk 1
             (.reg false [⟨0, (some 35), .mv (.t 5), 0, none⟩, ⟨1, (some 36), .nilc (.t 35), 0, none⟩, ⟨2, (some 37), .faddr 3 (.t 36), 0, none⟩, ⟨3, (some 38), .load none (.t 37), 0, none⟩, ⟨4, (some 39), .bin .add (.t 38) (.c (.int .i64 (1))), 0, none⟩, ⟨5, (some 40), .nilc (.t 35), 0, none⟩, ⟨6, (some 41), .faddr 3 (.t 40), 0, none⟩, ⟨7, none, .store 1 (.t 41) (.t 39), 0, none⟩] [0, 5, 6]))
            (.reg false [⟨0, (some 29), .mv (.t 6), 0, none⟩, ⟨1, (some 30), .mv (.t 5), 0, none⟩, ⟨2, (some 31), .nilc (.t 30), 0, none⟩, ⟨3, (some 32), .faddr 2 (.t 31), 0, none⟩, ⟨4, (some 33), .load none (.t 32), 0, none⟩, ⟨5, (some 34), .bin .quo (.t 29) (.t 33), 0, none⟩, ⟨6, (some 6), .mv (.t 34), 0, none⟩] [0, 5, 6]))))))
       (.seq
        (.reg false [⟨0, (some 42), .mv (.t 5), 0, none⟩, ⟨1, (some 43), .nilc (.t 42), 0, none⟩, ⟨2, (some 44), .faddr 2 (.t 43), 0, none⟩, ⟨3, (some 45), .load none (.t 44), 0, none⟩, ⟨4, (some 46), .build [.int .i64 (0)] [(0, 1, .t 45)], 0, none⟩, ⟨5, (some 7), .alloc [.int .i64 (0)] 1, 0, none⟩, ⟨6, none, .store 1 (.t 7) (.t 46), 0, none⟩] [0, 5, 7])
        (.seq
         (.seq
          (.reg false [⟨0, (some 47), .mv (.t 5), 0, none⟩, ⟨1, (some 48), .nilc (.t 47), 0, none⟩, ⟨2, (some 49), .faddr 3 (.t 48), 0, none⟩, ⟨3, (some 50), .load none (.t 49), 0, none⟩, ⟨4, (some 51), .bin .eql (.t 50) (.c (.int .i64 (1))), 0, none⟩] [0, 5, 7, 51])
          (.cond (.t 51)
           (.seq
            (.reg false [⟨0, (some 52), .mv (.t 5), 0, none⟩, ⟨1, (some 53), .mv (.t 5), 0, none⟩, ⟨2, (some 54), .load (some 1) (.t 7), 0, none⟩, ⟨3, (some 55), .mkif 132 (.t 54), 0, none⟩, ⟨4, (some 56), .bsl 1 2 [.int .i64 (0), .int .i64 (0)] [(0, 1, .c (.int .i64 (0))), (1, 1, .c (.int .i64 (1)))], 0, none⟩, ⟨5, (some 57), .nilc (.t 52), 0, none⟩, ⟨6, (some 58), .faddr 0 (.t 57), 0, none⟩, ⟨7, none, .store 1 (.t 58) (.t 55), 0, none⟩, ⟨8, (some 59), .nilc (.t 53), 0, none⟩, ⟨9, (some 60), .faddr 4 (.t 59), 0, none⟩, ⟨10, none, .store 1 (.t 60) (.t 56), 0, none⟩] [5, 7])
            (.seq
             (.reg false [⟨0, (some 61), .mv (.t 5), 0, none⟩, ⟨1, (some 62), .mv (.t 5), 0, none⟩, ⟨2, (some 63), .load (some 1) (.t 7), 0, none⟩, ⟨3, (some 64), .mkif 132 (.t 63), 0, none⟩, ⟨4, (some 65), .call 76 [.t 62, .t 64], 2, none⟩, ⟨5, (some 66), .nilc (.t 61), 0, none⟩, ⟨6, (some 67), .faddr 5 (.t 66), 0, none⟩, ⟨7, none, .store 1 (.t 67) (.t 65), 0, none⟩] [5])
             (.seq
              (.reg false [⟨0, (some 68), .mv (.t 5), 0, none⟩, ⟨1, (some 2), .mv (.t 68), 0, none⟩, ⟨2, (some 3), .mv (.c (.int .i64 (0))), 0, none⟩] [2, 3])
              (.ret))))
           (.skip)))
         (.seq
          (.reg true [⟨0, (some 69), .mv (.t 5), 0, none⟩, ⟨1, (some 70), .mv (.t 5), 0, none⟩, ⟨2, (some 71), .nilc (.t 70), 0, none⟩, ⟨3, (some 72), .faddr 2 (.t 71), 0, none⟩, ⟨5, (some 74), .mv (.t 5), 0, none⟩, ⟨6, (some 75), .nilc (.t 74), 0, none⟩, ⟨7, (some 76), .faddr 3 (.t 75), 0, none⟩, ⟨9, (some 78), .mv (.t 0), 0, none⟩, ⟨4, (some 73), .load none (.t 72), 0, none⟩, ⟨8, (some 77), .load none (.t 76), 0, none⟩, ⟨10, (some 79), .call 77 [.t 73, .t 77, .t 78], 2, none⟩, ⟨11, (some 80), .nilc (.t 69), 0, none⟩, ⟨12, (some 81), .faddr 4 (.t 80), 0, none⟩, ⟨13, none, .store 1 (.t 81) (.t 79), 0, none⟩] [0, 5, 7])
          (.seq
           (.reg true [⟨1, (some 83), .mv (.t 5), 0, none⟩, ⟨2, (some 84), .nilc (.t 83), 0, none⟩, ⟨3, (some 85), .faddr 4 (.t 84), 0, none⟩, ⟨5, (some 87), .mv (.t 0), 0, none⟩, ⟨0, (some 82), .load (some 1) (.t 7), 0, none⟩, ⟨4, (some 86), .load none (.t 85), 0, none⟩, ⟨6, (some 88), .build [.int .i64 (0), .nils, .int .i64 (0)] [(0, 1, .t 82), (1, 1, .t 86), (2, 1, .t 87)], 0, none⟩, ⟨7, (some 8), .alloc [.int .i64 (0), .nils, .int .i64 (0)] 3, 0, none⟩, ⟨8, none, .store 3 (.t 8) (.t 88), 0, none⟩] [5, 8])
           (.seq
            (.reg false [⟨0, (some 89), .mv (.t 5), 0, none⟩, ⟨1, (some 90), .mv (.t 5), 0, none⟩, ⟨2, (some 91), .load (some 3) (.t 8), 0, none⟩, ⟨3, (some 92), .mkif 136 (.t 91), 0, none⟩, ⟨4, (some 93), .call 76 [.t 90, .t 92], 2, none⟩, ⟨5, (some 94), .nilc (.t 89), 0, none⟩, ⟨6, (some 95), .faddr 5 (.t 94), 0, none⟩, ⟨7, none, .store 1 (.t 95) (.t 93), 0, none⟩] [5, 8])
            (.seq
             (.reg true [⟨0, (some 96), .mv (.t 5), 0, none⟩, ⟨2, (some 98), .mv (.t 5), 0, none⟩, ⟨3, (some 99), .nilc (.t 98), 0, none⟩, ⟨4, (some 100), .faddr 5 (.t 99), 0, none⟩, ⟨1, (some 97), .load (some 3) (.t 8), 0, none⟩, ⟨5, (some 101), .load none (.t 100), 0, none⟩, ⟨6, (some 102), .call 78 [.t 97, .t 101], 2, none⟩, ⟨7, (some 103), .mkif 137 (.t 102), 0, none⟩, ⟨8, (some 104), .nilc (.t 96), 0, none⟩, ⟨9, (some 105), .faddr 0 (.t 104), 0, none⟩, ⟨10, none, .store 1 (.t 105) (.t 103), 0, none⟩] [5])
             (.seq
              (.reg false [⟨0, (some 106), .mv (.t 5), 0, none⟩, ⟨1, (some 2), .mv (.t 106), 0, none⟩, ⟨2, (some 3), .mv (.c (.int .i64 (0))), 0, none⟩] [2, 3])
              (.ret)))))))))))))

theorem ok45 : okF Tryz.prog 45 1 c45 [.tmp 2, .tmp 3] = true := by kernel_rfl

/-- dauber/draw.Check -/
def c46 : C :=
 .seq
  (.reg false [⟨0, (some 1), .box 6 (.t 0), 0, none⟩, ⟨1, (some 2), .mv (.c (.int .i64 (0))), 0, none⟩] [1])
  (.seq
   (.seq
    (.reg false [⟨0, (some 4), .faddr 0 (.t 1), 0, none⟩, ⟨1, (some 5), .load (some 3) (.t 4), 0, none⟩, ⟨2, (some 6), .call 54 [.t 5], 2, none⟩, ⟨3, (some 3), .mv (.t 6), 0, none⟩] [1, 3])
    (.seq
     (.reg false [⟨0, (some 7), .mv (.t 3), 0, none⟩, ⟨1, (some 8), .bin .neq (.t 7) (.c (.int .i64 (0))), 0, none⟩] [1, 3, 8])
     (.cond (.t 8)
      (.seq
       (.reg false [⟨0, (some 9), .mv (.t 3), 0, none⟩, ⟨1, (some 2), .mv (.t 9), 0, none⟩] [2])
       (.ret))
      (.skip))))
   (.seq
    (.seq
     (.reg false [⟨0, (some 10), .faddr 3 (.t 1), 0, none⟩, ⟨1, (some 11), .load none (.t 10), 0, none⟩, ⟨2, (some 12), .bin .lss (.t 11) (.c (.int .i64 (2))), 0, none⟩, ⟨3, (some 13), .mv (.t 12), 0, none⟩, ⟨4, (some 14), .faddr 3 (.t 1), 0, (some (13, false))⟩, ⟨5, (some 15), .load none (.t 14), 0, (some (13, false))⟩, ⟨6, (some 16), .bin .gtr (.t 15) (.c (.int .i64 (16))), 0, (some (13, false))⟩, ⟨7, (some 17), .pick (.t 13) (.c (.bool true)) (.t 16), 0, none⟩, ⟨8, (some 18), .mv (.t 17), 0, none⟩, ⟨9, (some 19), .faddr 3 (.t 1), 0, (some (18, false))⟩, ⟨10, (some 20), .load none (.t 19), 0, (some (18, false))⟩, ⟨11, (some 21), .faddr 0 (.t 1), 0, (some (18, false))⟩, ⟨12, (some 22), .faddr 1 (.t 21), 0, (some (18, false))⟩, ⟨13, (some 23), .load none (.t 22), 0, (some (18, false))⟩, ⟨14, (some 24), .bin .geq (.t 20) (.t 23), 0, (some (18, false))⟩, ⟨15, (some 25), .pick (.t 18) (.c (.bool true)) (.t 24), 0, none⟩, ⟨16, (some 26), .mv (.t 25), 0, none⟩, ⟨17, (some 27), .faddr 4 (.t 1), 0, (some (26, false))⟩, ⟨18, (some 28), .load none (.t 27), 0, (some (26, false))⟩, ⟨19, (some 29), .bin .lss (.t 28) (.c (.int .i64 (0))), 0, (some (26, false))⟩, ⟨20, (some 30), .pick (.t 26) (.c (.bool true)) (.t 29), 0, none⟩, ⟨21, (some 31), .mv (.t 30), 0, none⟩, ⟨22, (some 32), .faddr 4 (.t 1), 0, (some (31, false))⟩, ⟨23, (some 33), .load none (.t 32), 0, (some (31, false))⟩, ⟨24, (some 34), .faddr 3 (.t 1), 0, (some (31, false))⟩, ⟨25, (some 35), .load none (.t 34), 0, (some (31, false))⟩, ⟨26, (some 36), .bin .geq (.t 33) (.t 35), 0, (some (31, false))⟩, ⟨27, (some 37), .pick (.t 31) (.c (.bool true)) (.t 36), 0, none⟩, ⟨28, (some 38), .mv (.t 37), 0, none⟩, ⟨29, (some 39), .faddr 5 (.t 1), 0, (some (38, false))⟩, ⟨30, (some 40), .load none (.t 39), 0, (some (38, false))⟩, ⟨31, (some 41), .bin .lss (.t 40) (.c (.int .i64 (1))), 0, (some (38, false))⟩, ⟨32, (some 42), .pick (.t 38) (.c (.bool true)) (.t 41), 0, none⟩, ⟨33, (some 43), .mv (.t 42), 0, none⟩, ⟨34, (some 44), .faddr 5 (.t 1), 0, (some (43, false))⟩, ⟨35, (some 45), .load none (.t 44), 0, (some (43, false))⟩, ⟨36, (some 46), .bin .gtr (.t 45) (.c (.int .i64 (90))), 0, (some (43, false))⟩, ⟨37, (some 47), .pick (.t 43) (.c (.bool true)) (.t 46), 0, none⟩] [47])
     (.cond (.t 47)
      (.seq
       (.reg false [⟨0, (some 2), .mv (.c (.int .i64 (1))), 0, none⟩] [2])
       (.ret))
      (.skip)))
    (.seq
     (.reg false [⟨0, (some 2), .mv (.c (.int .i64 (0))), 0, none⟩] [2])
     (.ret))))

theorem ok46 : okF Tryz.prog 46 1 c46 [.tmp 2] = true := by kernel_rfl

/-- (*dauber/code.works).checkWord -/
def c47 : C :=
 .seq
  (.reg false [⟨0, (some 4), .mv (.c (.int .i64 (0))), 0, none⟩] [0, 1])
  (.seq
   (.seq
    (.reg false [⟨0, (some 5), .mv (.t 1), 0, none⟩, ⟨1, (some 6), .len none (.t 5), 0, none⟩, ⟨2, (some 7), .mv (.t 0), 0, none⟩, ⟨3, (some 8), .nilc (.t 7), 0, none⟩, ⟨4, (some 9), .faddr 0 (.t 8), 0, none⟩, ⟨5, (some 10), .faddr 1 (.t 9), 0, none⟩, ⟨6, (some 11), .load none (.t 10), 0, none⟩, ⟨7, (some 12), .len none (.t 11), 0, none⟩, ⟨8, (some 13), .bin .neq (.t 6) (.t 12), 0, none⟩] [0, 1, 13])
    (.cond (.t 13)
     (.seq
      (.reg false [⟨0, (some 4), .mv (.c (.int .i64 (7))), 0, none⟩] [4])
      (.ret))
     (.skip)))
   (.seq
    (.seq
     (.reg false [⟨0, (some 14), .mv (.t 0), 0, none⟩, ⟨1, (some 15), .nilc (.t 14), 0, none⟩, ⟨2, (some 16), .faddr 0 (.t 15), 0, none⟩, ⟨3, (some 17), .faddr 0 (.t 16), 0, none⟩, ⟨4, (some 18), .load none (.t 17), 0, none⟩, ⟨5, (some 19), .mv (.t 1), 0, none⟩, ⟨6, (some 20), .call 38 [.t 18, .t 19], 2, none⟩, ⟨7, (some 21), .un .not (.t 20), 0, none⟩] [21])
     (.cond (.t 21)
      (.seq
       (.reg false [⟨0, (some 4), .mv (.c (.int .i64 (1))), 0, none⟩] [4])
       (.ret))
      (.skip)))
    (.seq
     (.reg false [⟨0, (some 4), .mv (.c (.int .i64 (0))), 0, none⟩] [4])
     (.ret))))

theorem ok47 : okF Tryz.prog 47 2 c47 [.tmp 4] = true := by kernel_rfl

/-- (*dauber/code.works).message -/
def c48 : C :=
 .seq
  (.reg false [⟨0, (some 4), .mv (.c (.nils)), 0, none⟩, ⟨1, (some 5), .mv (.c (.bool false)), 0, none⟩] [0, 1])
  (.seq
   (.reg true [⟨0, (some 9), .mv (.t 0), 0, none⟩, ⟨1, (some 10), .nilc (.t 9), 0, none⟩, ⟨2, (some 11), .faddr 3 (.t 10), 0, none⟩, ⟨4, (some 13), .mv (.t 0), 0, none⟩, ⟨5, (some 14), .nilc (.t 13), 0, none⟩, ⟨6, (some 15), .faddr 0 (.t 14), 0, none⟩, ⟨7, (some 16), .faddr 1 (.t 15), 0, none⟩, ⟨9, (some 18), .mv (.t 1), 0, none⟩, ⟨3, (some 12), .load none (.t 11), 0, none⟩, ⟨8, (some 17), .load none (.t 16), 0, none⟩, ⟨10, (some 19), .call 79 [.t 12, .t 17, .t 18], 2, none⟩, ⟨11, (some 8), .mv (.t 19), 0, none⟩, ⟨12, (some 20), .ext 0 (.t 8), 0, none⟩, ⟨13, (some 21), .ext 1 (.t 8), 0, none⟩, ⟨14, (some 6), .mv (.t 20), 0, none⟩, ⟨15, (some 7), .mv (.t 21), 0, none⟩] [0, 6])
   (.seq
    (.seq
     (.reg false [⟨0, (some 22), .mv (.t 6), 0, none⟩, ⟨1, (some 23), .len none (.t 22), 0, none⟩, ⟨2, (some 24), .mv (.t 0), 0, none⟩, ⟨3, (some 25), .nilc (.t 24), 0, none⟩, ⟨4, (some 26), .faddr 0 (.t 25), 0, none⟩, ⟨5, (some 27), .faddr 2 (.t 26), 0, none⟩, ⟨6, (some 28), .load none (.t 27), 0, none⟩, ⟨7, (some 29), .bin .gtr (.t 23) (.t 28), 0, none⟩] [0, 6, 29])
     (.cond (.t 29)
      (.seq
       (.reg false [⟨0, (some 4), .mv (.c (.nils)), 0, none⟩, ⟨1, (some 5), .mv (.c (.bool false)), 0, none⟩] [4, 5])
       (.ret))
      (.skip)))
    (.seq
     (.reg false [⟨0, (some 30), .mv (.t 6), 0, none⟩, ⟨1, (some 31), .mv (.t 0), 0, none⟩, ⟨2, (some 32), .nilc (.t 31), 0, none⟩, ⟨3, (some 33), .faddr 0 (.t 32), 0, none⟩, ⟨4, (some 34), .faddr 2 (.t 33), 0, none⟩, ⟨5, (some 35), .load none (.t 34), 0, none⟩, ⟨6, (some 36), .mv (.t 6), 0, none⟩, ⟨7, (some 37), .len none (.t 36), 0, none⟩, ⟨8, (some 38), .bin .sub (.t 35) (.t 37), 0, none⟩, ⟨9, (some 39), .appz 1 8 [.int .i64 (0)] (.t 30) (.t 38), 0, none⟩, ⟨10, (some 4), .mv (.t 39), 0, none⟩, ⟨11, (some 5), .mv (.c (.bool true)), 0, none⟩] [4, 5])
     (.ret))))

theorem ok48 : okF Tryz.prog 48 2 c48 [.tmp 4, .tmp 5] = true := by kernel_rfl

/-- dauber/dauberref08.Find -/
def c49 : C :=
 .seq
  (.reg false [⟨0, (some 2), .alloc [.int .i64 (0), .int .i64 (0), .int .i64 (0)] 3, 0, none⟩, ⟨1, (some 3), .mv (.c (.bool false)), 0, none⟩] [0, 2])
  (.seq
   (.seq
    (.reg false [⟨0, (some 6), .mv (.t 0), 0, none⟩, ⟨1, (some 7), .bin .lss (.t 6) (.c (.int .i64 (3))), 0, none⟩, ⟨2, (some 8), .mv (.t 7), 0, none⟩, ⟨3, (some 9), .mv (.t 0), 0, (some (8, false))⟩, ⟨4, (some 10), .bin .gtr (.t 9) (.c (.int .i64 (65521))), 0, (some (8, false))⟩, ⟨5, (some 11), .pick (.t 8) (.c (.bool true)) (.t 10), 0, none⟩, ⟨6, (some 12), .mv (.t 11), 0, none⟩, ⟨7, (some 13), .mv (.t 0), 0, (some (12, false))⟩, ⟨8, (some 14), .call 80 [.t 13], 2, (some (12, false))⟩, ⟨9, (some 15), .un .not (.t 14), 0, (some (12, false))⟩, ⟨10, (some 16), .pick (.t 12) (.c (.bool true)) (.t 15), 0, none⟩] [0, 2, 16])
    (.cond (.t 16)
     (.seq
      (.reg false [⟨0, (some 17), .build [.int .i64 (0), .int .i64 (0), .int .i64 (0)] [], 0, none⟩, ⟨1, none, .store 3 (.t 2) (.t 17), 0, none⟩, ⟨2, (some 3), .mv (.c (.bool false)), 0, none⟩] [2, 3])
      (.ret))
     (.skip)))
   (.seq
    (.reg false [⟨0, (some 18), .mv (.t 0), 0, none⟩, ⟨1, (some 19), .bin .add (.t 18) (.c (.int .i64 (1))), 0, none⟩, ⟨2, (some 4), .mv (.t 19), 0, none⟩] [0, 2, 4])
    (.seq
     (.blk 0
      (.loop [0, 2, 4]
       (.seq
        (.seq
         (.reg false [⟨0, (some 20), .mv (.t 4), 0, none⟩, ⟨1, (some 21), .call 80 [.t 20], 2, none⟩, ⟨2, (some 22), .un .not (.t 21), 0, none⟩] [0, 2, 4, 22])
         (.cond (.t 22)
          (.skip)
          (.exit 0)))
        (.blk 1
         (.reg false [⟨0, (some 23), .mv (.t 4), 0, none⟩, ⟨1, (some 24), .mv (.t 0), 0, none⟩, ⟨2, (some 25), .bin .add (.t 23) (.t 24), 0, none⟩, ⟨3, (some 4), .mv (.t 25), 0, none⟩] [0, 2, 4])))))
     (.seq
      (.reg false [⟨0, (some 5), .mv (.c (.int .i64 (2))), 0, none⟩] [0, 2, 4, 5])
      (.seq
       (.blk 2
        (.loop [0, 2, 4, 5]
         (.seq
          (.seq
           (.reg false [⟨0, (some 26), .mv (.t 5), 0, none⟩, ⟨1, (some 27), .mv (.t 4), 0, none⟩, ⟨2, (some 28), .bin .sub (.t 27) (.c (.int .i64 (1))), 0, none⟩, ⟨3, (some 29), .mv (.t 0), 0, none⟩, ⟨4, (some 30), .bin .quo (.t 28) (.t 29), 0, none⟩, ⟨5, (some 31), .mv (.t 4), 0, none⟩, ⟨6, (some 32), .call 57 [.t 26, .t 30, .t 31], 2, none⟩, ⟨7, (some 33), .bin .eql (.t 32) (.c (.int .i64 (1))), 0, none⟩] [0, 2, 4, 5, 33])
           (.cond (.t 33)
            (.skip)
            (.exit 2)))
          (.blk 3
           (.reg false [⟨0, (some 34), .mv (.t 5), 0, none⟩, ⟨1, (some 35), .bin .add (.t 34) (.c (.int .i64 (1))), 0, none⟩, ⟨2, (some 5), .mv (.t 35), 0, none⟩] [0, 2, 4, 5])))))
       (.seq
        (.reg false [⟨0, (some 36), .mv (.t 4), 0, none⟩, ⟨1, (some 37), .mv (.t 0), 0, none⟩, ⟨2, (some 38), .mv (.t 5), 0, none⟩, ⟨3, (some 39), .mv (.t 4), 0, none⟩, ⟨4, (some 40), .bin .sub (.t 39) (.c (.int .i64 (1))), 0, none⟩, ⟨5, (some 41), .mv (.t 0), 0, none⟩, ⟨6, (some 42), .bin .quo (.t 40) (.t 41), 0, none⟩, ⟨7, (some 43), .mv (.t 4), 0, none⟩, ⟨8, (some 44), .call 57 [.t 38, .t 42, .t 43], 2, none⟩, ⟨9, (some 45), .build [.int .i64 (0), .int .i64 (0), .int .i64 (0)] [(0, 1, .t 36), (1, 1, .t 37), (2, 1, .t 44)], 0, none⟩, ⟨10, none, .store 3 (.t 2) (.t 45), 0, none⟩, ⟨11, (some 3), .mv (.c (.bool true)), 0, none⟩] [2, 3])
        (.ret)))))))

theorem ok49 : okF Tryz.prog 49 1 c49 [.cell (some 3) 2, .tmp 3] = true := by kernel_rfl

/-- dauber/dauberref08.Number -/
def c50 : C :=
 .seq
  (.reg false [⟨0, (some 2), .box 3 (.t 0), 0, none⟩, ⟨1, (some 4), .mv (.c (.bool false)), 0, none⟩] [1, 2])
  (.seq
   (.reg false [⟨0, (some 5), .mv (.t 1), 0, none⟩, ⟨1, (some 6), .bin .geq (.t 5) (.c (.int .i64 (0))), 0, none⟩, ⟨2, (some 7), .mv (.t 6), 0, none⟩, ⟨3, (some 8), .mv (.t 1), 0, (some (7, true))⟩, ⟨4, (some 9), .faddr 1 (.t 2), 0, (some (7, true))⟩, ⟨5, (some 10), .load none (.t 9), 0, (some (7, true))⟩, ⟨6, (some 11), .bin .lss (.t 8) (.t 10), 0, (some (7, true))⟩, ⟨7, (some 12), .pick (.t 7) (.t 11) (.c (.bool false)), 0, none⟩, ⟨8, (some 4), .mv (.t 12), 0, none⟩] [4])
   (.ret))

theorem ok50 : okF Tryz.prog 50 2 c50 [.tmp 4] = true := by kernel_rfl

/-- dauber/dauberref08.ints -/
def c51 : C :=
 .seq
  (.reg false [⟨0, (some 2), .mv (.c (.nils)), 0, none⟩] [0])
  (.seq
   (.reg false [⟨0, (some 3), .nilo 1, 0, none⟩] [0, 3])
   (.seq
    (.seq
     (.reg false [⟨0, (some 4), .mv (.c (.int .i64 (0))), 0, none⟩] [0, 3, 4])
     (.blk 0
      (.loop [0, 3, 4]
       (.seq
        (.seq
         (.reg false [⟨0, (some 5), .mv (.t 4), 0, none⟩, ⟨1, (some 6), .mv (.t 0), 0, none⟩, ⟨2, (some 7), .len none (.t 6), 0, none⟩, ⟨3, (some 8), .bin .lss (.t 5) (.t 7), 0, none⟩] [0, 3, 4, 8])
         (.cond (.t 8)
          (.skip)
          (.exit 0)))
        (.seq
         (.blk 1
          (.reg false [⟨0, (some 11), .mv (.t 3), 0, none⟩, ⟨1, (some 12), .mv (.t 0), 0, none⟩, ⟨2, (some 13), .mv (.t 4), 0, none⟩, ⟨3, (some 14), .iaddr none 1 (.t 12) (.t 13), 0, none⟩, ⟨4, (some 15), .load none (.t 14), 0, none⟩, ⟨5, (some 16), .bsl 1 1 [.int .i64 (0)] [(0, 1, .t 15)], 0, none⟩, ⟨6, (some 17), .app 1 8 (.t 11) (.t 16), 0, none⟩, ⟨7, (some 3), .mv (.t 17), 0, none⟩] [0, 3, 4]))
         (.reg false [⟨0, (some 9), .mv (.t 4), 0, none⟩, ⟨1, (some 10), .bin .add (.t 9) (.c (.int .i64 (1))), 0, none⟩, ⟨2, (some 4), .mv (.t 10), 0, none⟩] [0, 3, 4]))))))
    (.seq
     (.reg false [⟨0, (some 18), .mv (.t 3), 0, none⟩, ⟨1, (some 2), .mv (.t 18), 0, none⟩] [2])
     (.ret))))

theorem ok51 : okF Tryz.prog 51 1 c51 [.tmp 2] = true := by kernel_rfl

/-- dauber/dauberref03.Decode -/
def c52 : C :=
 .seq
  (.reg false [⟨0, (some 3), .box 3 (.t 0), 0, none⟩, ⟨1, (some 6), .mv (.c (.nils)), 0, none⟩, ⟨2, (some 7), .mv (.c (.bool false)), 0, none⟩] [1, 2, 3])
  (.seq
   (.reg false [⟨0, (some 25), .faddr 0 (.t 3), 0, none⟩, ⟨1, (some 26), .load none (.t 25), 0, none⟩, ⟨2, (some 27), .call 81 [.t 26], 2, none⟩, ⟨3, (some 24), .mv (.t 27), 0, none⟩, ⟨4, (some 28), .ext 0 (.t 24), 0, none⟩, ⟨5, (some 29), .ext 1 (.t 24), 0, none⟩, ⟨6, (some 8), .alloc [.int .i64 (0), .int .i64 (0), .int .i64 (0), .int .i64 (0)] 4, 0, none⟩, ⟨7, none, .store 4 (.t 8) (.t 28), 0, none⟩, ⟨8, (some 9), .mv (.t 29), 0, none⟩] [1, 2, 3, 8])
   (.seq
    (.reg false [⟨0, (some 30), .load (some 3) (.t 3), 0, none⟩, ⟨1, (some 31), .mv (.t 2), 0, none⟩, ⟨2, (some 32), .len none (.t 31), 0, none⟩, ⟨3, (some 33), .call 82 [.t 30, .t 32], 2, none⟩, ⟨4, (some 10), .mv (.t 33), 0, none⟩] [1, 2, 3, 8, 10])
    (.seq
     (.seq
      (.reg false [⟨0, (some 11), .mv (.c (.int .i64 (0))), 0, none⟩] [1, 2, 3, 8, 10, 11])
      (.blk 0
       (.loop [1, 2, 3, 8, 10, 11]
        (.seq
         (.seq
          (.reg false [⟨0, (some 34), .mv (.t 11), 0, none⟩, ⟨1, (some 35), .mv (.t 10), 0, none⟩, ⟨2, (some 36), .bin .leq (.t 34) (.t 35), 0, none⟩] [1, 2, 3, 8, 10, 11, 36])
          (.cond (.t 36)
           (.skip)
           (.exit 0)))
         (.seq
          (.blk 1
           (.seq
            (.reg false [⟨0, (some 12), .nilo 1, 0, none⟩] [1, 2, 3, 8, 10, 11, 12])
            (.seq
             (.reg false [⟨0, (some 13), .nilo 1, 0, none⟩] [1, 2, 3, 8, 10, 11, 12, 13])
             (.seq
              (.seq
               (.reg false [⟨0, (some 14), .mv (.c (.int .i64 (0))), 0, none⟩] [1, 2, 3, 8, 10, 11, 12, 13, 14])
               (.blk 2
                (.loop [1, 2, 3, 8, 10, 11, 12, 13, 14]
                 (.seq
                  (.seq
                   (.reg false [⟨0, (some 39), .mv (.t 14), 0, none⟩, ⟨1, (some 40), .mv (.t 1), 0, none⟩, ⟨2, (some 41), .len none (.t 40), 0, none⟩, ⟨3, (some 42), .bin .lss (.t 39) (.t 41), 0, none⟩] [1, 2, 3, 8, 10, 11, 12, 13, 14, 42])
                   (.cond (.t 42)
                    (.skip)
                    (.exit 2)))
                  (.seq
                   (.blk 3
                    (.seq
                     (.seq
                      (.reg false [⟨0, (some 45), .mv (.t 2), 0, none⟩, ⟨1, (some 46), .mv (.t 14), 0, none⟩, ⟨2, (some 47), .call 83 [.t 45, .t 46], 2, none⟩] [1, 2, 3, 8, 10, 11, 12, 13, 14, 47])
                      (.cond (.t 47)
                       (.exit 3)
                       (.skip)))
                     (.seq
                      (.reg false [⟨0, (some 15), .nilo 1, 0, none⟩] [1, 2, 3, 8, 10, 11, 12, 13, 14, 15])
                      (.seq
                       (.seq
                        (.reg false [⟨0, (some 16), .mv (.c (.int .i64 (0))), 0, none⟩] [1, 2, 3, 8, 10, 11, 12, 13, 14, 15, 16])
                        (.blk 4
                         (.loop [1, 2, 3, 8, 10, 11, 12, 13, 14, 15, 16]
                          (.seq
                           (.seq
                            (.reg false [⟨0, (some 48), .mv (.t 16), 0, none⟩, ⟨1, (some 49), .mv (.t 11), 0, none⟩, ⟨2, (some 50), .faddr 2 (.t 3), 0, none⟩, ⟨3, (some 51), .load none (.t 50), 0, none⟩, ⟨4, (some 52), .bin .add (.t 49) (.t 51), 0, none⟩, ⟨5, (some 53), .bin .lss (.t 48) (.t 52), 0, none⟩] [1, 2, 3, 8, 10, 11, 12, 13, 14, 15, 16, 53])
                            (.cond (.t 53)
                             (.skip)
                             (.exit 4)))
                           (.seq
                            (.blk 5
                             (.reg true [⟨0, (some 56), .mv (.t 15), 0, none⟩, ⟨2, (some 58), .faddr 1 (.t 3), 0, none⟩, ⟨4, (some 60), .mv (.t 14), 0, none⟩, ⟨7, (some 63), .mv (.t 16), 0, none⟩, ⟨1, (some 57), .load (some 4) (.t 8), 0, none⟩, ⟨3, (some 59), .load none (.t 58), 0, none⟩, ⟨5, (some 61), .iaddr none 1 (.t 59) (.t 60), 0, none⟩, ⟨6, (some 62), .load none (.t 61), 0, none⟩, ⟨8, (some 64), .call 84 [.t 57, .t 62, .t 63], 2, none⟩, ⟨9, (some 65), .bsl 1 1 [.int .i64 (0)] [(0, 1, .t 64)], 0, none⟩, ⟨10, (some 66), .app 1 8 (.t 56) (.t 65), 0, none⟩, ⟨11, (some 15), .mv (.t 66), 0, none⟩] [1, 2, 3, 8, 10, 11, 12, 13, 14, 15, 16]))
                            (.reg false [⟨0, (some 54), .mv (.t 16), 0, none⟩, ⟨1, (some 55), .bin .add (.t 54) (.c (.int .i64 (1))), 0, none⟩, ⟨2, (some 16), .mv (.t 55), 0, none⟩] [1, 2, 3, 8, 10, 11, 12, 13, 14, 15, 16]))))))
                       (.seq
                        (.seq
                         (.reg false [⟨0, (some 17), .mv (.c (.int .i64 (0))), 0, none⟩] [1, 2, 3, 8, 10, 11, 12, 13, 14, 15, 17])
                         (.blk 6
                          (.loop [1, 2, 3, 8, 10, 11, 12, 13, 14, 15, 17]
                           (.seq
                            (.seq
                             (.reg false [⟨0, (some 67), .mv (.t 17), 0, none⟩, ⟨1, (some 68), .mv (.t 11), 0, none⟩, ⟨2, (some 69), .bin .lss (.t 67) (.t 68), 0, none⟩] [1, 2, 3, 8, 10, 11, 12, 13, 14, 15, 17, 69])
                             (.cond (.t 69)
                              (.skip)
                              (.exit 6)))
                            (.seq
                             (.blk 7
                              (.reg true [⟨0, (some 72), .mv (.t 15), 0, none⟩, ⟨3, (some 75), .mv (.t 1), 0, none⟩, ⟨4, (some 76), .mv (.t 14), 0, none⟩, ⟨5, (some 77), .iaddr none 1 (.t 75) (.t 76), 0, none⟩, ⟨8, (some 80), .faddr 1 (.t 3), 0, none⟩, ⟨10, (some 82), .mv (.t 14), 0, none⟩, ⟨13, (some 85), .mv (.t 17), 0, none⟩, ⟨1, (some 73), .load (some 4) (.t 8), 0, none⟩, ⟨2, (some 74), .load (some 4) (.t 8), 0, none⟩, ⟨6, (some 78), .load none (.t 77), 0, none⟩, ⟨7, (some 79), .load (some 4) (.t 8), 0, none⟩, ⟨9, (some 81), .load none (.t 80), 0, none⟩, ⟨11, (some 83), .iaddr none 1 (.t 81) (.t 82), 0, none⟩, ⟨12, (some 84), .load none (.t 83), 0, none⟩, ⟨14, (some 86), .call 84 [.t 79, .t 84, .t 85], 1, none⟩, ⟨15, (some 87), .call 86 [.t 74, .t 78, .t 86], 1, none⟩, ⟨16, (some 88), .call 85 [.t 73, .t 87], 1, none⟩, ⟨17, (some 89), .bsl 1 1 [.int .i64 (0)] [(0, 1, .t 88)], 0, none⟩, ⟨18, (some 90), .app 1 8 (.t 72) (.t 89), 0, none⟩, ⟨19, (some 15), .mv (.t 90), 0, none⟩] [1, 2, 3, 8, 10, 11, 12, 13, 14, 15, 17]))
                             (.reg false [⟨0, (some 70), .mv (.t 17), 0, none⟩, ⟨1, (some 71), .bin .add (.t 70) (.c (.int .i64 (1))), 0, none⟩, ⟨2, (some 17), .mv (.t 71), 0, none⟩] [1, 2, 3, 8, 10, 11, 12, 13, 14, 15, 17]))))))
                        (.seq
                         (.reg false [⟨0, (some 91), .mv (.t 12), 0, none⟩, ⟨1, (some 92), .mv (.t 15), 0, none⟩, ⟨2, (some 93), .bsl 1 1 [.nils] [(0, 1, .t 92)], 0, none⟩, ⟨3, (some 94), .app 1 24 (.t 91) (.t 93), 0, none⟩, ⟨4, (some 12), .mv (.t 94), 0, none⟩] [1, 2, 3, 8, 10, 11, 12, 13, 14])
                         (.reg true [⟨0, (some 95), .mv (.t 13), 0, none⟩, ⟨2, (some 97), .mv (.t 1), 0, none⟩, ⟨3, (some 98), .mv (.t 14), 0, none⟩, ⟨4, (some 99), .iaddr none 1 (.t 97) (.t 98), 0, none⟩, ⟨7, (some 102), .faddr 1 (.t 3), 0, none⟩, ⟨9, (some 104), .mv (.t 14), 0, none⟩, ⟨12, (some 107), .mv (.t 11), 0, none⟩, ⟨1, (some 96), .load (some 4) (.t 8), 0, none⟩, ⟨5, (some 100), .load none (.t 99), 0, none⟩, ⟨6, (some 101), .load (some 4) (.t 8), 0, none⟩, ⟨8, (some 103), .load none (.t 102), 0, none⟩, ⟨10, (some 105), .iaddr none 1 (.t 103) (.t 104), 0, none⟩, ⟨11, (some 106), .load none (.t 105), 0, none⟩, ⟨13, (some 108), .call 84 [.t 101, .t 106, .t 107], 1, none⟩, ⟨14, (some 109), .call 86 [.t 96, .t 100, .t 108], 1, none⟩, ⟨15, (some 110), .bsl 1 1 [.int .i64 (0)] [(0, 1, .t 109)], 0, none⟩, ⟨16, (some 111), .app 1 8 (.t 95) (.t 110), 0, none⟩, ⟨17, (some 13), .mv (.t 111), 0, none⟩] [1, 2, 3, 8, 10, 11, 12, 13, 14])))))))
                   (.reg false [⟨0, (some 43), .mv (.t 14), 0, none⟩, ⟨1, (some 44), .bin .add (.t 43) (.c (.int .i64 (1))), 0, none⟩, ⟨2, (some 14), .mv (.t 44), 0, none⟩] [1, 2, 3, 8, 10, 11, 12, 13, 14]))))))
              (.seq
               (.reg false [⟨0, (some 113), .load (some 4) (.t 8), 0, none⟩, ⟨1, (some 114), .mv (.t 12), 0, none⟩, ⟨2, (some 115), .mv (.t 13), 0, none⟩, ⟨3, (some 116), .call 87 [.t 113, .t 114, .t 115], 2, none⟩, ⟨4, (some 112), .mv (.t 116), 0, none⟩, ⟨5, (some 117), .ext 0 (.t 112), 0, none⟩, ⟨6, (some 118), .ext 1 (.t 112), 0, none⟩, ⟨7, (some 18), .mv (.t 117), 0, none⟩, ⟨8, (some 19), .mv (.t 118), 0, none⟩] [1, 2, 3, 8, 10, 11, 18, 19])
               (.seq
                (.seq
                 (.reg false [⟨0, (some 119), .mv (.t 19), 0, none⟩, ⟨1, (some 120), .un .not (.t 119), 0, none⟩] [1, 2, 3, 8, 10, 11, 18, 120])
                 (.cond (.t 120)
                  (.exit 1)
                  (.skip)))
                (.seq
                 (.reg false [⟨0, (some 121), .mv (.t 18), 0, none⟩, ⟨1, (some 122), .mv (.t 11), 0, none⟩, ⟨2, (some 123), .faddr 2 (.t 3), 0, none⟩, ⟨3, (some 124), .load none (.t 123), 0, none⟩, ⟨4, (some 125), .bin .add (.t 122) (.t 124), 0, none⟩, ⟨5, (some 126), .slc none 1 (.t 121) (some (.t 125)) none none, 0, none⟩, ⟨6, (some 20), .mv (.t 126), 0, none⟩] [1, 2, 3, 8, 10, 11, 18, 20])
                 (.seq
                  (.reg false [⟨0, (some 127), .mv (.t 20), 0, none⟩, ⟨1, (some 128), .bsl 1 1 [.int .i64 (0)] [(0, 1, .c (.int .i64 (1)))], 0, none⟩, ⟨2, (some 129), .app 1 8 (.t 127) (.t 128), 0, none⟩, ⟨3, (some 20), .mv (.t 129), 0, none⟩] [1, 2, 3, 8, 10, 11, 18, 20])
                  (.seq
                   (.reg true [⟨1, (some 132), .mv (.t 18), 0, none⟩, ⟨2, (some 133), .mv (.t 11), 0, none⟩, ⟨3, (some 134), .faddr 2 (.t 3), 0, none⟩, ⟨6, (some 137), .mv (.t 11), 0, none⟩, ⟨7, (some 138), .faddr 2 (.t 3), 0, none⟩, ⟨12, (some 143), .mv (.t 20), 0, none⟩, ⟨0, (some 131), .load (some 4) (.t 8), 0, none⟩, ⟨4, (some 135), .load none (.t 134), 0, none⟩, ⟨5, (some 136), .bin .add (.t 133) (.t 135), 0, none⟩, ⟨8, (some 139), .load none (.t 138), 0, none⟩, ⟨9, (some 140), .bin .add (.t 137) (.t 139), 0, none⟩, ⟨10, (some 141), .slc none 1 (.t 132) none (some (.t 136)) (some (.t 140)), 0, none⟩, ⟨11, (some 142), .call 89 [.t 141], 1, none⟩, ⟨13, (some 144), .call 88 [.t 131, .t 142, .t 143], 1, none⟩, ⟨14, (some 130), .mv (.t 144), 0, none⟩, ⟨15, (some 145), .ext 0 (.t 130), 0, none⟩, ⟨16, (some 146), .ext 1 (.t 130), 0, none⟩, ⟨17, (some 21), .mv (.t 145), 0, none⟩, ⟨18, (some 22), .mv (.t 146), 0, none⟩] [1, 2, 3, 8, 10, 11, 21, 22])
                   (.seq
                    (.seq
                     (.reg false [⟨0, (some 147), .mv (.t 22), 0, none⟩, ⟨1, (some 148), .len none (.t 147), 0, none⟩, ⟨2, (some 149), .bin .gtr (.t 148) (.c (.int .i64 (0))), 0, none⟩, ⟨3, (some 150), .mv (.t 149), 0, none⟩, ⟨4, (some 151), .mv (.t 21), 0, (some (150, false))⟩, ⟨5, (some 152), .len none (.t 151), 0, (some (150, false))⟩, ⟨6, (some 153), .faddr 2 (.t 3), 0, (some (150, false))⟩, ⟨7, (some 154), .load none (.t 153), 0, (some (150, false))⟩, ⟨8, (some 155), .bin .gtr (.t 152) (.t 154), 0, (some (150, false))⟩, ⟨9, (some 156), .pick (.t 150) (.c (.bool true)) (.t 155), 0, none⟩] [1, 2, 3, 8, 10, 11, 21, 156])
                     (.cond (.t 156)
                      (.exit 1)
                      (.skip)))
                    (.seq
                     (.reg false [⟨0, (some 157), .load (some 3) (.t 3), 0, none⟩, ⟨1, (some 158), .mv (.t 21), 0, none⟩, ⟨2, (some 159), .call 90 [.t 157, .t 158], 2, none⟩, ⟨3, (some 23), .mv (.t 159), 0, none⟩] [1, 2, 3, 8, 10, 11, 23])
                     (.seq
                      (.reg false [⟨0, (some 160), .mv (.t 23), 0, none⟩, ⟨1, (some 161), .mv (.t 1), 0, none⟩, ⟨2, (some 162), .mv (.t 2), 0, none⟩, ⟨3, (some 163), .call 91 [.t 160, .t 161, .t 162], 2, none⟩, ⟨4, (some 164), .mv (.t 10), 0, none⟩, ⟨5, (some 165), .bin .leq (.t 163) (.t 164), 0, none⟩] [1, 2, 3, 8, 10, 11, 23, 165])
                      (.cond (.t 165)
                       (.seq
                        (.reg false [⟨0, (some 166), .mv (.t 23), 0, none⟩, ⟨1, (some 6), .mv (.t 166), 0, none⟩, ⟨2, (some 7), .mv (.c (.bool true)), 0, none⟩] [6, 7])
                        (.ret))
                       (.skip))))))))))))))
          (.reg false [⟨0, (some 37), .mv (.t 11), 0, none⟩, ⟨1, (some 38), .bin .add (.t 37) (.c (.int .i64 (1))), 0, none⟩, ⟨2, (some 11), .mv (.t 38), 0, none⟩] [1, 2, 3, 8, 10, 11]))))))
     (.seq
      (.reg false [⟨0, (some 6), .mv (.c (.nils)), 0, none⟩, ⟨1, (some 7), .mv (.c (.bool false)), 0, none⟩] [6, 7])
      (.ret)))))

theorem ok52 : okF Tryz.prog 52 3 c52 [.tmp 6, .tmp 7] = true := by kernel_rfl

/-- dauber/dauberref03.Message -/
def c53 : C :=
 .seq
  (.reg false [⟨0, (some 2), .box 3 (.t 0), 0, none⟩, ⟨1, (some 4), .mv (.c (.nils)), 0, none⟩, ⟨2, (some 5), .mv (.c (.bool false)), 0, none⟩] [1, 2])
  (.seq
   (.reg false [⟨0, (some 7), .load (some 3) (.t 2), 0, none⟩, ⟨1, (some 8), .mv (.t 1), 0, none⟩, ⟨2, (some 9), .call 92 [.t 7, .t 8], 2, none⟩, ⟨3, (some 6), .mv (.t 9), 0, none⟩] [2, 6])
   (.seq
    (.seq
     (.reg true [⟨0, (some 10), .mv (.t 6), 0, none⟩, ⟨3, (some 13), .faddr 2 (.t 2), 0, none⟩, ⟨4, (some 14), .load none (.t 13), 0, none⟩, ⟨1, (some 11), .call 89 [.t 10], 1, none⟩, ⟨2, (some 12), .len none (.t 11), 0, none⟩, ⟨5, (some 15), .bin .gtr (.t 12) (.t 14), 0, none⟩] [2, 6, 15])
     (.cond (.t 15)
      (.seq
       (.reg false [⟨0, (some 4), .mv (.c (.nils)), 0, none⟩, ⟨1, (some 5), .mv (.c (.bool false)), 0, none⟩] [4, 5])
       (.ret))
      (.skip)))
    (.seq
     (.reg false [⟨0, (some 16), .mv (.t 6), 0, none⟩, ⟨1, (some 17), .faddr 2 (.t 2), 0, none⟩, ⟨2, (some 18), .load none (.t 17), 0, none⟩, ⟨3, (some 19), .slc none 1 (.t 16) none (some (.t 18)) none, 0, none⟩, ⟨4, (some 4), .mv (.t 19), 0, none⟩, ⟨5, (some 5), .mv (.c (.bool true)), 0, none⟩] [4, 5])
     (.ret))))

theorem ok53 : okF Tryz.prog 53 2 c53 [.tmp 4, .tmp 5] = true := by kernel_rfl

/-- dauber/share.Check -/
def c54 : C :=
 .seq
  (.reg false [⟨0, (some 1), .box 3 (.t 0), 0, none⟩, ⟨1, (some 2), .mv (.c (.int .i64 (0))), 0, none⟩] [1])
  (.seq
   (.seq
    (.reg false [⟨0, (some 3), .faddr 0 (.t 1), 0, none⟩, ⟨1, (some 4), .load none (.t 3), 0, none⟩, ⟨2, (some 5), .bsl 1 1 [.int .i64 (0)] [(0, 1, .t 4)], 0, none⟩, ⟨3, (some 6), .call 32 [.c (.int .i64 (3)), .c (.int .i64 (2147483647)), .t 5], 2, none⟩, ⟨4, (some 7), .un .not (.t 6), 0, none⟩, ⟨5, (some 8), .mv (.t 7), 0, none⟩, ⟨6, (some 9), .faddr 1 (.t 1), 0, (some (8, false))⟩, ⟨7, (some 10), .load none (.t 9), 0, (some (8, false))⟩, ⟨8, (some 11), .bsl 1 1 [.int .i64 (0)] [(0, 1, .t 10)], 0, (some (8, false))⟩, ⟨9, (some 12), .call 32 [.c (.int .i64 (3)), .c (.int .i64 (65521)), .t 11], 2, (some (8, false))⟩, ⟨10, (some 13), .un .not (.t 12), 0, (some (8, false))⟩, ⟨11, (some 14), .pick (.t 8) (.c (.bool true)) (.t 13), 0, none⟩, ⟨12, (some 15), .mv (.t 14), 0, none⟩, ⟨13, (some 16), .faddr 0 (.t 1), 0, (some (15, false))⟩, ⟨14, (some 17), .load none (.t 16), 0, (some (15, false))⟩, ⟨15, (some 18), .bin .sub (.t 17) (.c (.int .i64 (1))), 0, (some (15, false))⟩, ⟨16, (some 19), .faddr 1 (.t 1), 0, (some (15, false))⟩, ⟨17, (some 20), .load none (.t 19), 0, (some (15, false))⟩, ⟨18, (some 21), .bin .rem (.t 18) (.t 20), 0, (some (15, false))⟩, ⟨19, (some 22), .bin .neq (.t 21) (.c (.int .i64 (0))), 0, (some (15, false))⟩, ⟨20, (some 23), .pick (.t 15) (.c (.bool true)) (.t 22), 0, none⟩, ⟨21, (some 24), .mv (.t 23), 0, none⟩, ⟨22, (some 25), .faddr 0 (.t 1), 0, (some (24, false))⟩, ⟨23, (some 26), .load none (.t 25), 0, (some (24, false))⟩, ⟨24, (some 27), .bin .sub (.t 26) (.c (.int .i64 (1))), 0, (some (24, false))⟩, ⟨25, (some 28), .faddr 2 (.t 1), 0, (some (24, false))⟩, ⟨26, (some 29), .load none (.t 28), 0, (some (24, false))⟩, ⟨27, (some 30), .bsl 1 1 [.int .i64 (0)] [(0, 1, .t 29)], 0, (some (24, false))⟩, ⟨28, (some 31), .call 32 [.c (.int .i64 (2)), .t 27, .t 30], 2, (some (24, false))⟩, ⟨29, (some 32), .un .not (.t 31), 0, (some (24, false))⟩, ⟨30, (some 33), .pick (.t 24) (.c (.bool true)) (.t 32), 0, none⟩, ⟨31, (some 34), .mv (.t 33), 0, none⟩, ⟨32, (some 35), .faddr 0 (.t 1), 0, (some (34, false))⟩, ⟨33, (some 36), .load none (.t 35), 0, (some (34, false))⟩, ⟨34, (some 37), .call 33 [.t 36], 2, (some (34, false))⟩, ⟨35, (some 38), .un .not (.t 37), 0, (some (34, false))⟩, ⟨36, (some 39), .pick (.t 34) (.c (.bool true)) (.t 38), 0, none⟩, ⟨37, (some 40), .mv (.t 39), 0, none⟩, ⟨38, (some 41), .faddr 1 (.t 1), 0, (some (40, false))⟩, ⟨39, (some 42), .load none (.t 41), 0, (some (40, false))⟩, ⟨40, (some 43), .call 33 [.t 42], 2, (some (40, false))⟩, ⟨41, (some 44), .un .not (.t 43), 0, (some (40, false))⟩, ⟨42, (some 45), .pick (.t 40) (.c (.bool true)) (.t 44), 0, none⟩, ⟨43, (some 46), .mv (.t 45), 0, none⟩, ⟨44, (some 47), .faddr 0 (.t 1), 0, (some (46, false))⟩, ⟨45, (some 48), .load none (.t 47), 0, (some (46, false))⟩, ⟨46, (some 49), .faddr 2 (.t 1), 0, (some (46, false))⟩, ⟨47, (some 50), .load none (.t 49), 0, (some (46, false))⟩, ⟨48, (some 51), .faddr 1 (.t 1), 0, (some (46, false))⟩, ⟨49, (some 52), .load none (.t 51), 0, (some (46, false))⟩, ⟨50, (some 53), .call 34 [.t 48, .t 50, .t 52], 2, (some (46, false))⟩, ⟨51, (some 54), .bin .neq (.t 53) (.c (.int .i64 (1))), 0, (some (46, false))⟩, ⟨52, (some 55), .pick (.t 46) (.c (.bool true)) (.t 54), 0, none⟩] [55])
    (.cond (.t 55)
     (.seq
      (.reg false [⟨0, (some 2), .mv (.c (.int .i64 (80))), 0, none⟩] [2])
      (.ret))
     (.skip)))
   (.seq
    (.reg false [⟨0, (some 2), .mv (.c (.int .i64 (0))), 0, none⟩] [2])
    (.ret)))

theorem ok54 : okF Tryz.prog 54 1 c54 [.tmp 2] = true := by kernel_rfl

/-- (dauber/share.Group).secrets -/
def c55 : C :=
 .seq
  (.reg false [⟨0, (some 2), .box 3 (.t 0), 0, none⟩, ⟨1, (some 4), .mv (.c (.bool false)), 0, none⟩] [1, 2])
  (.seq
   (.reg false [⟨0, (some 5), .faddr 1 (.t 2), 0, none⟩, ⟨1, (some 6), .load none (.t 5), 0, none⟩, ⟨2, (some 7), .bin .sub (.t 6) (.c (.int .i64 (1))), 0, none⟩, ⟨3, (some 8), .mv (.t 1), 0, none⟩, ⟨4, (some 9), .call 32 [.c (.int .i64 (0)), .t 7, .t 8], 2, none⟩, ⟨5, (some 4), .mv (.t 9), 0, none⟩] [4])
   (.ret))

theorem ok55 : okF Tryz.prog 55 2 c55 [.tmp 4] = true := by kernel_rfl

/-- (dauber/share.Group).raise -/
def c56 : C :=
 .seq
  (.reg false [⟨0, (some 2), .box 3 (.t 0), 0, none⟩, ⟨1, (some 4), .mv (.c (.int .i64 (0))), 0, none⟩] [1, 2])
  (.seq
   (.reg true [⟨2, (some 7), .faddr 2 (.t 2), 0, none⟩, ⟨4, (some 9), .mv (.t 1), 0, none⟩, ⟨0, (some 5), .load (some 3) (.t 2), 0, none⟩, ⟨3, (some 8), .load none (.t 7), 0, none⟩, ⟨1, (some 6), .call 93 [.t 5], 1, none⟩, ⟨5, (some 10), .call 34 [.t 6, .t 8, .t 9], 1, none⟩, ⟨6, (some 4), .mv (.t 10), 0, none⟩] [4])
   (.ret))

theorem ok56 : okF Tryz.prog 56 2 c56 [.tmp 4] = true := by kernel_rfl

/-- dauber/dauberref08.power -/
def c57 : C :=
 .seq
  (.reg false [⟨0, (some 6), .mv (.c (.int .i64 (0))), 0, none⟩] [0, 1, 2])
  (.seq
   (.reg false [⟨0, (some 8), .mv (.t 2), 0, none⟩, ⟨1, (some 9), .bin .rem (.c (.int .i64 (1))) (.t 8), 0, none⟩, ⟨2, (some 7), .mv (.t 9), 0, none⟩] [0, 1, 2, 7])
   (.seq
    (.reg false [⟨0, (some 10), .mv (.t 0), 0, none⟩, ⟨1, (some 11), .mv (.t 2), 0, none⟩, ⟨2, (some 12), .bin .rem (.t 10) (.t 11), 0, none⟩, ⟨3, (some 0), .mv (.t 12), 0, none⟩] [0, 1, 2, 7])
    (.seq
     (.blk 0
      (.loop [0, 1, 2, 7]
       (.seq
        (.seq
         (.reg false [⟨0, (some 13), .mv (.t 1), 0, none⟩, ⟨1, (some 14), .bin .gtr (.t 13) (.c (.int .i64 (0))), 0, none⟩] [0, 1, 2, 7, 14])
         (.cond (.t 14)
          (.skip)
          (.exit 0)))
        (.seq
         (.blk 1
          (.seq
           (.seq
            (.reg false [⟨0, (some 17), .mv (.t 1), 0, none⟩, ⟨1, (some 18), .bin .rem (.t 17) (.c (.int .i64 (2))), 0, none⟩, ⟨2, (some 19), .bin .eql (.t 18) (.c (.int .i64 (1))), 0, none⟩] [0, 1, 2, 7, 19])
            (.cond (.t 19)
             (.reg false [⟨0, (some 20), .mv (.t 7), 0, none⟩, ⟨1, (some 21), .mv (.t 0), 0, none⟩, ⟨2, (some 22), .bin .mul (.t 20) (.t 21), 0, none⟩, ⟨3, (some 23), .mv (.t 2), 0, none⟩, ⟨4, (some 24), .bin .rem (.t 22) (.t 23), 0, none⟩, ⟨5, (some 7), .mv (.t 24), 0, none⟩] [0, 1, 2, 7])
             (.skip)))
           (.reg false [⟨0, (some 25), .mv (.t 0), 0, none⟩, ⟨1, (some 26), .mv (.t 0), 0, none⟩, ⟨2, (some 27), .bin .mul (.t 25) (.t 26), 0, none⟩, ⟨3, (some 28), .mv (.t 2), 0, none⟩, ⟨4, (some 29), .bin .rem (.t 27) (.t 28), 0, none⟩, ⟨5, (some 0), .mv (.t 29), 0, none⟩] [0, 1, 2, 7])))
         (.reg false [⟨0, (some 15), .mv (.t 1), 0, none⟩, ⟨1, (some 16), .bin .quo (.t 15) (.c (.int .i64 (2))), 0, none⟩, ⟨2, (some 1), .mv (.t 16), 0, none⟩] [0, 1, 2, 7])))))
     (.seq
      (.reg false [⟨0, (some 30), .mv (.t 7), 0, none⟩, ⟨1, (some 6), .mv (.t 30), 0, none⟩] [6])
      (.ret)))))

theorem ok57 : okF Tryz.prog 57 3 c57 [.tmp 6] = true := by kernel_rfl

/-- (dauber/share.Group).has -/
def c58 : C :=
 .seq
  (.reg false [⟨0, (some 2), .box 3 (.t 0), 0, none⟩, ⟨1, (some 4), .mv (.c (.bool false)), 0, none⟩] [1, 2])
  (.seq
   (.reg false [⟨0, (some 5), .faddr 0 (.t 2), 0, none⟩, ⟨1, (some 6), .load none (.t 5), 0, none⟩, ⟨2, (some 7), .bin .sub (.t 6) (.c (.int .i64 (1))), 0, none⟩, ⟨3, (some 8), .mv (.t 1), 0, none⟩, ⟨4, (some 9), .call 32 [.c (.int .i64 (1)), .t 7, .t 8], 2, none⟩, ⟨5, (some 10), .mv (.t 9), 0, none⟩, ⟨6, (some 11), .mv (.t 1), 0, (some (10, true))⟩, ⟨7, (some 12), .mkfn (.func 94) [] [.t 2], 0, (some (10, true))⟩, ⟨8, (some 13), .call 61 [.t 11, .t 12], 2, (some (10, true))⟩, ⟨9, (some 14), .un .not (.t 13), 0, (some (10, true))⟩, ⟨10, (some 15), .pick (.t 10) (.t 14) (.c (.bool false)), 0, none⟩, ⟨11, (some 4), .mv (.t 15), 0, none⟩] [4])
   (.ret))

theorem ok58 : okF Tryz.prog 58 2 c58 [.tmp 4] = true := by kernel_rfl

/-- (dauber/share.Group).below -/
def c59 : C :=
 .seq
  (.reg false [⟨0, (some 1), .box 3 (.t 0), 0, none⟩, ⟨1, (some 2), .mv (.c (.int .i64 (0))), 0, none⟩] [1])
  (.seq
   (.reg false [⟨0, (some 3), .faddr 1 (.t 1), 0, none⟩, ⟨1, (some 4), .load none (.t 3), 0, none⟩, ⟨2, (some 2), .mv (.t 4), 0, none⟩] [2])
   (.ret))

theorem ok59 : okF Tryz.prog 59 1 c59 [.tmp 2] = true := by kernel_rfl

/-- (dauber/share.modulus).plus -/
def c60 : C :=
 .seq
  (.reg false [⟨0, (some 6), .mv (.c (.int .i64 (0))), 0, none⟩] [0, 1, 2])
  (.seq
   (.reg false [⟨0, (some 7), .mv (.t 1), 0, none⟩, ⟨1, (some 8), .mv (.t 2), 0, none⟩, ⟨2, (some 9), .bin .add (.t 7) (.t 8), 0, none⟩, ⟨3, (some 10), .mv (.t 0), 0, none⟩, ⟨4, (some 11), .bin .rem (.t 9) (.t 10), 0, none⟩, ⟨5, (some 6), .mv (.t 11), 0, none⟩] [6])
   (.ret))

theorem ok60 : okF Tryz.prog 60 3 c60 [.tmp 6] = true := by kernel_rfl

/-- slices.ContainsFunc[[]int64,int64] -/
def c61 : C :=
 .seq
  (.reg false [⟨0, (some 4), .mv (.c (.bool false)), 0, none⟩] [0, 1])
  (.seq
   (.reg false [⟨0, (some 5), .mv (.t 0), 0, none⟩, ⟨1, (some 6), .mv (.t 1), 0, none⟩, ⟨2, (some 7), .call 95 [.t 5, .t 6], 2, none⟩, ⟨3, (some 8), .bin .geq (.t 7) (.c (.int .i64 (0))), 0, none⟩, ⟨4, (some 4), .mv (.t 8), 0, none⟩] [4])
   (.ret))

theorem ok61 : okF Tryz.prog 61 2 c61 [.tmp 4] = true := by kernel_rfl

/-- dauber/share.in$1 -/
def c62 : C :=
 .seq
  (.reg false [⟨0, (some 4), .mv (.c (.bool false)), 0, none⟩] [0, 1, 2])
  (.seq
   (.reg false [⟨0, (some 5), .mv (.t 0), 0, none⟩, ⟨1, (some 6), .load none (.t 1), 0, none⟩, ⟨2, (some 7), .bin .lss (.t 5) (.t 6), 0, none⟩, ⟨3, (some 8), .mv (.t 7), 0, none⟩, ⟨4, (some 9), .mv (.t 0), 0, (some (8, false))⟩, ⟨5, (some 10), .load none (.t 2), 0, (some (8, false))⟩, ⟨6, (some 11), .bin .gtr (.t 9) (.t 10), 0, (some (8, false))⟩, ⟨7, (some 12), .pick (.t 8) (.c (.bool true)) (.t 11), 0, none⟩, ⟨8, (some 4), .mv (.t 12), 0, none⟩] [4])
   (.ret))

theorem ok62 : okF Tryz.prog 62 3 c62 [.tmp 4] = true := by kernel_rfl

/-- (dauber/share.modulus).times -/
def c63 : C :=
 .seq
  (.reg false [⟨0, (some 6), .mv (.c (.int .i64 (0))), 0, none⟩] [0, 1, 2])
  (.seq
   (.reg false [⟨0, (some 7), .mv (.t 1), 0, none⟩, ⟨1, (some 8), .mv (.t 2), 0, none⟩, ⟨2, (some 9), .bin .mul (.t 7) (.t 8), 0, none⟩, ⟨3, (some 10), .mv (.t 0), 0, none⟩, ⟨4, (some 11), .bin .rem (.t 9) (.t 10), 0, none⟩, ⟨5, (some 6), .mv (.t 11), 0, none⟩] [6])
   (.ret))

theorem ok63 : okF Tryz.prog 63 3 c63 [.tmp 6] = true := by kernel_rfl

/-- dauber/share.power[int64] -/
def c64 : C :=
 .seq
  (.reg false [⟨0, (some 8), .mv (.c (.int .i64 (0))), 0, none⟩] [0, 1, 2, 3])
  (.seq
   (.reg false [⟨0, (some 10), .mv (.t 1), 0, none⟩, ⟨1, (some 9), .mv (.t 10), 0, none⟩] [0, 2, 3, 9])
   (.seq
    (.blk 0
     (.loop [0, 2, 3, 9]
      (.seq
       (.seq
        (.reg false [⟨0, (some 11), .mv (.t 3), 0, none⟩, ⟨1, (some 12), .bin .gtr (.t 11) (.c (.int .i64 (0))), 0, none⟩] [0, 2, 3, 9, 12])
        (.cond (.t 12)
         (.skip)
         (.exit 0)))
       (.seq
        (.blk 1
         (.seq
          (.seq
           (.reg false [⟨0, (some 15), .mv (.t 3), 0, none⟩, ⟨1, (some 16), .bin .rem (.t 15) (.c (.int .i64 (2))), 0, none⟩, ⟨2, (some 17), .bin .eql (.t 16) (.c (.int .i64 (1))), 0, none⟩] [0, 2, 3, 9, 17])
           (.cond (.t 17)
            (.reg false [⟨0, (some 18), .mv (.t 0), 0, none⟩, ⟨1, (some 19), .mv (.t 9), 0, none⟩, ⟨2, (some 20), .mv (.t 2), 0, none⟩, ⟨3, (some 21), .callv (.t 18) [.t 19, .t 20], 2, none⟩, ⟨4, (some 9), .mv (.t 21), 0, none⟩] [0, 2, 3, 9])
            (.skip)))
          (.reg false [⟨0, (some 22), .mv (.t 0), 0, none⟩, ⟨1, (some 23), .mv (.t 2), 0, none⟩, ⟨2, (some 24), .mv (.t 2), 0, none⟩, ⟨3, (some 25), .callv (.t 22) [.t 23, .t 24], 2, none⟩, ⟨4, (some 2), .mv (.t 25), 0, none⟩] [0, 2, 3, 9])))
        (.reg false [⟨0, (some 13), .mv (.t 3), 0, none⟩, ⟨1, (some 14), .bin .quo (.t 13) (.c (.int .i64 (2))), 0, none⟩, ⟨2, (some 3), .mv (.t 14), 0, none⟩] [0, 2, 3, 9])))))
    (.seq
     (.reg false [⟨0, (some 26), .mv (.t 9), 0, none⟩, ⟨1, (some 8), .mv (.t 26), 0, none⟩] [8])
     (.ret))))

theorem ok64 : okF Tryz.prog 64 4 c64 [.tmp 8] = true := by kernel_rfl

/-- (dauber/share.modulus).power$1 -/
def c65 : C :=
 .seq
  (.reg false [⟨0, (some 6), .mv (.c (.int .i64 (0))), 0, none⟩] [0, 1, 2, 3])
  (.seq
   (.reg false [⟨0, (some 7), .load none (.t 2), 0, none⟩, ⟨1, (some 8), .load none (.t 3), 0, none⟩, ⟨2, (some 9), .mv (.t 0), 0, none⟩, ⟨3, (some 10), .mv (.t 1), 0, none⟩, ⟨4, (some 11), .callv (.t 7) [.t 8, .t 9, .t 10], 2, none⟩, ⟨5, (some 6), .mv (.t 11), 0, none⟩] [6])
   (.ret))

theorem ok65 : okF Tryz.prog 65 4 c65 [.tmp 6] = true := by kernel_rfl

/-- dauber/code.different -/
def c66 : C :=
 .seq
  (.reg false [⟨0, (some 2), .mv (.c (.bool false)), 0, none⟩] [0])
  (.seq
   (.reg false [⟨0, (some 3), .mv (.t 0), 0, none⟩, ⟨1, (some 4), .call 97 [.t 3], 2, none⟩, ⟨2, (some 5), .call 96 [.t 4], 2, none⟩, ⟨3, (some 0), .mv (.t 5), 0, none⟩] [0])
   (.seq
    (.reg false [⟨0, (some 6), .mv (.t 0), 0, none⟩, ⟨1, (some 7), .call 98 [.t 6], 2, none⟩, ⟨2, (some 8), .len none (.t 7), 0, none⟩, ⟨3, (some 9), .mv (.t 0), 0, none⟩, ⟨4, (some 10), .len none (.t 9), 0, none⟩, ⟨5, (some 11), .bin .eql (.t 8) (.t 10), 0, none⟩, ⟨6, (some 2), .mv (.t 11), 0, none⟩] [2])
    (.ret)))

theorem ok66 : okF Tryz.prog 66 1 c66 [.tmp 2] = true := by kernel_rfl

/-- slices.ContainsFunc[[]int,int] -/
def c67 : C :=
 .seq
  (.reg false [⟨0, (some 4), .mv (.c (.bool false)), 0, none⟩] [0, 1])
  (.seq
   (.reg false [⟨0, (some 5), .mv (.t 0), 0, none⟩, ⟨1, (some 6), .mv (.t 1), 0, none⟩, ⟨2, (some 7), .call 99 [.t 5, .t 6], 2, none⟩, ⟨3, (some 8), .bin .geq (.t 7) (.c (.int .i64 (0))), 0, none⟩, ⟨4, (some 4), .mv (.t 8), 0, none⟩] [4])
   (.ret))

theorem ok67 : okF Tryz.prog 67 2 c67 [.tmp 4] = true := by kernel_rfl

/-- dauber/code.areElements$1 -/
def c68 : C :=
 .seq
  (.reg false [⟨0, (some 3), .mv (.c (.bool false)), 0, none⟩] [0, 1])
  (.seq
   (.reg false [⟨0, (some 4), .mv (.t 0), 0, none⟩, ⟨1, (some 5), .bin .lss (.t 4) (.c (.int .i64 (0))), 0, none⟩, ⟨2, (some 6), .mv (.t 5), 0, none⟩, ⟨3, (some 7), .mv (.t 0), 0, (some (6, false))⟩, ⟨4, (some 8), .load none (.t 1), 0, (some (6, false))⟩, ⟨5, (some 9), .bin .geq (.t 7) (.t 8), 0, (some (6, false))⟩, ⟨6, (some 10), .pick (.t 6) (.c (.bool true)) (.t 9), 0, none⟩, ⟨7, (some 3), .mv (.t 10), 0, none⟩] [3])
   (.ret))

theorem ok68 : okF Tryz.prog 68 2 c68 [.tmp 3] = true := by kernel_rfl

/-- (*dauber/field.Field).Value -/
def c69 : C :=
 .seq
  (.reg false [⟨0, (some 6), .mv (.c (.int .i64 (0))), 0, none⟩, ⟨1, (some 7), .mv (.c (.int .i64 (0))), 0, none⟩] [0, 1, 2])
  (.seq
   (.seq
    (.reg false [⟨0, (some 9), .mv (.t 0), 0, none⟩, ⟨1, (some 10), .mv (.t 1), 0, none⟩, ⟨2, (some 11), .call 100 [.t 9, .t 10], 2, none⟩, ⟨3, (some 8), .mv (.t 11), 0, none⟩] [0, 1, 2, 8])
    (.seq
     (.reg false [⟨0, (some 12), .mv (.t 8), 0, none⟩, ⟨1, (some 13), .bin .neq (.t 12) (.c (.int .i64 (0))), 0, none⟩] [0, 1, 2, 8, 13])
     (.cond (.t 13)
      (.seq
       (.reg false [⟨0, (some 14), .mv (.t 8), 0, none⟩, ⟨1, (some 6), .mv (.c (.int .i64 (0))), 0, none⟩, ⟨2, (some 7), .mv (.t 14), 0, none⟩] [6, 7])
       (.ret))
      (.skip))))
   (.seq
    (.reg false [⟨0, (some 15), .mv (.t 0), 0, none⟩, ⟨1, (some 16), .mv (.t 1), 0, none⟩, ⟨2, (some 17), .mv (.t 0), 0, none⟩, ⟨3, (some 18), .mv (.t 2), 0, none⟩, ⟨4, (some 19), .call 102 [.t 17, .t 18], 2, none⟩, ⟨5, (some 20), .call 101 [.t 15, .t 16, .t 19], 2, none⟩, ⟨6, (some 6), .mv (.t 20), 0, none⟩, ⟨7, (some 7), .mv (.c (.int .i64 (0))), 0, none⟩] [6, 7])
    (.ret)))

theorem ok69 : okF Tryz.prog 69 3 c69 [.tmp 6, .tmp 7] = true := by kernel_rfl

/-- slices.Clone[[]int,int] -/
def c70 : C :=
 .seq
  (.reg false [⟨0, (some 2), .mv (.c (.nils)), 0, none⟩] [0])
  (.seq
   (.seq
    (.reg false [⟨0, (some 3), .mv (.t 0), 0, none⟩, ⟨1, (some 4), .eqa false (.t 3) (.c (.nils)), 0, none⟩] [0, 4])
    (.cond (.t 4)
     (.seq
      (.reg false [⟨0, (some 2), .mv (.c (.nils)), 0, none⟩] [2])
      (.ret))
     (.skip)))
   (.seq
    (.reg false [⟨0, (some 5), .bsl 1 0 [] [], 0, none⟩, ⟨1, (some 6), .mv (.t 0), 0, none⟩, ⟨2, (some 7), .app 1 8 (.t 5) (.t 6), 0, none⟩, ⟨3, (some 2), .mv (.t 7), 0, none⟩] [2])
    (.ret)))

theorem ok70 : okF Tryz.prog 70 1 c70 [.tmp 2] = true := by kernel_rfl

/-- dauber/share.points -/
def c71 : C :=
 .seq
  (.reg false [⟨0, (some 2), .box 1 (.t 0), 0, none⟩, ⟨1, (some 3), .box 1 (.t 1), 0, none⟩, ⟨2, (some 4), .mv (.c (.nilf)), 0, none⟩] [2, 3])
  (.seq
   (.reg false [⟨0, (some 5), .mkfn (.func 103) [] [.t 2, .t 3], 0, none⟩, ⟨1, (some 4), .mv (.t 5), 0, none⟩] [4])
   (.ret))

theorem ok71 : okF Tryz.prog 71 2 c71 [.tmp 4] = true := by kernel_rfl

/-- (*dauber/code.works).checkErased -/
def c72 : C :=
 .seq
  (.reg false [⟨0, (some 6), .mv (.c (.int .i64 (0))), 0, none⟩] [0, 1, 2])
  (.seq
   (.seq
    (.reg true [⟨0, (some 7), .mv (.t 1), 0, none⟩, ⟨1, (some 8), .len none (.t 7), 0, none⟩, ⟨2, (some 9), .mv (.t 0), 0, none⟩, ⟨3, (some 10), .nilc (.t 9), 0, none⟩, ⟨4, (some 11), .faddr 0 (.t 10), 0, none⟩, ⟨5, (some 12), .faddr 1 (.t 11), 0, none⟩, ⟨6, (some 13), .load none (.t 12), 0, none⟩, ⟨7, (some 14), .len none (.t 13), 0, none⟩, ⟨8, (some 15), .bin .neq (.t 8) (.t 14), 0, none⟩, ⟨9, (some 16), .mv (.t 15), 0, none⟩, ⟨10, (some 17), .mv (.t 2), 0, (some (16, false))⟩, ⟨11, (some 18), .len none (.t 17), 0, (some (16, false))⟩, ⟨12, (some 19), .mv (.t 0), 0, (some (16, false))⟩, ⟨13, (some 20), .nilc (.t 19), 0, (some (16, false))⟩, ⟨14, (some 21), .faddr 0 (.t 20), 0, (some (16, false))⟩, ⟨15, (some 22), .faddr 1 (.t 21), 0, (some (16, false))⟩, ⟨18, (some 25), .mv (.t 0), 0, (some (16, false))⟩, ⟨19, (some 26), .nilc (.t 25), 0, (some (16, false))⟩, ⟨20, (some 27), .faddr 0 (.t 26), 0, (some (16, false))⟩, ⟨21, (some 28), .faddr 2 (.t 27), 0, (some (16, false))⟩, ⟨16, (some 23), .load none (.t 22), 0, (some (16, false))⟩, ⟨17, (some 24), .len none (.t 23), 0, (some (16, false))⟩, ⟨22, (some 29), .load none (.t 28), 0, (some (16, false))⟩, ⟨23, (some 30), .bin .sub (.t 24) (.t 29), 0, (some (16, false))⟩, ⟨24, (some 31), .bin .gtr (.t 18) (.t 30), 0, (some (16, false))⟩, ⟨25, (some 32), .pick (.t 16) (.c (.bool true)) (.t 31), 0, none⟩] [0, 1, 2, 32])
    (.cond (.t 32)
     (.seq
      (.reg false [⟨0, (some 6), .mv (.c (.int .i64 (7))), 0, none⟩] [6])
      (.ret))
     (.skip)))
   (.seq
    (.seq
     (.reg false [⟨0, (some 33), .mv (.t 0), 0, none⟩, ⟨1, (some 34), .nilc (.t 33), 0, none⟩, ⟨2, (some 35), .faddr 0 (.t 34), 0, none⟩, ⟨3, (some 36), .faddr 0 (.t 35), 0, none⟩, ⟨4, (some 37), .load none (.t 36), 0, none⟩, ⟨5, (some 38), .mv (.t 1), 0, none⟩, ⟨6, (some 39), .call 38 [.t 37, .t 38], 2, none⟩, ⟨7, (some 40), .un .not (.t 39), 0, none⟩, ⟨8, (some 41), .mv (.t 40), 0, none⟩, ⟨9, (some 42), .mv (.t 0), 0, (some (41, false))⟩, ⟨10, (some 43), .nilc (.t 42), 0, (some (41, false))⟩, ⟨11, (some 44), .faddr 0 (.t 43), 0, (some (41, false))⟩, ⟨12, (some 45), .faddr 1 (.t 44), 0, (some (41, false))⟩, ⟨13, (some 46), .load none (.t 45), 0, (some (41, false))⟩, ⟨14, (some 47), .len none (.t 46), 0, (some (41, false))⟩, ⟨15, (some 48), .mv (.t 2), 0, (some (41, false))⟩, ⟨16, (some 49), .call 38 [.t 47, .t 48], 2, (some (41, false))⟩, ⟨17, (some 50), .un .not (.t 49), 0, (some (41, false))⟩, ⟨18, (some 51), .pick (.t 41) (.c (.bool true)) (.t 50), 0, none⟩, ⟨19, (some 52), .mv (.t 51), 0, none⟩, ⟨20, (some 53), .mv (.t 2), 0, (some (52, false))⟩, ⟨21, (some 54), .call 66 [.t 53], 2, (some (52, false))⟩, ⟨22, (some 55), .un .not (.t 54), 0, (some (52, false))⟩, ⟨23, (some 56), .pick (.t 52) (.c (.bool true)) (.t 55), 0, none⟩] [56])
     (.cond (.t 56)
      (.seq
       (.reg false [⟨0, (some 6), .mv (.c (.int .i64 (1))), 0, none⟩] [6])
       (.ret))
      (.skip)))
    (.seq
     (.reg false [⟨0, (some 6), .mv (.c (.int .i64 (0))), 0, none⟩] [6])
     (.ret))))

theorem ok72 : okF Tryz.prog 72 3 c72 [.tmp 6] = true := by kernel_rfl

/-- (*dauber/code.works).pair -/
def c73 : C :=
 .seq
  (.reg false [⟨0, (some 6), .mv (.c (.nils)), 0, none⟩, ⟨1, (some 7), .mv (.c (.nils)), 0, none⟩] [0, 1, 2])
  (.seq
   (.reg false [⟨0, (some 8), .nilo 1, 0, none⟩, ⟨1, (some 9), .nilo 1, 0, none⟩] [0, 1, 2, 8, 9])
   (.seq
    (.reg false [⟨0, (some 25), .bsl 1 1 [.int .i64 (0)] [(0, 1, .c (.int .i64 (1)))], 0, none⟩, ⟨1, (some 10), .mv (.t 25), 0, none⟩] [0, 1, 2, 8, 9, 10])
    (.seq
     (.seq
      (.reg false [⟨0, (some 26), .mv (.t 0), 0, none⟩, ⟨1, (some 27), .mv (.t 2), 0, none⟩, ⟨2, (some 28), .call 104 [.t 26, .t 27], 2, none⟩, ⟨3, (some 29), .len none (.t 28), 0, none⟩, ⟨4, (some 30), .mv (.c (.int .i64 (0))), 0, none⟩] [0, 1, 2, 8, 9, 10, 28, 29, 30])
      (.blk 0
       (.loop [0, 1, 2, 8, 9, 10, 28, 29, 30]
        (.seq
         (.reg false [⟨0, (some 31), .bin .lss (.t 30) (.t 29), 0, none⟩] [0, 1, 2, 8, 9, 10, 28, 29, 30, 31])
         (.seq
          (.cond (.t 31)
           (.skip)
           (.exit 0))
          (.seq
           (.blk 1
            (.seq
             (.reg false [⟨0, (some 32), .iaddr none 1 (.t 28) (.t 30), 0, none⟩, ⟨1, (some 33), .load none (.t 32), 0, none⟩, ⟨2, (some 12), .mv (.t 33), 0, none⟩] [0, 1, 2, 8, 9, 10, 12, 28, 29, 30])
             (.seq
              (.reg true [⟨0, (some 34), .mv (.t 0), 0, none⟩, ⟨1, (some 35), .nilc (.t 34), 0, none⟩, ⟨2, (some 36), .faddr 3 (.t 35), 0, none⟩, ⟨4, (some 38), .mv (.t 0), 0, none⟩, ⟨5, (some 39), .nilc (.t 38), 0, none⟩, ⟨6, (some 40), .faddr 0 (.t 39), 0, none⟩, ⟨7, (some 41), .faddr 1 (.t 40), 0, none⟩, ⟨9, (some 43), .mv (.t 12), 0, none⟩, ⟨3, (some 37), .load none (.t 36), 0, none⟩, ⟨8, (some 42), .load none (.t 41), 0, none⟩, ⟨10, (some 44), .iaddr none 1 (.t 42) (.t 43), 0, none⟩, ⟨11, (some 45), .load none (.t 44), 0, none⟩, ⟨12, (some 46), .call 105 [.t 37, .c (.int .i64 (0)), .t 45], 2, none⟩, ⟨13, (some 13), .mv (.t 46), 0, none⟩] [0, 1, 2, 8, 9, 10, 12, 13, 28, 29, 30])
              (.seq
               (.reg false [⟨0, (some 48), .mv (.t 0), 0, none⟩, ⟨1, (some 49), .nilc (.t 48), 0, none⟩, ⟨2, (some 50), .faddr 3 (.t 49), 0, none⟩, ⟨3, (some 51), .load none (.t 50), 0, none⟩, ⟨4, (some 52), .mv (.t 10), 0, none⟩, ⟨5, (some 53), .mv (.t 13), 0, none⟩, ⟨6, (some 54), .bsl 1 2 [.int .i64 (0), .int .i64 (0)] [(0, 1, .t 53), (1, 1, .c (.int .i64 (1)))], 0, none⟩, ⟨7, (some 55), .call 106 [.t 51, .t 52, .t 54], 2, none⟩, ⟨8, (some 47), .mv (.t 55), 0, none⟩, ⟨9, (some 56), .ext 0 (.t 47), 0, none⟩, ⟨10, (some 57), .ext 1 (.t 47), 0, none⟩, ⟨11, (some 10), .mv (.t 56), 0, none⟩] [0, 1, 2, 8, 9, 10, 12, 28, 29, 30])
               (.reg true [⟨0, (some 58), .mv (.t 8), 0, none⟩, ⟨1, (some 59), .mv (.t 0), 0, none⟩, ⟨2, (some 60), .nilc (.t 59), 0, none⟩, ⟨3, (some 61), .faddr 0 (.t 60), 0, none⟩, ⟨4, (some 62), .faddr 1 (.t 61), 0, none⟩, ⟨6, (some 64), .mv (.t 12), 0, none⟩, ⟨11, (some 69), .mv (.t 9), 0, none⟩, ⟨12, (some 70), .mv (.t 1), 0, none⟩, ⟨13, (some 71), .mv (.t 12), 0, none⟩, ⟨14, (some 72), .iaddr none 1 (.t 70) (.t 71), 0, none⟩, ⟨5, (some 63), .load none (.t 62), 0, none⟩, ⟨7, (some 65), .iaddr none 1 (.t 63) (.t 64), 0, none⟩, ⟨8, (some 66), .load none (.t 65), 0, none⟩, ⟨15, (some 73), .loadx none (.t 72) [8], 0, none⟩, ⟨9, (some 67), .bsl 1 1 [.int .i64 (0)] [(0, 1, .t 66)], 0, none⟩, ⟨10, (some 68), .appx 8 1 8 (.t 58) (.t 67), 0, none⟩, ⟨16, (some 74), .bsl 1 1 [.int .i64 (0)] [(0, 1, .t 73)], 0, none⟩, ⟨17, (some 75), .app 1 8 (.t 69) (.t 74), 0, none⟩, ⟨18, (some 8), .mv (.t 68), 0, none⟩, ⟨19, (some 9), .mv (.t 75), 0, none⟩] [0, 1, 2, 8, 9, 10, 28, 29, 30])))))
           (.reg false [⟨0, (some 76), .bin .add (.t 30) (.c (.int .i64 (1))), 0, none⟩, ⟨1, (some 30), .mv (.t 76), 0, none⟩] [0, 1, 2, 8, 9, 10, 28, 29, 30])))))))
     (.seq
      (.reg false [⟨0, (some 78), .mv (.t 0), 0, none⟩, ⟨1, (some 79), .nilc (.t 78), 0, none⟩, ⟨2, (some 80), .faddr 3 (.t 79), 0, none⟩, ⟨3, (some 81), .load none (.t 80), 0, none⟩, ⟨4, (some 82), .mv (.t 8), 0, none⟩, ⟨5, (some 83), .mv (.t 9), 0, none⟩, ⟨6, (some 84), .call 79 [.t 81, .t 82, .t 83], 2, none⟩, ⟨7, (some 77), .mv (.t 84), 0, none⟩, ⟨8, (some 85), .ext 0 (.t 77), 0, none⟩, ⟨9, (some 86), .ext 1 (.t 77), 0, none⟩, ⟨10, (some 14), .mv (.t 85), 0, none⟩, ⟨11, (some 15), .mv (.t 86), 0, none⟩] [0, 2, 8, 10, 14])
      (.seq
       (.reg false [⟨0, (some 87), .mv (.t 10), 0, none⟩, ⟨1, (some 88), .mv (.t 14), 0, none⟩, ⟨2, (some 89), .bsl 1 1 [.int .i64 (0)] [(0, 1, .c (.int .i64 (1)))], 0, none⟩, ⟨3, (some 16), .mv (.t 87), 0, none⟩, ⟨4, (some 17), .mv (.t 88), 0, none⟩, ⟨5, (some 18), .mv (.c (.nils)), 0, none⟩, ⟨6, (some 19), .mv (.t 89), 0, none⟩] [0, 2, 8, 16, 17, 18, 19])
       (.seq
        (.blk 2
         (.loop [0, 2, 8, 16, 17, 18, 19]
          (.seq
           (.seq
            (.reg false [⟨0, (some 90), .mv (.t 17), 0, none⟩, ⟨1, (some 91), .len none (.t 90), 0, none⟩, ⟨2, (some 92), .mv (.t 8), 0, none⟩, ⟨3, (some 93), .len none (.t 92), 0, none⟩, ⟨4, (some 94), .mv (.t 0), 0, none⟩, ⟨5, (some 95), .mv (.t 2), 0, none⟩, ⟨6, (some 96), .call 107 [.t 94, .t 95], 2, none⟩, ⟨7, (some 97), .bin .sub (.t 93) (.t 96), 0, none⟩, ⟨8, (some 98), .bin .gtr (.t 91) (.t 97), 0, none⟩] [0, 2, 8, 16, 17, 18, 19, 98])
            (.cond (.t 98)
             (.skip)
             (.exit 2)))
           (.blk 3
            (.seq
             (.reg false [⟨0, (some 100), .mv (.t 0), 0, none⟩, ⟨1, (some 101), .nilc (.t 100), 0, none⟩, ⟨2, (some 102), .faddr 3 (.t 101), 0, none⟩, ⟨3, (some 103), .load none (.t 102), 0, none⟩, ⟨4, (some 104), .mv (.t 16), 0, none⟩, ⟨5, (some 105), .mv (.t 17), 0, none⟩, ⟨6, (some 106), .call 108 [.t 103, .t 104, .t 105], 2, none⟩, ⟨7, (some 99), .mv (.t 106), 0, none⟩, ⟨8, (some 107), .ext 0 (.t 99), 0, none⟩, ⟨9, (some 108), .ext 1 (.t 99), 0, none⟩, ⟨10, (some 109), .ext 2 (.t 99), 0, none⟩, ⟨11, (some 20), .mv (.t 107), 0, none⟩, ⟨12, (some 21), .mv (.t 108), 0, none⟩, ⟨13, (some 22), .mv (.t 109), 0, none⟩] [0, 2, 8, 17, 18, 19, 20, 21])
             (.seq
              (.reg false [⟨0, (some 111), .mv (.t 0), 0, none⟩, ⟨1, (some 112), .nilc (.t 111), 0, none⟩, ⟨2, (some 113), .faddr 3 (.t 112), 0, none⟩, ⟨3, (some 114), .load none (.t 113), 0, none⟩, ⟨4, (some 115), .mv (.t 20), 0, none⟩, ⟨5, (some 116), .mv (.t 19), 0, none⟩, ⟨6, (some 117), .call 106 [.t 114, .t 115, .t 116], 2, none⟩, ⟨7, (some 110), .mv (.t 117), 0, none⟩, ⟨8, (some 118), .ext 0 (.t 110), 0, none⟩, ⟨9, (some 119), .ext 1 (.t 110), 0, none⟩, ⟨10, (some 23), .mv (.t 118), 0, none⟩, ⟨11, (some 24), .mv (.t 119), 0, none⟩] [0, 2, 8, 17, 18, 19, 21, 23])
              (.reg false [⟨0, (some 120), .mv (.t 17), 0, none⟩, ⟨1, (some 121), .mv (.t 21), 0, none⟩, ⟨2, (some 122), .mv (.t 19), 0, none⟩, ⟨3, (some 123), .mv (.t 0), 0, none⟩, ⟨4, (some 124), .mv (.t 18), 0, none⟩, ⟨5, (some 125), .mv (.t 23), 0, none⟩, ⟨6, (some 126), .call 109 [.t 123, .t 124, .t 125], 2, none⟩, ⟨7, (some 16), .mv (.t 120), 0, none⟩, ⟨8, (some 17), .mv (.t 121), 0, none⟩, ⟨9, (some 18), .mv (.t 122), 0, none⟩, ⟨10, (some 19), .mv (.t 126), 0, none⟩] [0, 2, 8, 16, 17, 18, 19])))))))
        (.seq
         (.reg false [⟨0, (some 127), .mv (.t 17), 0, none⟩, ⟨1, (some 128), .mv (.t 19), 0, none⟩, ⟨2, (some 6), .mv (.t 127), 0, none⟩, ⟨3, (some 7), .mv (.t 128), 0, none⟩] [6, 7])
         (.ret))))))))

theorem ok73 : okF Tryz.prog 73 3 c73 [.tmp 6, .tmp 7] = true := by kernel_rfl

/-- (*dauber/code.works).near -/
def c74 : C :=
 .seq
  (.reg false [⟨0, (some 10), .mv (.c (.nils)), 0, none⟩, ⟨1, (some 11), .mv (.c (.bool false)), 0, none⟩] [0, 1, 2, 3, 4])
  (.seq
   (.seq
    (.reg false [⟨0, (some 16), .mv (.t 4), 0, none⟩, ⟨1, (some 17), .len none (.t 16), 0, none⟩, ⟨2, (some 18), .bin .eql (.t 17) (.c (.int .i64 (0))), 0, none⟩] [0, 1, 2, 3, 4, 18])
    (.cond (.t 18)
     (.seq
      (.reg false [⟨0, (some 10), .mv (.c (.nils)), 0, none⟩, ⟨1, (some 11), .mv (.c (.bool false)), 0, none⟩] [10, 11])
      (.ret))
     (.skip)))
   (.seq
    (.reg false [⟨0, (some 20), .mv (.t 0), 0, none⟩, ⟨1, (some 21), .nilc (.t 20), 0, none⟩, ⟨2, (some 22), .faddr 3 (.t 21), 0, none⟩, ⟨3, (some 23), .load none (.t 22), 0, none⟩, ⟨4, (some 24), .mv (.t 3), 0, none⟩, ⟨5, (some 25), .mv (.t 4), 0, none⟩, ⟨6, (some 26), .call 108 [.t 23, .t 24, .t 25], 2, none⟩, ⟨7, (some 19), .mv (.t 26), 0, none⟩, ⟨8, (some 27), .ext 0 (.t 19), 0, none⟩, ⟨9, (some 28), .ext 1 (.t 19), 0, none⟩, ⟨10, (some 29), .ext 2 (.t 19), 0, none⟩, ⟨11, (some 12), .mv (.t 27), 0, none⟩, ⟨12, (some 13), .mv (.t 28), 0, none⟩, ⟨13, (some 14), .mv (.t 29), 0, none⟩] [0, 1, 2, 12, 13])
    (.seq
     (.seq
      (.reg false [⟨0, (some 30), .mv (.t 13), 0, none⟩, ⟨1, (some 31), .len none (.t 30), 0, none⟩, ⟨2, (some 32), .bin .gtr (.t 31) (.c (.int .i64 (0))), 0, none⟩, ⟨3, (some 33), .mv (.t 32), 0, none⟩, ⟨4, (some 34), .mv (.t 12), 0, (some (33, false))⟩, ⟨5, (some 35), .len none (.t 34), 0, (some (33, false))⟩, ⟨6, (some 36), .mv (.t 0), 0, (some (33, false))⟩, ⟨7, (some 37), .nilc (.t 36), 0, (some (33, false))⟩, ⟨8, (some 38), .faddr 0 (.t 37), 0, (some (33, false))⟩, ⟨9, (some 39), .faddr 2 (.t 38), 0, (some (33, false))⟩, ⟨10, (some 40), .load none (.t 39), 0, (some (33, false))⟩, ⟨11, (some 41), .bin .gtr (.t 35) (.t 40), 0, (some (33, false))⟩, ⟨12, (some 42), .pick (.t 33) (.c (.bool true)) (.t 41), 0, none⟩] [0, 1, 2, 12, 42])
      (.cond (.t 42)
       (.seq
        (.reg false [⟨0, (some 10), .mv (.c (.nils)), 0, none⟩, ⟨1, (some 11), .mv (.c (.bool false)), 0, none⟩] [10, 11])
        (.ret))
       (.skip)))
     (.seq
      (.reg false [⟨0, (some 43), .mv (.t 0), 0, none⟩, ⟨1, (some 44), .mv (.t 12), 0, none⟩, ⟨2, (some 45), .call 39 [.t 43, .t 44], 2, none⟩, ⟨3, (some 15), .mv (.t 45), 0, none⟩] [0, 1, 2, 15])
      (.seq
       (.reg false [⟨0, (some 46), .mv (.t 15), 0, none⟩, ⟨1, (some 47), .mv (.t 15), 0, none⟩, ⟨2, (some 48), .mv (.t 1), 0, none⟩, ⟨3, (some 49), .mv (.t 0), 0, none⟩, ⟨4, (some 50), .mv (.t 2), 0, none⟩, ⟨5, (some 51), .call 104 [.t 49, .t 50], 2, none⟩, ⟨6, (some 52), .call 110 [.t 47, .t 48, .t 51], 2, none⟩, ⟨7, (some 53), .mv (.t 0), 0, none⟩, ⟨8, (some 54), .mv (.t 2), 0, none⟩, ⟨9, (some 55), .call 107 [.t 53, .t 54], 2, none⟩, ⟨10, (some 56), .bin .leq (.t 52) (.t 55), 0, none⟩, ⟨11, (some 10), .mv (.t 46), 0, none⟩, ⟨12, (some 11), .mv (.t 56), 0, none⟩] [10, 11])
       (.ret))))))

theorem ok74 : okF Tryz.prog 74 5 c74 [.tmp 10, .tmp 11] = true := by kernel_rfl

/-- dauber/field.primes -/
def c75 : C :=
 .seq
  (.reg false [⟨0, (some 2), .mv (.c (.nils)), 0, none⟩] [0])
  (.seq
   (.reg false [⟨0, (some 3), .nilo 1, 0, none⟩] [0, 3])
   (.seq
    (.seq
     (.reg false [⟨0, (some 4), .mv (.c (.int .i64 (2))), 0, none⟩] [0, 3, 4])
     (.blk 0
      (.loop [0, 3, 4]
       (.seq
        (.seq
         (.reg false [⟨0, (some 5), .mv (.t 4), 0, none⟩, ⟨1, (some 6), .mv (.t 4), 0, none⟩, ⟨2, (some 7), .bin .mul (.t 5) (.t 6), 0, none⟩, ⟨3, (some 8), .mv (.t 0), 0, none⟩, ⟨4, (some 9), .bin .leq (.t 7) (.t 8), 0, none⟩] [0, 3, 4, 9])
         (.cond (.t 9)
          (.skip)
          (.exit 0)))
        (.seq
         (.blk 1
          (.seq
           (.reg false [⟨0, (some 12), .mv (.t 0), 0, none⟩, ⟨1, (some 13), .mv (.t 4), 0, none⟩, ⟨2, (some 14), .bin .rem (.t 12) (.t 13), 0, none⟩, ⟨3, (some 15), .bin .eql (.t 14) (.c (.int .i64 (0))), 0, none⟩] [0, 3, 4, 15])
           (.cond (.t 15)
            (.seq
             (.reg false [⟨0, (some 16), .mv (.t 3), 0, none⟩, ⟨1, (some 17), .mv (.t 4), 0, none⟩, ⟨2, (some 18), .bsl 1 1 [.int .i64 (0)] [(0, 1, .t 17)], 0, none⟩, ⟨3, (some 19), .app 1 8 (.t 16) (.t 18), 0, none⟩, ⟨4, (some 3), .mv (.t 19), 0, none⟩] [0, 3, 4])
             (.blk 2
              (.loop [0, 3, 4]
               (.seq
                (.seq
                 (.reg false [⟨0, (some 20), .mv (.t 0), 0, none⟩, ⟨1, (some 21), .mv (.t 4), 0, none⟩, ⟨2, (some 22), .bin .rem (.t 20) (.t 21), 0, none⟩, ⟨3, (some 23), .bin .eql (.t 22) (.c (.int .i64 (0))), 0, none⟩] [0, 3, 4, 23])
                 (.cond (.t 23)
                  (.skip)
                  (.exit 2)))
                (.blk 3
                 (.reg false [⟨0, (some 24), .mv (.t 0), 0, none⟩, ⟨1, (some 25), .mv (.t 4), 0, none⟩, ⟨2, (some 26), .bin .quo (.t 24) (.t 25), 0, none⟩, ⟨3, (some 0), .mv (.t 26), 0, none⟩] [0, 3, 4]))))))
            (.skip))))
         (.reg false [⟨0, (some 10), .mv (.t 4), 0, none⟩, ⟨1, (some 11), .bin .add (.t 10) (.c (.int .i64 (1))), 0, none⟩, ⟨2, (some 4), .mv (.t 11), 0, none⟩] [0, 3, 4]))))))
    (.seq
     (.seq
      (.reg false [⟨0, (some 27), .mv (.t 0), 0, none⟩, ⟨1, (some 28), .bin .gtr (.t 27) (.c (.int .i64 (1))), 0, none⟩] [0, 3, 28])
      (.cond (.t 28)
       (.reg false [⟨0, (some 29), .mv (.t 3), 0, none⟩, ⟨1, (some 30), .mv (.t 0), 0, none⟩, ⟨2, (some 31), .bsl 1 1 [.int .i64 (0)] [(0, 1, .t 30)], 0, none⟩, ⟨3, (some 32), .app 1 8 (.t 29) (.t 31), 0, none⟩, ⟨4, (some 3), .mv (.t 32), 0, none⟩] [3])
       (.skip)))
     (.seq
      (.reg false [⟨0, (some 33), .mv (.t 3), 0, none⟩, ⟨1, (some 2), .mv (.t 33), 0, none⟩] [2])
      (.ret)))))

theorem ok75 : okF Tryz.prog 75 1 c75 [.tmp 2] = true := by kernel_rfl

/-- (*dauber/field.Field).first -/
def c76 : C :=
 .seq
  (.reg false [⟨0, (some 2), .box 1 (.t 0), 0, none⟩, ⟨1, (some 3), .box 1 (.t 1), 0, none⟩, ⟨2, (some 4), .mv (.c (.int .i64 (0))), 0, none⟩] [2, 3])
  (.seq
   (.reg false [⟨0, (some 7), .load none (.t 2), 0, none⟩, ⟨1, (some 8), .nilc (.t 7), 0, none⟩, ⟨2, (some 9), .faddr 1 (.t 8), 0, none⟩, ⟨3, (some 10), .load none (.t 9), 0, none⟩, ⟨4, (some 11), .bin .sub (.t 10) (.c (.int .i64 (1))), 0, none⟩, ⟨5, (some 12), .call 75 [.t 11], 2, none⟩, ⟨6, (some 5), .mv (.t 12), 0, none⟩] [2, 3, 5])
   (.seq
    (.reg false [⟨0, (some 6), .alloc [.int .i64 (0)] 1, 0, none⟩, ⟨1, none, .store 1 (.t 6) (.c (.int .i64 (1))), 0, none⟩] [2, 3, 5, 6])
    (.blk 0
     (.loop [2, 3, 5, 6]
      (.seq
       (.blk 1
        (.seq
         (.reg false [⟨0, (some 15), .mv (.t 5), 0, none⟩, ⟨1, (some 16), .mkfn (.func 111) [] [.t 3, .t 6, .t 2], 0, none⟩, ⟨2, (some 17), .call 67 [.t 15, .t 16], 2, none⟩, ⟨3, (some 18), .un .not (.t 17), 0, none⟩] [2, 3, 5, 6, 18])
         (.cond (.t 18)
          (.seq
           (.reg false [⟨0, (some 19), .load none (.t 6), 0, none⟩, ⟨1, (some 4), .mv (.t 19), 0, none⟩] [4])
           (.ret))
          (.skip))))
       (.seq
        (.seq
         (.reg false [⟨0, (some 20), .load none (.t 6), 0, none⟩] [2, 3, 5, 20])
         (.reg false [⟨0, (some 6), .alloc [.int .i64 (0)] 1, 0, none⟩, ⟨1, none, .store 1 (.t 6) (.t 20), 0, none⟩] [2, 3, 5, 6]))
        (.reg false [⟨0, (some 13), .load none (.t 6), 0, none⟩, ⟨1, (some 14), .bin .add (.t 13) (.c (.int .i64 (1))), 0, none⟩, ⟨2, none, .store 1 (.t 6) (.t 14), 0, none⟩] [2, 3, 5, 6])))))))

theorem ok76 : okF Tryz.prog 76 2 c76 [.tmp 4] = true := by kernel_rfl

/-- dauber/field.least -/
def c77 : C :=
 .seq
  (.reg false [⟨0, (some 6), .mv (.c (.nils)), 0, none⟩] [6])
  (.bad)

theorem ok77 : okF Tryz.prog 77 3 c77 [.tmp 6] = true := by kernel_rfl

/-- dauber/field.newTables -/
def c78 : C :=
 .seq
  (.reg false [⟨0, (some 2), .box 3 (.t 0), 0, none⟩, ⟨1, (some 3), .box 1 (.t 1), 0, none⟩, ⟨2, (some 4), .mv (.c (.nilp)), 0, none⟩] [2, 3])
  (.seq
   (.reg true [⟨1, (some 11), .faddr 2 (.t 2), 0, none⟩, ⟨0, (some 10), .load (some 3) (.t 2), 0, none⟩, ⟨2, (some 12), .load none (.t 11), 0, none⟩, ⟨3, (some 13), .mksl 1 8 [.int .i64 (0)] (.t 12) (.t 12), 0, none⟩, ⟨4, (some 14), .build [.int .i64 (0), .nils, .int .i64 (0), .nils, .nils] [(0, 3, .t 10), (4, 1, .t 13)], 0, none⟩, ⟨5, (some 15), .box 5 (.t 14), 0, none⟩, ⟨6, (some 5), .mv (.t 15), 0, none⟩] [2, 3, 5])
   (.seq
    (.reg false [⟨0, (some 6), .alloc [.int .i64 (0)] 1, 0, none⟩, ⟨1, none, .store 1 (.t 6) (.c (.int .i64 (1))), 0, none⟩] [2, 3, 5, 6])
    (.seq
     (.reg false [⟨0, (some 16), .mkfn (.func 117) [] [.t 6, .t 2, .t 3], 0, none⟩, ⟨1, (some 7), .mv (.t 16), 0, none⟩] [2, 5, 7])
     (.seq
      (.seq
       (.reg false [⟨0, (some 17), .faddr 2 (.t 2), 0, none⟩, ⟨1, (some 18), .load none (.t 17), 0, none⟩, ⟨2, (some 19), .bin .sub (.t 18) (.c (.int .i64 (1))), 0, none⟩, ⟨3, (some 20), .mv (.c (.int .i64 (0))), 0, none⟩] [5, 7, 19, 20])
       (.blk 0
        (.loop [5, 7, 19, 20]
         (.seq
          (.reg false [⟨0, (some 21), .bin .lss (.t 20) (.t 19), 0, none⟩] [5, 7, 19, 20, 21])
          (.seq
           (.cond (.t 21)
            (.skip)
            (.exit 0))
           (.seq
            (.blk 1
             (.seq
              (.reg false [⟨0, (some 22), .mv (.t 20), 0, none⟩, ⟨1, (some 8), .mv (.t 22), 0, none⟩] [5, 7, 8, 19, 20])
              (.seq
               (.reg false [⟨0, (some 23), .mv (.t 7), 0, none⟩, ⟨1, (some 24), .callv (.t 23) [], 2, none⟩, ⟨2, (some 9), .mv (.t 24), 0, none⟩] [5, 7, 8, 9, 19, 20])
               (.seq
                (.reg false [⟨0, (some 25), .mv (.t 5), 0, none⟩, ⟨1, (some 26), .mv (.t 5), 0, none⟩, ⟨2, (some 27), .nilc (.t 26), 0, none⟩, ⟨3, (some 28), .faddr 3 (.t 27), 0, none⟩, ⟨4, (some 29), .load none (.t 28), 0, none⟩, ⟨5, (some 30), .mv (.t 9), 0, none⟩, ⟨6, (some 31), .bsl 1 1 [.int .i64 (0)] [(0, 1, .t 30)], 0, none⟩, ⟨7, (some 32), .app 1 8 (.t 29) (.t 31), 0, none⟩, ⟨8, (some 33), .nilc (.t 25), 0, none⟩, ⟨9, (some 34), .faddr 3 (.t 33), 0, none⟩, ⟨10, none, .store 1 (.t 34) (.t 32), 0, none⟩] [5, 7, 8, 9, 19, 20])
                (.reg false [⟨0, (some 35), .mv (.t 5), 0, none⟩, ⟨1, (some 36), .nilc (.t 35), 0, none⟩, ⟨2, (some 37), .faddr 4 (.t 36), 0, none⟩, ⟨3, (some 38), .load none (.t 37), 0, none⟩, ⟨4, (some 39), .mv (.t 9), 0, none⟩, ⟨5, (some 40), .mv (.t 8), 0, none⟩, ⟨6, (some 41), .iaddr none 1 (.t 38) (.t 39), 0, none⟩, ⟨7, none, .store 1 (.t 41) (.t 40), 0, none⟩] [5, 7, 19, 20])))))
            (.reg false [⟨0, (some 42), .bin .add (.t 20) (.c (.int .i64 (1))), 0, none⟩, ⟨1, (some 20), .mv (.t 42), 0, none⟩] [5, 7, 19, 20])))))))
      (.seq
       (.reg false [⟨0, (some 43), .mv (.t 5), 0, none⟩, ⟨1, (some 4), .mv (.t 43), 0, none⟩] [4])
       (.ret))))))

theorem ok78 : okF Tryz.prog 78 2 c78 [.tmp 4] = true := by kernel_rfl

/-- (*dauber/field.Field).Through -/
def c79 : C :=
 .seq
  (.reg false [⟨0, (some 6), .mv (.c (.nils)), 0, none⟩, ⟨1, (some 7), .mv (.c (.int .i64 (0))), 0, none⟩] [0, 1, 2])
  (.seq
   (.seq
    (.reg false [⟨0, (some 8), .mv (.t 0), 0, none⟩, ⟨1, (some 9), .eqn 0 false (.t 8) (.c (.nilp)), 0, none⟩] [0, 1, 2, 9])
    (.cond (.t 9)
     (.seq
      (.reg false [⟨0, (some 6), .mv (.c (.nils)), 0, none⟩, ⟨1, (some 7), .mv (.c (.int .i64 (3))), 0, none⟩] [6, 7])
      (.ret))
     (.skip)))
   (.seq
    (.seq
     (.reg false [⟨0, (some 10), .mv (.t 1), 0, none⟩, ⟨1, (some 11), .len none (.t 10), 0, none⟩, ⟨2, (some 12), .mv (.t 2), 0, none⟩, ⟨3, (some 13), .len none (.t 12), 0, none⟩, ⟨4, (some 14), .bin .neq (.t 11) (.t 13), 0, none⟩] [0, 1, 2, 14])
     (.cond (.t 14)
      (.seq
       (.reg false [⟨0, (some 6), .mv (.c (.nils)), 0, none⟩, ⟨1, (some 7), .mv (.c (.int .i64 (7))), 0, none⟩] [6, 7])
       (.ret))
      (.skip)))
    (.seq
     (.seq
      (.reg false [⟨0, (some 15), .mv (.t 1), 0, none⟩, ⟨1, (some 16), .len none (.t 15), 0, none⟩, ⟨2, (some 17), .bin .gtr (.t 16) (.c (.int .i64 (200))), 0, none⟩] [0, 1, 2, 17])
      (.cond (.t 17)
       (.seq
        (.reg false [⟨0, (some 6), .mv (.c (.nils)), 0, none⟩, ⟨1, (some 7), .mv (.c (.int .i64 (2))), 0, none⟩] [6, 7])
        (.ret))
       (.skip)))
     (.seq
      (.seq
       (.reg false [⟨0, (some 18), .mv (.t 0), 0, none⟩, ⟨1, (some 19), .mv (.t 1), 0, none⟩, ⟨2, (some 20), .call 119 [.t 18, .t 19], 2, none⟩, ⟨3, (some 21), .un .not (.t 20), 0, none⟩, ⟨4, (some 22), .mv (.t 21), 0, none⟩, ⟨5, (some 23), .mv (.t 0), 0, (some (22, false))⟩, ⟨6, (some 24), .mv (.t 2), 0, (some (22, false))⟩, ⟨7, (some 25), .call 119 [.t 23, .t 24], 2, (some (22, false))⟩, ⟨8, (some 26), .un .not (.t 25), 0, (some (22, false))⟩, ⟨9, (some 27), .pick (.t 22) (.c (.bool true)) (.t 26), 0, none⟩, ⟨10, (some 28), .mv (.t 27), 0, none⟩, ⟨11, (some 29), .mv (.t 1), 0, (some (28, false))⟩, ⟨12, (some 30), .call 120 [.t 29], 2, (some (28, false))⟩, ⟨13, (some 31), .un .not (.t 30), 0, (some (28, false))⟩, ⟨14, (some 32), .pick (.t 28) (.c (.bool true)) (.t 31), 0, none⟩] [0, 1, 2, 32])
       (.cond (.t 32)
        (.seq
         (.reg false [⟨0, (some 6), .mv (.c (.nils)), 0, none⟩, ⟨1, (some 7), .mv (.c (.int .i64 (1))), 0, none⟩] [6, 7])
         (.ret))
        (.skip)))
      (.seq
       (.reg false [⟨0, (some 33), .mv (.t 0), 0, none⟩, ⟨1, (some 34), .mv (.t 1), 0, none⟩, ⟨2, (some 35), .mv (.t 2), 0, none⟩, ⟨3, (some 36), .call 121 [.t 33, .t 34, .t 35], 2, none⟩, ⟨4, (some 6), .mv (.t 36), 0, none⟩, ⟨5, (some 7), .mv (.c (.int .i64 (0))), 0, none⟩] [6, 7])
       (.ret))))))

theorem ok79 : okF Tryz.prog 79 3 c79 [.tmp 6, .tmp 7] = true := by kernel_rfl

end Go.Dp
