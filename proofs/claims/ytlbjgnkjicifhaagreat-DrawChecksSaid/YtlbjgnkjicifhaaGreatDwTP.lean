import Derived.Test.YtlbjgnkjicifhaaGreatProg
import Derived.Test.YtlbjgnkjicifhaaGreatDpRunS
namespace Go.Dp
open Go.RowKit Go.Proofs
set_option maxRecDepth 100000
/-- dauber/dauberlaw09.DrawChecks -/
def c10 : C :=
 .seq
 (.reg false [⟨0, (some 2), .box 6 (.t 0), 0, none⟩, ⟨1, (some 4), .mv (.c (.bool false)), 0, none⟩] [1, 2])
 (.seq
 (.reg false [⟨0, (some 42), .load (some 6) (.t 2), 0, none⟩, ⟨1, (some 43), .call 35 [.t 42], 2, none⟩, ⟨2, (some 5), .mv (.t 43), 0, none⟩] [1, 2, 5])
 (.seq
 (.reg false [⟨0, (some 44), .load (some 6) (.t 2), 0, none⟩, ⟨1, (some 45), .call 16 [.t 44], 2, none⟩, ⟨2, (some 6), .alloc (List.replicate 6 (.int .i64 (0))) 6, 0, none⟩, ⟨3, none, .store 6 (.t 6) (.t 45), 0, none⟩] [1, 5, 6])
 (.seq
 (.seq
 (.reg false [⟨0, (some 46), .load (some 6) (.t 6), 0, none⟩, ⟨1, (some 47), .call 36 [.t 46], 2, none⟩, ⟨2, (some 48), .mv (.t 5), 0, none⟩, ⟨3, (some 49), .bin .neq (.t 47) (.t 48), 0, none⟩] [1, 5, 6, 49])
 (.cond (.t 49)
 (.seq
 (.reg false [⟨0, (some 4), .mv (.c (.bool false)), 0, none⟩] [4])
 (.ret))
 (.skip)))
 (.seq
 (.seq
 (.reg false [⟨0, (some 50), .mv (.t 5), 0, none⟩, ⟨1, (some 51), .bin .neq (.t 50) (.c (.int .i64 (0))), 0, none⟩] [1, 5, 6, 51])
 (.cond (.t 51)
 (.seq
 (.reg false [⟨0, (some 7), .alloc [.nils, .nils, .nils, .nils] 4, 0, none⟩] [5, 6, 7])
 (.seq
 (.reg false [⟨0, (some 53), .load (some 6) (.t 6), 0, none⟩, ⟨1, (some 54), .load (some 4) (.t 7), 0, none⟩, ⟨2, (some 55), .call 37 [.t 53, .t 54], 2, none⟩, ⟨3, (some 52), .mv (.t 55), 0, none⟩, ⟨4, (some 56), .ext 0 (.t 52), 0, none⟩, ⟨5, (some 57), .ext 1 (.t 52), 0, none⟩, ⟨6, (some 8), .mv (.t 56), 0, none⟩, ⟨7, (some 9), .mv (.t 57), 0, none⟩] [5, 6, 7, 9])
 (.seq
 (.reg false [⟨0, (some 59), .load (some 6) (.t 6), 0, none⟩, ⟨1, (some 60), .load (some 4) (.t 7), 0, none⟩, ⟨2, (some 61), .call 32 [.t 59, .t 60], 2, none⟩, ⟨3, (some 58), .mv (.t 61), 0, none⟩, ⟨4, (some 62), .ext 0 (.t 58), 0, none⟩, ⟨5, (some 63), .ext 1 (.t 58), 0, none⟩, ⟨6, (some 10), .mv (.t 62), 0, none⟩, ⟨7, (some 11), .mv (.t 63), 0, none⟩] [5, 6, 7, 9, 11])
 (.seq
 (.reg false [⟨0, (some 65), .load (some 6) (.t 6), 0, none⟩, ⟨1, (some 66), .load (some 4) (.t 7), 0, none⟩, ⟨2, (some 67), .call 38 [.t 65, .t 66, .c (.int .i64 (1))], 2, none⟩, ⟨3, (some 64), .mv (.t 67), 0, none⟩, ⟨4, (some 68), .ext 0 (.t 64), 0, none⟩, ⟨5, (some 69), .ext 1 (.t 64), 0, none⟩, ⟨6, (some 12), .mv (.t 68), 0, none⟩, ⟨7, (some 13), .mv (.t 69), 0, none⟩] [5, 6, 7, 9, 11, 13])
 (.seq
 (.reg false [⟨0, (some 71), .load (some 6) (.t 6), 0, none⟩, ⟨1, (some 72), .load (some 4) (.t 7), 0, none⟩, ⟨2, (some 73), .call 24 [.t 71, .t 72], 2, none⟩, ⟨3, (some 70), .mv (.t 73), 0, none⟩, ⟨4, (some 74), .ext 0 (.t 70), 0, none⟩, ⟨5, (some 75), .ext 1 (.t 70), 0, none⟩, ⟨6, (some 14), .mv (.t 74), 0, none⟩, ⟨7, (some 15), .mv (.t 75), 0, none⟩] [5, 6, 7, 9, 11, 13, 15])
 (.seq
 (.reg false [⟨0, (some 77), .load (some 6) (.t 6), 0, none⟩, ⟨1, (some 78), .load (some 4) (.t 7), 0, none⟩, ⟨2, (some 79), .call 31 [.t 77, .t 78], 2, none⟩, ⟨3, (some 76), .mv (.t 79), 0, none⟩, ⟨4, (some 80), .ext 0 (.t 76), 0, none⟩, ⟨5, (some 81), .ext 1 (.t 76), 0, none⟩, ⟨6, (some 16), .mv (.t 80), 0, none⟩, ⟨7, (some 17), .mv (.t 81), 0, none⟩] [5, 6, 7, 9, 11, 13, 15, 17])
 (.seq
 (.reg false [⟨0, (some 83), .load (some 6) (.t 6), 0, none⟩, ⟨1, (some 84), .load (some 4) (.t 7), 0, none⟩, ⟨2, (some 85), .call 33 [.t 83, .t 84], 2, none⟩, ⟨3, (some 82), .mv (.t 85), 0, none⟩, ⟨4, (some 86), .ext 0 (.t 82), 0, none⟩, ⟨5, (some 87), .ext 1 (.t 82), 0, none⟩, ⟨6, (some 18), .mv (.t 86), 0, none⟩, ⟨7, (some 19), .mv (.t 87), 0, none⟩] [5, 6, 7, 9, 11, 13, 15, 17, 19])
 (.seq
 (.reg false [⟨0, (some 89), .load (some 6) (.t 6), 0, none⟩, ⟨1, (some 90), .load (some 4) (.t 7), 0, none⟩, ⟨2, (some 91), .call 26 [.t 89, .c (.int .i64 (1)), .c (.nils), .c (.nils), .t 90, .c (.int .i64 (0))], 2, none⟩, ⟨3, (some 88), .mv (.t 91), 0, none⟩, ⟨4, (some 92), .ext 0 (.t 88), 0, none⟩, ⟨5, (some 93), .ext 1 (.t 88), 0, none⟩, ⟨6, (some 20), .mv (.t 92), 0, none⟩, ⟨7, (some 21), .mv (.t 93), 0, none⟩] [5, 6, 7, 9, 11, 13, 15, 17, 19, 20, 21])
 (.seq
 (.reg false [⟨0, (some 95), .load (some 6) (.t 6), 0, none⟩, ⟨1, (some 96), .load (some 4) (.t 7), 0, none⟩, ⟨2, (some 97), .call 15 [.t 95, .c (.nils), .t 96, .c (.nils)], 2, none⟩, ⟨3, (some 94), .mv (.t 97), 0, none⟩, ⟨4, (some 98), .ext 0 (.t 94), 0, none⟩, ⟨5, (some 99), .ext 1 (.t 94), 0, none⟩, ⟨6, (some 22), .alloc [.nils, .nils, .nils, .nils] 4, 0, none⟩, ⟨7, none, .store 4 (.t 22) (.t 98), 0, none⟩, ⟨8, (some 23), .mv (.t 99), 0, none⟩] [5, 9, 11, 13, 15, 17, 19, 20, 21, 22, 23])
 (.seq
 (.reg false [⟨0, (some 100), .mv (.t 9), 0, none⟩, ⟨1, (some 101), .mv (.t 5), 0, none⟩, ⟨2, (some 102), .bin .eql (.t 100) (.t 101), 0, none⟩, ⟨3, (some 103), .mv (.t 102), 0, none⟩, ⟨4, (some 104), .mv (.t 11), 0, (some (103, true))⟩, ⟨5, (some 105), .mv (.t 5), 0, (some (103, true))⟩, ⟨6, (some 106), .bin .eql (.t 104) (.t 105), 0, (some (103, true))⟩, ⟨7, (some 107), .pick (.t 103) (.t 106) (.c (.bool false)), 0, none⟩, ⟨8, (some 108), .mv (.t 107), 0, none⟩, ⟨9, (some 109), .mv (.t 13), 0, (some (108, true))⟩, ⟨10, (some 110), .mv (.t 5), 0, (some (108, true))⟩, ⟨11, (some 111), .bin .eql (.t 109) (.t 110), 0, (some (108, true))⟩, ⟨12, (some 112), .pick (.t 108) (.t 111) (.c (.bool false)), 0, none⟩, ⟨13, (some 113), .mv (.t 112), 0, none⟩, ⟨14, (some 114), .mv (.t 15), 0, (some (113, true))⟩, ⟨15, (some 115), .mv (.t 5), 0, (some (113, true))⟩, ⟨16, (some 116), .bin .eql (.t 114) (.t 115), 0, (some (113, true))⟩, ⟨17, (some 117), .pick (.t 113) (.t 116) (.c (.bool false)), 0, none⟩, ⟨18, (some 118), .mv (.t 117), 0, none⟩, ⟨19, (some 119), .mv (.t 17), 0, (some (118, true))⟩, ⟨20, (some 120), .mv (.t 5), 0, (some (118, true))⟩, ⟨21, (some 121), .bin .eql (.t 119) (.t 120), 0, (some (118, true))⟩, ⟨22, (some 122), .pick (.t 118) (.t 121) (.c (.bool false)), 0, none⟩, ⟨23, (some 123), .mv (.t 122), 0, none⟩, ⟨24, (some 124), .mv (.t 19), 0, (some (123, true))⟩, ⟨25, (some 125), .mv (.t 5), 0, (some (123, true))⟩, ⟨26, (some 126), .bin .eql (.t 124) (.t 125), 0, (some (123, true))⟩, ⟨27, (some 127), .pick (.t 123) (.t 126) (.c (.bool false)), 0, none⟩, ⟨28, (some 128), .mv (.t 127), 0, none⟩, ⟨29, (some 129), .mv (.t 21), 0, (some (128, true))⟩, ⟨30, (some 130), .mv (.t 5), 0, (some (128, true))⟩, ⟨31, (some 131), .bin .eql (.t 129) (.t 130), 0, (some (128, true))⟩, ⟨32, (some 132), .pick (.t 128) (.t 131) (.c (.bool false)), 0, none⟩, ⟨33, (some 133), .mv (.t 132), 0, none⟩, ⟨34, (some 134), .mv (.t 23), 0, (some (133, true))⟩, ⟨35, (some 135), .mv (.t 5), 0, (some (133, true))⟩, ⟨36, (some 136), .bin .eql (.t 134) (.t 135), 0, (some (133, true))⟩, ⟨37, (some 137), .pick (.t 133) (.t 136) (.c (.bool false)), 0, none⟩, ⟨38, (some 138), .mv (.t 137), 0, none⟩, ⟨39, (some 139), .mv (.t 20), 0, (some (138, true))⟩, ⟨40, (some 140), .len none (.t 139), 0, (some (138, true))⟩, ⟨41, (some 141), .bin .eql (.t 140) (.c (.int .i64 (0))), 0, (some (138, true))⟩, ⟨42, (some 142), .pick (.t 138) (.t 141) (.c (.bool false)), 0, none⟩, ⟨43, (some 143), .mv (.t 142), 0, none⟩, ⟨44, (some 144), .faddr 0 (.t 22), 0, (some (143, true))⟩, ⟨45, (some 145), .load none (.t 144), 0, (some (143, true))⟩, ⟨46, (some 146), .len none (.t 145), 0, (some (143, true))⟩, ⟨47, (some 147), .bin .eql (.t 146) (.c (.int .i64 (0))), 0, (some (143, true))⟩, ⟨48, (some 148), .pick (.t 143) (.t 147) (.c (.bool false)), 0, none⟩, ⟨49, (some 149), .mv (.t 148), 0, none⟩, ⟨50, (some 150), .call 22 [], 2, (some (149, true))⟩, ⟨51, (some 151), .pick (.t 149) (.t 150) (.c (.bool false)), 0, none⟩, ⟨52, (some 4), .mv (.t 151), 0, none⟩] [4])
 (.ret)))))))))))
 (.skip)))
 (.seq
 (.reg false [⟨0, (some 152), .mv (.t 1), 0, none⟩, ⟨1, (some 153), .cvt .u64 (.t 152), 0, none⟩, ⟨2, (some 154), .bin .rem (.t 153) (.c (.int .u64 (2))), 0, none⟩, ⟨3, (some 155), .cvt .i64 (.t 154), 0, none⟩, ⟨4, (some 156), .bin .add (.c (.int .i64 (400))) (.t 155), 0, none⟩, ⟨5, (some 24), .mv (.t 156), 0, none⟩] [1, 6, 24])
 (.seq
 (.reg false [⟨0, (some 157), .mv (.t 24), 0, none⟩, ⟨1, (some 158), .mksl 4 48 [.int .i64 (0), .int .i64 (0), .int .i64 (0), .nils] (.t 157) (.t 157), 0, none⟩, ⟨2, (some 25), .mv (.t 158), 0, none⟩] [1, 6, 24, 25])
 (.seq
 (.reg false [⟨0, (some 159), .build [.nils, .nils, .nils, .nils] [], 0, none⟩, ⟨1, (some 26), .alloc [.nils, .nils, .nils, .nils] 4, 0, none⟩, ⟨2, none, .store 4 (.t 26) (.t 159), 0, none⟩] [1, 6, 24, 25, 26])
 (.seq
 (.seq
 (.reg false [⟨0, (some 160), .mv (.t 1), 0, none⟩, ⟨1, (some 161), .cvt .u64 (.t 160), 0, none⟩, ⟨2, (some 162), .bin .rem (.t 161) (.c (.int .u64 (5))), 0, none⟩] [1, 6, 24, 25, 26, 162])
 (.blk 0
 (.seq
 (.reg false [⟨0, (some 168), .bin .eql (.t 162) (.c (.int .u64 (0))), 0, none⟩, ⟨1, (some 167), .mv (.t 168), 0, none⟩] [1, 6, 24, 25, 26, 162, 167])
 (.cond (.t 167)
 (.reg false [⟨0, (some 169), .mv (.t 25), 0, none⟩, ⟨1, (some 170), .faddr 0 (.t 26), 0, none⟩, ⟨2, none, .store 1 (.t 170) (.t 169), 0, none⟩] [1, 6, 24, 26])
 (.seq
 (.reg false [⟨0, (some 172), .bin .eql (.t 162) (.c (.int .u64 (1))), 0, none⟩, ⟨1, (some 171), .mv (.t 172), 0, none⟩] [1, 6, 24, 25, 26, 162, 171])
 (.cond (.t 171)
 (.reg false [⟨0, (some 173), .mv (.t 25), 0, none⟩, ⟨1, (some 174), .faddr 1 (.t 26), 0, none⟩, ⟨2, none, .store 1 (.t 174) (.t 173), 0, none⟩] [1, 6, 24, 26])
 (.seq
 (.reg false [⟨0, (some 176), .bin .eql (.t 162) (.c (.int .u64 (2))), 0, none⟩, ⟨1, (some 175), .mv (.t 176), 0, none⟩] [1, 6, 24, 25, 26, 162, 175])
 (.cond (.t 175)
 (.reg false [⟨0, (some 177), .mv (.t 25), 0, none⟩, ⟨1, (some 178), .faddr 2 (.t 26), 0, none⟩, ⟨2, none, .store 1 (.t 178) (.t 177), 0, none⟩] [1, 6, 24, 26])
 (.seq
 (.reg false [⟨0, (some 180), .bin .eql (.t 162) (.c (.int .u64 (3))), 0, none⟩, ⟨1, (some 179), .mv (.t 180), 0, none⟩] [1, 6, 24, 25, 26, 179])
 (.cond (.t 179)
 (.reg false [⟨0, (some 181), .mv (.t 25), 0, none⟩, ⟨1, (some 182), .faddr 3 (.t 26), 0, none⟩, ⟨2, none, .store 1 (.t 182) (.t 181), 0, none⟩] [1, 6, 24, 26])
 (.seq
 (.reg false [⟨0, (some 24), .mv (.c (.int .i64 (400))), 0, none⟩] [1, 6, 24, 26])
 (.reg false [⟨0, (some 163), .mksl 1 8 [.int .i64 (0)] (.c (.int .i64 (65))) (.c (.int .i64 (65))), 0, none⟩, ⟨1, (some 164), .build [.int .i64 (0), .int .i64 (0), .int .i64 (0), .nils] [(3, 1, .t 163)], 0, none⟩, ⟨2, (some 165), .bsl 4 1 [.int .i64 (0), .int .i64 (0), .int .i64 (0), .nils] [(0, 4, .t 164)], 0, none⟩, ⟨3, (some 166), .faddr 2 (.t 26), 0, none⟩, ⟨4, none, .store 1 (.t 166) (.t 165), 0, none⟩] [1, 6, 24, 26]))))))))))))
 (.seq
 (.reg false [⟨0, (some 183), .mv (.t 24), 0, none⟩, ⟨1, (some 184), .bin .gtr (.t 183) (.c (.int .i64 (400))), 0, none⟩, ⟨2, (some 185), .mv (.t 184), 0, none⟩, ⟨3, (some 186), .mv (.t 1), 0, (some (185, false))⟩, ⟨4, (some 187), .cvt .u64 (.t 186), 0, (some (185, false))⟩, ⟨5, (some 188), .bin .rem (.t 187) (.c (.int .u64 (5))), 0, (some (185, false))⟩, ⟨6, (some 189), .bin .eql (.t 188) (.c (.int .u64 (4))), 0, (some (185, false))⟩, ⟨7, (some 190), .pick (.t 185) (.c (.bool true)) (.t 189), 0, none⟩, ⟨8, (some 27), .mv (.t 190), 0, none⟩] [6, 26, 27])
 (.seq
 (.reg false [⟨0, (some 192), .load (some 6) (.t 6), 0, none⟩, ⟨1, (some 193), .load (some 4) (.t 26), 0, none⟩, ⟨2, (some 194), .call 37 [.t 192, .t 193], 2, none⟩, ⟨3, (some 191), .mv (.t 194), 0, none⟩, ⟨4, (some 195), .ext 0 (.t 191), 0, none⟩, ⟨5, (some 196), .ext 1 (.t 191), 0, none⟩, ⟨6, (some 28), .mv (.t 195), 0, none⟩, ⟨7, (some 29), .mv (.t 196), 0, none⟩] [6, 26, 27, 29])
 (.seq
 (.reg false [⟨0, (some 198), .load (some 6) (.t 6), 0, none⟩, ⟨1, (some 199), .load (some 4) (.t 26), 0, none⟩, ⟨2, (some 200), .call 32 [.t 198, .t 199], 2, none⟩, ⟨3, (some 197), .mv (.t 200), 0, none⟩, ⟨4, (some 201), .ext 0 (.t 197), 0, none⟩, ⟨5, (some 202), .ext 1 (.t 197), 0, none⟩, ⟨6, (some 30), .mv (.t 201), 0, none⟩, ⟨7, (some 31), .mv (.t 202), 0, none⟩] [6, 26, 27, 29, 31])
 (.seq
 (.reg false [⟨0, (some 204), .load (some 6) (.t 6), 0, none⟩, ⟨1, (some 205), .load (some 4) (.t 26), 0, none⟩, ⟨2, (some 206), .call 38 [.t 204, .t 205, .c (.int .i64 (1))], 2, none⟩, ⟨3, (some 203), .mv (.t 206), 0, none⟩, ⟨4, (some 207), .ext 0 (.t 203), 0, none⟩, ⟨5, (some 208), .ext 1 (.t 203), 0, none⟩, ⟨6, (some 32), .mv (.t 207), 0, none⟩, ⟨7, (some 33), .mv (.t 208), 0, none⟩] [6, 26, 27, 29, 31, 33])
 (.seq
 (.reg false [⟨0, (some 210), .load (some 6) (.t 6), 0, none⟩, ⟨1, (some 211), .load (some 4) (.t 26), 0, none⟩, ⟨2, (some 212), .call 24 [.t 210, .t 211], 2, none⟩, ⟨3, (some 209), .mv (.t 212), 0, none⟩, ⟨4, (some 213), .ext 0 (.t 209), 0, none⟩, ⟨5, (some 214), .ext 1 (.t 209), 0, none⟩, ⟨6, (some 34), .mv (.t 213), 0, none⟩, ⟨7, (some 35), .mv (.t 214), 0, none⟩] [6, 26, 27, 29, 31, 33, 35])
 (.seq
 (.reg false [⟨0, (some 216), .load (some 6) (.t 6), 0, none⟩, ⟨1, (some 217), .load (some 4) (.t 26), 0, none⟩, ⟨2, (some 218), .call 31 [.t 216, .t 217], 2, none⟩, ⟨3, (some 215), .mv (.t 218), 0, none⟩, ⟨4, (some 219), .ext 0 (.t 215), 0, none⟩, ⟨5, (some 220), .ext 1 (.t 215), 0, none⟩, ⟨6, (some 36), .mv (.t 219), 0, none⟩, ⟨7, (some 37), .mv (.t 220), 0, none⟩] [6, 26, 27, 29, 31, 33, 35, 37])
 (.seq
 (.reg false [⟨0, (some 222), .load (some 6) (.t 6), 0, none⟩, ⟨1, (some 223), .load (some 4) (.t 26), 0, none⟩, ⟨2, (some 224), .call 33 [.t 222, .t 223], 2, none⟩, ⟨3, (some 221), .mv (.t 224), 0, none⟩, ⟨4, (some 225), .ext 0 (.t 221), 0, none⟩, ⟨5, (some 226), .ext 1 (.t 221), 0, none⟩, ⟨6, (some 38), .mv (.t 225), 0, none⟩, ⟨7, (some 39), .mv (.t 226), 0, none⟩] [6, 26, 27, 29, 31, 33, 35, 37, 39])
 (.seq
 (.reg false [⟨0, (some 228), .load (some 6) (.t 6), 0, none⟩, ⟨1, (some 229), .load (some 4) (.t 26), 0, none⟩, ⟨2, (some 230), .call 26 [.t 228, .c (.int .i64 (0)), .c (.nils), .c (.nils), .t 229, .c (.int .i64 (9))], 2, none⟩, ⟨3, (some 227), .mv (.t 230), 0, none⟩, ⟨4, (some 231), .ext 0 (.t 227), 0, none⟩, ⟨5, (some 232), .ext 1 (.t 227), 0, none⟩, ⟨6, (some 40), .mv (.t 231), 0, none⟩, ⟨7, (some 41), .mv (.t 232), 0, none⟩] [27, 29, 31, 33, 35, 37, 39, 41])
 (.seq
 (.seq
 (.reg false [⟨0, (some 233), .mv (.t 27), 0, none⟩] [29, 31, 33, 35, 37, 39, 41, 233])
 (.cond (.t 233)
 (.seq
 (.reg false [⟨0, (some 234), .mv (.t 29), 0, none⟩, ⟨1, (some 235), .bin .eql (.t 234) (.c (.int .i64 (2))), 0, none⟩, ⟨2, (some 236), .mv (.t 235), 0, none⟩, ⟨3, (some 237), .mv (.t 31), 0, (some (236, true))⟩, ⟨4, (some 238), .bin .eql (.t 237) (.c (.int .i64 (2))), 0, (some (236, true))⟩, ⟨5, (some 239), .pick (.t 236) (.t 238) (.c (.bool false)), 0, none⟩, ⟨6, (some 240), .mv (.t 239), 0, none⟩, ⟨7, (some 241), .mv (.t 33), 0, (some (240, true))⟩, ⟨8, (some 242), .bin .eql (.t 241) (.c (.int .i64 (2))), 0, (some (240, true))⟩, ⟨9, (some 243), .pick (.t 240) (.t 242) (.c (.bool false)), 0, none⟩, ⟨10, (some 244), .mv (.t 243), 0, none⟩, ⟨11, (some 245), .mv (.t 35), 0, (some (244, true))⟩, ⟨12, (some 246), .bin .eql (.t 245) (.c (.int .i64 (2))), 0, (some (244, true))⟩, ⟨13, (some 247), .pick (.t 244) (.t 246) (.c (.bool false)), 0, none⟩, ⟨14, (some 248), .mv (.t 247), 0, none⟩, ⟨15, (some 249), .mv (.t 37), 0, (some (248, true))⟩, ⟨16, (some 250), .bin .eql (.t 249) (.c (.int .i64 (2))), 0, (some (248, true))⟩, ⟨17, (some 251), .pick (.t 248) (.t 250) (.c (.bool false)), 0, none⟩, ⟨18, (some 252), .mv (.t 251), 0, none⟩, ⟨19, (some 253), .mv (.t 39), 0, (some (252, true))⟩, ⟨20, (some 254), .bin .eql (.t 253) (.c (.int .i64 (2))), 0, (some (252, true))⟩, ⟨21, (some 255), .pick (.t 252) (.t 254) (.c (.bool false)), 0, none⟩, ⟨22, (some 256), .mv (.t 255), 0, none⟩, ⟨23, (some 257), .mv (.t 41), 0, (some (256, true))⟩, ⟨24, (some 258), .bin .eql (.t 257) (.c (.int .i64 (2))), 0, (some (256, true))⟩, ⟨25, (some 259), .pick (.t 256) (.t 258) (.c (.bool false)), 0, none⟩, ⟨26, (some 260), .mv (.t 259), 0, none⟩, ⟨27, (some 261), .call 22 [], 2, (some (260, true))⟩, ⟨28, (some 262), .pick (.t 260) (.t 261) (.c (.bool false)), 0, none⟩, ⟨29, (some 4), .mv (.t 262), 0, none⟩] [4])
 (.ret))
 (.skip)))
 (.seq
 (.reg false [⟨0, (some 263), .mv (.t 29), 0, none⟩, ⟨1, (some 264), .bin .eql (.t 263) (.c (.int .i64 (0))), 0, none⟩, ⟨2, (some 265), .mv (.t 264), 0, none⟩, ⟨3, (some 266), .mv (.t 31), 0, (some (265, true))⟩, ⟨4, (some 267), .bin .eql (.t 266) (.c (.int .i64 (0))), 0, (some (265, true))⟩, ⟨5, (some 268), .pick (.t 265) (.t 267) (.c (.bool false)), 0, none⟩, ⟨6, (some 269), .mv (.t 268), 0, none⟩, ⟨7, (some 270), .mv (.t 33), 0, (some (269, true))⟩, ⟨8, (some 271), .bin .eql (.t 270) (.c (.int .i64 (4))), 0, (some (269, true))⟩, ⟨9, (some 272), .pick (.t 269) (.t 271) (.c (.bool false)), 0, none⟩, ⟨10, (some 273), .mv (.t 272), 0, none⟩, ⟨11, (some 274), .mv (.t 35), 0, (some (273, true))⟩, ⟨12, (some 275), .bin .eql (.t 274) (.c (.int .i64 (4))), 0, (some (273, true))⟩, ⟨13, (some 276), .pick (.t 273) (.t 275) (.c (.bool false)), 0, none⟩, ⟨14, (some 277), .mv (.t 276), 0, none⟩, ⟨15, (some 278), .mv (.t 37), 0, (some (277, true))⟩, ⟨16, (some 279), .bin .eql (.t 278) (.c (.int .i64 (4))), 0, (some (277, true))⟩, ⟨17, (some 280), .pick (.t 277) (.t 279) (.c (.bool false)), 0, none⟩, ⟨18, (some 281), .mv (.t 280), 0, none⟩, ⟨19, (some 282), .mv (.t 39), 0, (some (281, true))⟩, ⟨20, (some 283), .bin .eql (.t 282) (.c (.int .i64 (0))), 0, (some (281, true))⟩, ⟨21, (some 284), .pick (.t 281) (.t 283) (.c (.bool false)), 0, none⟩, ⟨22, (some 285), .mv (.t 284), 0, none⟩, ⟨23, (some 286), .mv (.t 41), 0, (some (285, true))⟩, ⟨24, (some 287), .bin .eql (.t 286) (.c (.int .i64 (1))), 0, (some (285, true))⟩, ⟨25, (some 288), .pick (.t 285) (.t 287) (.c (.bool false)), 0, none⟩, ⟨26, (some 289), .mv (.t 288), 0, none⟩, ⟨27, (some 290), .call 22 [], 2, (some (289, true))⟩, ⟨28, (some 291), .pick (.t 289) (.t 290) (.c (.bool false)), 0, none⟩, ⟨29, (some 4), .mv (.t 291), 0, none⟩] [4])
 (.ret)))))))))))))))))))

theorem ok10 : okF Tryz.prog 10 2 c10 [.tmp 4] = true := by kernel_rfl

/-- dauber/draw.Run -/
def c15 : C :=
 .seq
 (.reg false [⟨0, (some 4), .box 6 (.t 0), 0, none⟩, ⟨1, (some 6), .box 4 (.t 2), 0, none⟩, ⟨2, (some 8), .alloc [.nils, .nils, .nils, .nils] 4, 0, none⟩, ⟨3, (some 9), .mv (.c (.int .i64 (0))), 0, none⟩] [1, 3, 4, 6, 8])
 (.seq
 (.seq
 (.reg false [⟨0, (some 21), .load (some 6) (.t 4), 0, none⟩, ⟨1, (some 22), .load (some 4) (.t 6), 0, none⟩, ⟨2, (some 23), .call 51 [.t 21, .t 22, .c (.int .i64 (100))], 2, none⟩, ⟨3, (some 10), .mv (.t 23), 0, none⟩] [1, 3, 4, 6, 8, 10])
 (.seq
 (.reg false [⟨0, (some 24), .mv (.t 10), 0, none⟩, ⟨1, (some 25), .bin .neq (.t 24) (.c (.int .i64 (0))), 0, none⟩] [1, 3, 4, 6, 8, 10, 25])
 (.cond (.t 25)
 (.seq
 (.reg false [⟨0, (some 26), .build [.nils, .nils, .nils, .nils] [], 0, none⟩, ⟨1, (some 27), .mv (.t 10), 0, none⟩, ⟨2, none, .store 4 (.t 8) (.t 26), 0, none⟩, ⟨3, (some 9), .mv (.t 27), 0, none⟩] [8, 9])
 (.ret))
 (.skip))))
 (.seq
 (.seq
 (.reg false [⟨0, (some 28), .mv (.t 1), 0, none⟩, ⟨1, (some 29), .len none (.t 28), 0, none⟩, ⟨2, (some 30), .faddr 3 (.t 4), 0, none⟩, ⟨3, (some 31), .load none (.t 30), 0, none⟩, ⟨4, (some 32), .bin .neq (.t 29) (.t 31), 0, none⟩] [1, 3, 4, 6, 8, 32])
 (.cond (.t 32)
 (.seq
 (.reg false [⟨0, (some 33), .build [.nils, .nils, .nils, .nils] [], 0, none⟩, ⟨1, none, .store 4 (.t 8) (.t 33), 0, none⟩, ⟨2, (some 9), .mv (.c (.int .i64 (7))), 0, none⟩] [8, 9])
 (.ret))
 (.skip)))
 (.seq
 (.seq
 (.reg false [⟨0, (some 34), .mv (.t 1), 0, none⟩, ⟨1, (some 35), .mkfn (.func 53) [] [.t 4], 0, none⟩, ⟨2, (some 36), .call 52 [.t 34, .t 35], 2, none⟩] [1, 3, 4, 6, 8, 36])
 (.cond (.t 36)
 (.seq
 (.reg false [⟨0, (some 37), .build [.nils, .nils, .nils, .nils] [], 0, none⟩, ⟨1, none, .store 4 (.t 8) (.t 37), 0, none⟩, ⟨2, (some 9), .mv (.c (.int .i64 (1))), 0, none⟩] [8, 9])
 (.ret))
 (.skip)))
 (.seq
 (.reg false [⟨0, (some 38), .load (some 6) (.t 4), 0, none⟩, ⟨1, (some 39), .mv (.t 1), 0, none⟩, ⟨2, (some 40), .mv (.t 3), 0, none⟩, ⟨3, (some 41), .call 55 [.t 38, .t 39, .t 40], 2, none⟩, ⟨4, (some 11), .mv (.t 41), 0, none⟩] [1, 4, 6, 8, 11])
 (.seq
 (.reg false [⟨0, (some 12), .alloc [.nils, .nils, .nils, .nils] 4, 0, none⟩] [1, 4, 6, 8, 11, 12])
 (.seq
 (.reg false [⟨0, (some 42), .faddr 0 (.t 12), 0, none⟩, ⟨1, (some 43), .faddr 1 (.t 12), 0, none⟩, ⟨2, (some 44), .faddr 2 (.t 12), 0, none⟩, ⟨3, (some 45), .faddr 3 (.t 12), 0, none⟩, ⟨4, (some 46), .build [.nilp, .nilp, .nilp, .nilp] [(0, 1, .t 42), (1, 1, .t 43), (2, 1, .t 44), (3, 1, .t 45)], 0, none⟩, ⟨5, (some 13), .alloc [.nilp, .nilp, .nilp, .nilp] 4, 0, none⟩, ⟨6, none, .store 4 (.t 13) (.t 46), 0, none⟩] [1, 4, 6, 8, 11, 12, 13])
 (.seq
 (.seq
 (.reg false [⟨0, (some 47), .load (some 4) (.t 6), 0, none⟩, ⟨1, (some 48), .call 56 [.t 47], 2, none⟩, ⟨2, (some 49), .mv (.c (.int .i64 (0))), 0, none⟩] [1, 4, 8, 11, 12, 13, 48, 49])
 (.blk 0
 (.loop [1, 4, 8, 11, 12, 13, 48, 49]
 (.seq
 (.reg false [⟨0, (some 50), .bin .lss (.t 49) (.c (.int .i64 (4))), 0, none⟩] [1, 4, 8, 11, 12, 13, 48, 49, 50])
 (.seq
 (.cond (.t 50)
 (.skip)
 (.exit 0))
 (.seq
 (.blk 1
 (.seq
 (.reg false [⟨0, (some 51), .mv (.t 49), 0, none⟩, ⟨1, (some 52), .aidx none 4 1 (.t 48) (.t 49), 0, none⟩, ⟨2, (some 14), .mv (.t 51), 0, none⟩, ⟨3, (some 15), .mv (.t 52), 0, none⟩] [1, 4, 8, 11, 12, 13, 14, 15, 48, 49])
 (.seq
 (.seq
 (.reg false [⟨0, (some 53), .mv (.t 15), 0, none⟩, ⟨1, (some 54), .len none (.t 53), 0, none⟩, ⟨2, (some 55), .mv (.c (.int .i64 (0))), 0, none⟩] [1, 4, 8, 11, 12, 13, 14, 48, 49, 53, 54, 55])
 (.blk 2
 (.loop [1, 4, 8, 11, 12, 13, 14, 48, 49, 53, 54, 55]
 (.seq
 (.reg false [⟨0, (some 56), .bin .lss (.t 55) (.t 54), 0, none⟩] [1, 4, 8, 11, 12, 13, 14, 48, 49, 53, 54, 55, 56])
 (.seq
 (.cond (.t 56)
 (.skip)
 (.exit 2))
 (.seq
 (.blk 3
 (.seq
 (.reg false [⟨0, (some 57), .iaddr none 4 (.t 53) (.t 55), 0, none⟩, ⟨1, (some 58), .load (some 4) (.t 57), 0, none⟩, ⟨2, (some 17), .alloc [.int .i64 (0), .int .i64 (0), .int .i64 (0), .nils] 4, 0, none⟩, ⟨3, none, .store 4 (.t 17) (.t 58), 0, none⟩] [1, 4, 8, 11, 12, 13, 14, 17, 48, 49, 53, 54, 55])
 (.seq
 (.reg false [⟨0, (some 59), .faddr 3 (.t 17), 0, none⟩, ⟨1, (some 60), .load none (.t 59), 0, none⟩, ⟨2, (some 61), .call 57 [.t 60], 2, none⟩, ⟨3, (some 62), .faddr 3 (.t 17), 0, none⟩, ⟨4, none, .store 1 (.t 62) (.t 61), 0, none⟩] [1, 4, 8, 11, 12, 13, 14, 17, 48, 49, 53, 54, 55])
 (.reg true [⟨0, (some 63), .mv (.t 14), 0, none⟩, ⟨1, (some 64), .iaddr (some 4) 1 (.t 13) (.t 63), 0, none⟩, ⟨3, (some 66), .mv (.t 14), 0, none⟩, ⟨4, (some 67), .iaddr (some 4) 1 (.t 13) (.t 66), 0, none⟩, ⟨2, (some 65), .loada none (.t 64) 13, 0, none⟩, ⟨5, (some 68), .load none (.t 67), 0, none⟩, ⟨6, (some 69), .nilc (.t 68), 0, none⟩, ⟨7, (some 70), .load none (.t 69), 0, none⟩, ⟨8, (some 71), .load (some 4) (.t 17), 0, none⟩, ⟨9, (some 72), .bsl 4 1 [.int .i64 (0), .int .i64 (0), .int .i64 (0), .nils] [(0, 4, .t 71)], 0, none⟩, ⟨10, (some 73), .appa [13] 4 48 (.t 70) (.t 72), 0, none⟩, ⟨11, (some 74), .nilc (.t 65), 0, none⟩, ⟨12, none, .store 1 (.t 74) (.t 73), 0, none⟩] [1, 4, 8, 11, 12, 13, 14, 48, 49, 53, 54, 55]))))
 (.reg false [⟨0, (some 75), .bin .add (.t 55) (.c (.int .i64 (1))), 0, none⟩, ⟨1, (some 55), .mv (.t 75), 0, none⟩] [1, 4, 8, 11, 12, 13, 14, 48, 49, 53, 54, 55])))))))
 (.seq
 (.reg false [⟨0, (some 76), .load (some 6) (.t 4), 0, none⟩, ⟨1, (some 77), .load (some 4) (.t 12), 0, none⟩, ⟨2, (some 78), .call 58 [.t 76, .t 77], 2, none⟩, ⟨3, (some 18), .mv (.t 78), 0, none⟩] [1, 4, 8, 11, 12, 13, 14, 18, 48, 49])
 (.seq
 (.reg false [⟨0, (some 79), .mv (.t 1), 0, none⟩, ⟨1, (some 80), .len none (.t 79), 0, none⟩, ⟨2, (some 81), .mv (.c (.int .i64 (0))), 0, none⟩] [1, 4, 8, 11, 12, 13, 14, 18, 48, 49, 79, 80, 81])
 (.blk 4
 (.loop [1, 4, 8, 11, 12, 13, 14, 18, 48, 49, 79, 80, 81]
 (.seq
 (.reg false [⟨0, (some 82), .bin .lss (.t 81) (.t 80), 0, none⟩] [1, 4, 8, 11, 12, 13, 14, 18, 48, 49, 79, 80, 81, 82])
 (.seq
 (.cond (.t 82)
 (.skip)
 (.exit 4))
 (.seq
 (.blk 5
 (.seq
 (.reg false [⟨0, (some 83), .mv (.t 81), 0, none⟩, ⟨1, (some 84), .iaddr none 1 (.t 79) (.t 81), 0, none⟩, ⟨2, (some 85), .load none (.t 84), 0, none⟩, ⟨3, (some 19), .mv (.t 83), 0, none⟩, ⟨4, (some 20), .mv (.t 85), 0, none⟩] [1, 4, 8, 11, 12, 13, 14, 18, 19, 20, 48, 49, 79, 80, 81])
 (.seq
 (.reg false [⟨0, (some 86), .mv (.t 20), 0, none⟩, ⟨1, (some 87), .len none (.t 86), 0, none⟩, ⟨2, (some 88), .bin .gtr (.t 87) (.c (.int .i64 (0))), 0, none⟩] [1, 4, 8, 11, 12, 13, 14, 18, 19, 20, 48, 49, 79, 80, 81, 88])
 (.cond (.t 88)
 (.reg true [⟨0, (some 89), .mv (.t 14), 0, none⟩, ⟨1, (some 90), .iaddr (some 4) 1 (.t 13) (.t 89), 0, none⟩, ⟨3, (some 92), .mv (.t 14), 0, none⟩, ⟨4, (some 93), .iaddr (some 4) 1 (.t 13) (.t 92), 0, none⟩, ⟨8, (some 97), .mv (.t 18), 0, none⟩, ⟨9, (some 98), .mv (.t 19), 0, none⟩, ⟨10, (some 99), .bin .add (.t 98) (.c (.int .i64 (1))), 0, none⟩, ⟨11, (some 100), .mv (.t 20), 0, none⟩, ⟨13, (some 102), .mv (.t 11), 0, none⟩, ⟨14, (some 103), .mv (.t 19), 0, none⟩, ⟨15, (some 104), .iaddr none 1 (.t 102) (.t 103), 0, none⟩, ⟨17, (some 106), .mv (.t 14), 0, none⟩, ⟨2, (some 91), .loada none (.t 90) 13, 0, none⟩, ⟨5, (some 94), .load none (.t 93), 0, none⟩, ⟨6, (some 95), .nilc (.t 94), 0, none⟩, ⟨7, (some 96), .load none (.t 95), 0, none⟩, ⟨16, (some 105), .load none (.t 104), 0, none⟩, ⟨12, (some 101), .call 57 [.t 100], 1, none⟩, ⟨18, (some 107), .call 59 [.t 97, .t 99, .t 101, .t 105, .t 106], 1, none⟩, ⟨19, (some 108), .appa [13] 4 48 (.t 96) (.t 107), 0, none⟩, ⟨20, (some 109), .nilc (.t 91), 0, none⟩, ⟨21, none, .store 1 (.t 109) (.t 108), 0, none⟩] [1, 4, 8, 11, 12, 13, 14, 18, 48, 49, 79, 80, 81])
 (.skip)))))
 (.reg false [⟨0, (some 110), .bin .add (.t 81) (.c (.int .i64 (1))), 0, none⟩, ⟨1, (some 81), .mv (.t 110), 0, none⟩] [1, 4, 8, 11, 12, 13, 14, 18, 48, 49, 79, 80, 81])))))))))))
 (.reg false [⟨0, (some 111), .bin .add (.t 49) (.c (.int .i64 (1))), 0, none⟩, ⟨1, (some 49), .mv (.t 111), 0, none⟩] [1, 4, 8, 11, 12, 13, 48, 49])))))))
 (.seq
 (.reg false [⟨0, (some 112), .load (some 4) (.t 12), 0, none⟩, ⟨1, none, .store 4 (.t 8) (.t 112), 0, none⟩, ⟨2, (some 9), .mv (.c (.int .i64 (0))), 0, none⟩] [8, 9])
 (.ret)))))))))

theorem ok15 : okF Tryz.prog 15 4 c15 [.cell (some 4) 8, .tmp 9] = true := by kernel_rfl

/-- dauber/dauberlaw09.give -/
def c16 : C :=
 .seq
 (.reg false [⟨0, (some 1), .box 6 (.t 0), 0, none⟩, ⟨1, (some 2), .alloc (List.replicate 6 (.int .i64 (0))) 6, 0, none⟩] [1, 2])
 (.seq
 (.reg false [⟨0, (some 3), .faddr 0 (.t 1), 0, none⟩, ⟨1, (some 4), .load (some 3) (.t 3), 0, none⟩, ⟨2, (some 5), .faddr 3 (.t 1), 0, none⟩, ⟨3, (some 6), .load none (.t 5), 0, none⟩, ⟨4, (some 7), .faddr 4 (.t 1), 0, none⟩, ⟨5, (some 8), .load none (.t 7), 0, none⟩, ⟨6, (some 9), .faddr 5 (.t 1), 0, none⟩, ⟨7, (some 10), .load none (.t 9), 0, none⟩, ⟨8, (some 11), .build (List.replicate 6 (.int .i64 (0))) [(0, 3, .t 4), (3, 1, .t 6), (4, 1, .t 8), (5, 1, .t 10)], 0, none⟩, ⟨9, none, .store 6 (.t 2) (.t 11), 0, none⟩] [2])
 (.ret))

theorem ok16 : okF Tryz.prog 16 1 c16 [.cell (some 6) 2] = true := by kernel_rfl

/-- dauber/dauberlaw09.awake -/
def c22 : C :=
 .seq
 (.reg false [⟨0, (some 0), .mv (.c (.bool false)), 0, none⟩] [])
 (.seq
 (.reg false [⟨0, (some 9), .call 25 [.c (.int .i64 (11))], 2, none⟩, ⟨1, (some 8), .mv (.t 9), 0, none⟩, ⟨2, (some 10), .ext 0 (.t 8), 0, none⟩, ⟨3, (some 11), .ext 1 (.t 8), 0, none⟩, ⟨4, (some 1), .alloc [.int .i64 (0), .int .i64 (0), .int .i64 (0)] 3, 0, none⟩, ⟨5, none, .store 3 (.t 1) (.t 10), 0, none⟩, ⟨6, (some 2), .mv (.t 11), 0, none⟩] [1])
 (.seq
 (.reg false [⟨0, (some 12), .load (some 3) (.t 1), 0, none⟩, ⟨1, (some 13), .build (List.replicate 6 (.int .i64 (0))) [(0, 3, .t 12), (3, 1, .c (.int .i64 (3))), (4, 1, .c (.int .i64 (1))), (5, 1, .c (.int .i64 (90)))], 0, none⟩, ⟨2, (some 3), .alloc (List.replicate 6 (.int .i64 (0))) 6, 0, none⟩, ⟨3, none, .store 6 (.t 3) (.t 13), 0, none⟩] [3])
 (.seq
 (.reg false [⟨0, (some 15), .load (some 6) (.t 3), 0, none⟩, ⟨1, (some 16), .bsl 1 2 [.int .i64 (0), .int .i64 (0)] [(0, 1, .c (.int .i64 (7))), (1, 1, .c (.int .i64 (3)))], 0, none⟩, ⟨2, (some 17), .bsl 1 2 [.int .i64 (0), .int .i64 (0)] [(0, 1, .c (.int .i64 (1))), (1, 1, .c (.int .i64 (1)))], 0, none⟩, ⟨3, (some 18), .bsl 1 2 [.int .i64 (0), .int .i64 (0)] [(0, 1, .c (.int .i64 (2))), (1, 1, .c (.int .i64 (5)))], 0, none⟩, ⟨4, (some 19), .bsl 1 3 [.nils, .nils, .nils] [(0, 1, .t 16), (1, 1, .t 17), (2, 1, .t 18)], 0, none⟩, ⟨5, (some 20), .build [.nils, .nils, .nils, .nils] [], 0, none⟩, ⟨6, (some 21), .call 15 [.t 15, .t 19, .t 20, .c (.nils)], 2, none⟩, ⟨7, (some 14), .mv (.t 21), 0, none⟩, ⟨8, (some 22), .ext 0 (.t 14), 0, none⟩, ⟨9, (some 23), .ext 1 (.t 14), 0, none⟩, ⟨10, (some 4), .alloc [.nils, .nils, .nils, .nils] 4, 0, none⟩, ⟨11, none, .store 4 (.t 4) (.t 22), 0, none⟩, ⟨12, (some 5), .mv (.t 23), 0, none⟩] [3, 4, 5])
 (.seq
 (.reg false [⟨0, (some 25), .load (some 6) (.t 3), 0, none⟩, ⟨1, (some 26), .load (some 4) (.t 4), 0, none⟩, ⟨2, (some 27), .call 31 [.t 25, .t 26], 2, none⟩, ⟨3, (some 24), .mv (.t 27), 0, none⟩, ⟨4, (some 28), .ext 0 (.t 24), 0, none⟩, ⟨5, (some 29), .ext 1 (.t 24), 0, none⟩, ⟨6, (some 6), .mv (.t 28), 0, none⟩, ⟨7, (some 7), .mv (.t 29), 0, none⟩] [4, 5, 6, 7])
 (.seq
 (.reg false [⟨0, (some 30), .mv (.t 5), 0, none⟩, ⟨1, (some 31), .bin .eql (.t 30) (.c (.int .i64 (0))), 0, none⟩, ⟨2, (some 32), .mv (.t 31), 0, none⟩, ⟨3, (some 33), .mv (.t 7), 0, (some (32, true))⟩, ⟨4, (some 34), .bin .eql (.t 33) (.c (.int .i64 (0))), 0, (some (32, true))⟩, ⟨5, (some 35), .pick (.t 32) (.t 34) (.c (.bool false)), 0, none⟩, ⟨6, (some 36), .mv (.t 35), 0, none⟩, ⟨7, (some 37), .mv (.t 6), 0, (some (36, true))⟩, ⟨8, (some 38), .bin .eql (.t 37) (.c (.int .i64 (11))), 0, (some (36, true))⟩, ⟨9, (some 39), .pick (.t 36) (.t 38) (.c (.bool false)), 0, none⟩, ⟨10, (some 40), .mv (.t 39), 0, none⟩, ⟨11, (some 41), .faddr 3 (.t 4), 0, (some (40, true))⟩, ⟨12, (some 42), .load none (.t 41), 0, (some (40, true))⟩, ⟨13, (some 43), .len none (.t 42), 0, (some (40, true))⟩, ⟨14, (some 44), .bin .eql (.t 43) (.c (.int .i64 (9))), 0, (some (40, true))⟩, ⟨15, (some 45), .pick (.t 40) (.t 44) (.c (.bool false)), 0, none⟩, ⟨16, (some 0), .mv (.t 45), 0, none⟩] [0])
 (.ret))))))

theorem ok22 : okF Tryz.prog 22 0 c22 [.tmp 0] = true := by kernel_rfl

/-- dauber/draw.Sum -/
def c24 : C :=
 .seq
 (.reg false [⟨0, (some 2), .box 6 (.t 0), 0, none⟩, ⟨1, (some 3), .box 4 (.t 1), 0, none⟩, ⟨2, (some 4), .mv (.c (.int .i64 (0))), 0, none⟩, ⟨3, (some 5), .mv (.c (.int .i64 (0))), 0, none⟩] [2, 3])
 (.seq
 (.seq
 (.reg false [⟨0, (some 9), .load (some 6) (.t 2), 0, none⟩, ⟨1, (some 10), .load (some 4) (.t 3), 0, none⟩, ⟨2, (some 11), .call 51 [.t 9, .t 10, .c (.int .i64 (400))], 2, none⟩, ⟨3, (some 6), .mv (.t 11), 0, none⟩] [2, 3, 6])
 (.seq
 (.reg false [⟨0, (some 12), .mv (.t 6), 0, none⟩, ⟨1, (some 13), .bin .neq (.t 12) (.c (.int .i64 (0))), 0, none⟩] [2, 3, 6, 13])
 (.cond (.t 13)
 (.seq
 (.reg false [⟨0, (some 14), .mv (.t 6), 0, none⟩, ⟨1, (some 4), .mv (.c (.int .i64 (0))), 0, none⟩, ⟨2, (some 5), .mv (.t 14), 0, none⟩] [4, 5])
 (.ret))
 (.skip))))
 (.seq
 (.reg false [⟨0, (some 16), .load (some 6) (.t 2), 0, none⟩, ⟨1, (some 17), .load (some 4) (.t 3), 0, none⟩, ⟨2, (some 18), .call 58 [.t 16, .t 17], 2, none⟩, ⟨3, (some 19), .call 62 [.t 18], 2, none⟩, ⟨4, (some 15), .mv (.t 19), 0, none⟩, ⟨5, (some 20), .ext 0 (.t 15), 0, none⟩, ⟨6, (some 21), .ext 1 (.t 15), 0, none⟩, ⟨7, (some 7), .mv (.t 20), 0, none⟩, ⟨8, (some 8), .mv (.t 21), 0, none⟩] [7, 8])
 (.seq
 (.seq
 (.reg false [⟨0, (some 22), .mv (.t 8), 0, none⟩, ⟨1, (some 23), .un .not (.t 22), 0, none⟩] [7, 23])
 (.cond (.t 23)
 (.seq
 (.reg false [⟨0, (some 4), .mv (.c (.int .i64 (0))), 0, none⟩, ⟨1, (some 5), .mv (.c (.int .i64 (4))), 0, none⟩] [4, 5])
 (.ret))
 (.skip)))
 (.seq
 (.reg false [⟨0, (some 24), .mv (.t 7), 0, none⟩, ⟨1, (some 4), .mv (.t 24), 0, none⟩, ⟨2, (some 5), .mv (.c (.int .i64 (0))), 0, none⟩] [4, 5])
 (.ret)))))

theorem ok24 : okF Tryz.prog 24 2 c24 [.tmp 4, .tmp 5] = true := by kernel_rfl

/-- dauber/dauberref08.Find -/
def c25 : C :=
 .seq
 (.reg false [⟨0, (some 2), .alloc [.int .i64 (0), .int .i64 (0), .int .i64 (0)] 3, 0, none⟩, ⟨1, (some 3), .mv (.c (.bool false)), 0, none⟩] [0, 2])
 (.seq
 (.seq
 (.reg false [⟨0, (some 6), .mv (.t 0), 0, none⟩, ⟨1, (some 7), .bin .lss (.t 6) (.c (.int .i64 (3))), 0, none⟩, ⟨2, (some 8), .mv (.t 7), 0, none⟩, ⟨3, (some 9), .mv (.t 0), 0, (some (8, false))⟩, ⟨4, (some 10), .bin .gtr (.t 9) (.c (.int .i64 (65521))), 0, (some (8, false))⟩, ⟨5, (some 11), .pick (.t 8) (.c (.bool true)) (.t 10), 0, none⟩, ⟨6, (some 12), .mv (.t 11), 0, none⟩, ⟨7, (some 13), .mv (.t 0), 0, (some (12, false))⟩, ⟨8, (some 14), .call 63 [.t 13], 2, (some (12, false))⟩, ⟨9, (some 15), .un .not (.t 14), 0, (some (12, false))⟩, ⟨10, (some 16), .pick (.t 12) (.c (.bool true)) (.t 15), 0, none⟩] [0, 2, 16])
 (.cond (.t 16)
 (.seq
 (.reg false [⟨0, (some 17), .build [.int .i64 (0), .int .i64 (0), .int .i64 (0)] [], 0, none⟩, ⟨1, none, .store 3 (.t 2) (.t 17), 0, none⟩, ⟨2, (some 3), .mv (.c (.bool false)), 0, none⟩] [2, 3])
 (.ret))
 (.skip)))
 (.seq
 (.reg false [⟨0, (some 18), .mv (.t 0), 0, none⟩, ⟨1, (some 19), .bin .add (.t 18) (.c (.int .i64 (1))), 0, none⟩, ⟨2, (some 4), .mv (.t 19), 0, none⟩] [0, 2, 4])
 (.seq
 (.blk 0
 (.loop [0, 2, 4]
 (.seq
 (.seq
 (.reg false [⟨0, (some 20), .mv (.t 4), 0, none⟩, ⟨1, (some 21), .call 63 [.t 20], 2, none⟩, ⟨2, (some 22), .un .not (.t 21), 0, none⟩] [0, 2, 4, 22])
 (.cond (.t 22)
 (.skip)
 (.exit 0)))
 (.blk 1
 (.reg false [⟨0, (some 23), .mv (.t 4), 0, none⟩, ⟨1, (some 24), .mv (.t 0), 0, none⟩, ⟨2, (some 25), .bin .add (.t 23) (.t 24), 0, none⟩, ⟨3, (some 4), .mv (.t 25), 0, none⟩] [0, 2, 4])))))
 (.seq
 (.reg false [⟨0, (some 5), .mv (.c (.int .i64 (2))), 0, none⟩] [0, 2, 4, 5])
 (.seq
 (.blk 2
 (.loop [0, 2, 4, 5]
 (.seq
 (.seq
 (.reg false [⟨0, (some 26), .mv (.t 5), 0, none⟩, ⟨1, (some 27), .mv (.t 4), 0, none⟩, ⟨2, (some 28), .bin .sub (.t 27) (.c (.int .i64 (1))), 0, none⟩, ⟨3, (some 29), .mv (.t 0), 0, none⟩, ⟨4, (some 30), .bin .quo (.t 28) (.t 29), 0, none⟩, ⟨5, (some 31), .mv (.t 4), 0, none⟩, ⟨6, (some 32), .call 64 [.t 26, .t 30, .t 31], 2, none⟩, ⟨7, (some 33), .bin .eql (.t 32) (.c (.int .i64 (1))), 0, none⟩] [0, 2, 4, 5, 33])
 (.cond (.t 33)
 (.skip)
 (.exit 2)))
 (.blk 3
 (.reg false [⟨0, (some 34), .mv (.t 5), 0, none⟩, ⟨1, (some 35), .bin .add (.t 34) (.c (.int .i64 (1))), 0, none⟩, ⟨2, (some 5), .mv (.t 35), 0, none⟩] [0, 2, 4, 5])))))
 (.seq
 (.reg false [⟨0, (some 36), .mv (.t 4), 0, none⟩, ⟨1, (some 37), .mv (.t 0), 0, none⟩, ⟨2, (some 38), .mv (.t 5), 0, none⟩, ⟨3, (some 39), .mv (.t 4), 0, none⟩, ⟨4, (some 40), .bin .sub (.t 39) (.c (.int .i64 (1))), 0, none⟩, ⟨5, (some 41), .mv (.t 0), 0, none⟩, ⟨6, (some 42), .bin .quo (.t 40) (.t 41), 0, none⟩, ⟨7, (some 43), .mv (.t 4), 0, none⟩, ⟨8, (some 44), .call 64 [.t 38, .t 42, .t 43], 2, none⟩, ⟨9, (some 45), .build [.int .i64 (0), .int .i64 (0), .int .i64 (0)] [(0, 1, .t 36), (1, 1, .t 37), (2, 1, .t 44)], 0, none⟩, ⟨10, none, .store 3 (.t 2) (.t 45), 0, none⟩, ⟨11, (some 3), .mv (.c (.bool true)), 0, none⟩] [2, 3])
 (.ret)))))))

theorem ok25 : okF Tryz.prog 25 1 c25 [.cell (some 3) 2, .tmp 3] = true := by kernel_rfl

/-- dauber/draw.Post -/
def c26 : C :=
 .seq
 (.reg false [⟨0, (some 6), .box 6 (.t 0), 0, none⟩, ⟨1, (some 10), .box 4 (.t 4), 0, none⟩, ⟨2, (some 12), .mv (.c (.nils)), 0, none⟩, ⟨3, (some 13), .mv (.c (.int .i64 (0))), 0, none⟩] [1, 2, 3, 5, 6, 10])
 (.seq
 (.seq
 (.reg false [⟨0, (some 15), .load (some 6) (.t 6), 0, none⟩, ⟨1, (some 16), .load (some 4) (.t 10), 0, none⟩, ⟨2, (some 17), .call 51 [.t 15, .t 16, .c (.int .i64 (400))], 2, none⟩, ⟨3, (some 14), .mv (.t 17), 0, none⟩] [1, 2, 3, 5, 6, 10, 14])
 (.seq
 (.reg false [⟨0, (some 18), .mv (.t 14), 0, none⟩, ⟨1, (some 19), .bin .neq (.t 18) (.c (.int .i64 (0))), 0, none⟩] [1, 2, 3, 5, 6, 10, 14, 19])
 (.cond (.t 19)
 (.seq
 (.reg false [⟨0, (some 20), .mv (.t 14), 0, none⟩, ⟨1, (some 12), .mv (.c (.nils)), 0, none⟩, ⟨2, (some 13), .mv (.t 20), 0, none⟩] [12, 13])
 (.ret))
 (.skip))))
 (.seq
 (.seq
 (.reg false [⟨0, (some 21), .load (some 6) (.t 6), 0, none⟩, ⟨1, (some 22), .mv (.t 1), 0, none⟩, ⟨2, (some 23), .call 65 [.t 21, .t 22], 2, none⟩, ⟨3, (some 24), .un .not (.t 23), 0, none⟩, ⟨4, (some 25), .mv (.t 24), 0, none⟩, ⟨5, (some 26), .mv (.t 5), 0, (some (25, false))⟩, ⟨6, (some 27), .bin .lss (.t 26) (.c (.int .i64 (0))), 0, (some (25, false))⟩, ⟨7, (some 28), .pick (.t 25) (.c (.bool true)) (.t 27), 0, none⟩, ⟨8, (some 29), .mv (.t 28), 0, none⟩, ⟨9, (some 30), .mv (.t 5), 0, (some (29, false))⟩, ⟨10, (some 31), .bin .gtr (.t 30) (.c (.int .i64 (3))), 0, (some (29, false))⟩, ⟨11, (some 32), .pick (.t 29) (.c (.bool true)) (.t 31), 0, none⟩, ⟨12, (some 33), .mv (.t 32), 0, none⟩, ⟨13, (some 34), .load (some 6) (.t 6), 0, (some (33, false))⟩, ⟨14, (some 35), .mv (.t 2), 0, (some (33, false))⟩, ⟨15, (some 36), .call 54 [.t 34, .t 35], 2, (some (33, false))⟩, ⟨16, (some 37), .un .not (.t 36), 0, (some (33, false))⟩, ⟨17, (some 38), .pick (.t 33) (.c (.bool true)) (.t 37), 0, none⟩] [1, 2, 3, 5, 6, 10, 38])
 (.cond (.t 38)
 (.seq
 (.reg false [⟨0, (some 12), .mv (.c (.nils)), 0, none⟩, ⟨1, (some 13), .mv (.c (.int .i64 (1))), 0, none⟩] [12, 13])
 (.ret))
 (.skip)))
 (.seq
 (.seq
 (.reg false [⟨0, (some 39), .mv (.t 2), 0, none⟩, ⟨1, (some 40), .len none (.t 39), 0, none⟩, ⟨2, (some 41), .faddr 4 (.t 6), 0, none⟩, ⟨3, (some 42), .load none (.t 41), 0, none⟩, ⟨4, (some 43), .bin .add (.t 42) (.c (.int .i64 (1))), 0, none⟩, ⟨5, (some 44), .bin .neq (.t 40) (.t 43), 0, none⟩, ⟨6, (some 45), .mv (.t 44), 0, none⟩, ⟨7, (some 46), .mv (.t 3), 0, (some (45, false))⟩, ⟨8, (some 47), .len none (.t 46), 0, (some (45, false))⟩, ⟨9, (some 48), .faddr 3 (.t 6), 0, (some (45, false))⟩, ⟨10, (some 49), .load none (.t 48), 0, (some (45, false))⟩, ⟨11, (some 50), .bin .neq (.t 47) (.t 49), 0, (some (45, false))⟩, ⟨12, (some 51), .pick (.t 45) (.c (.bool true)) (.t 50), 0, none⟩] [1, 2, 3, 5, 6, 10, 51])
 (.cond (.t 51)
 (.seq
 (.reg false [⟨0, (some 12), .mv (.c (.nils)), 0, none⟩, ⟨1, (some 13), .mv (.c (.int .i64 (7))), 0, none⟩] [12, 13])
 (.ret))
 (.skip)))
 (.seq
 (.reg false [⟨0, (some 52), .load (some 6) (.t 6), 0, none⟩, ⟨1, (some 53), .load (some 4) (.t 10), 0, none⟩, ⟨2, (some 54), .call 58 [.t 52, .t 53], 2, none⟩, ⟨3, (some 55), .mv (.t 1), 0, none⟩, ⟨4, (some 56), .mv (.t 2), 0, none⟩, ⟨5, (some 57), .call 57 [.t 56], 2, none⟩, ⟨6, (some 58), .mv (.t 3), 0, none⟩, ⟨7, (some 59), .mv (.t 5), 0, none⟩, ⟨8, (some 60), .call 59 [.t 54, .t 55, .t 57, .t 58, .t 59], 2, none⟩, ⟨9, (some 12), .mv (.t 60), 0, none⟩, ⟨10, (some 13), .mv (.c (.int .i64 (0))), 0, none⟩] [12, 13])
 (.ret)))))

theorem ok26 : okF Tryz.prog 26 6 c26 [.tmp 12, .tmp 13] = true := by kernel_rfl

/-- dauber/draw.Ball -/
def c31 : C :=
 .seq
 (.reg false [⟨0, (some 2), .box 6 (.t 0), 0, none⟩, ⟨1, (some 3), .box 4 (.t 1), 0, none⟩, ⟨2, (some 4), .mv (.c (.int .i64 (0))), 0, none⟩, ⟨3, (some 5), .mv (.c (.int .i64 (0))), 0, none⟩] [2, 3])
 (.seq
 (.reg false [⟨0, (some 9), .load (some 6) (.t 2), 0, none⟩, ⟨1, (some 10), .load (some 4) (.t 3), 0, none⟩, ⟨2, (some 11), .call 24 [.t 9, .t 10], 2, none⟩, ⟨3, (some 8), .mv (.t 11), 0, none⟩, ⟨4, (some 12), .ext 0 (.t 8), 0, none⟩, ⟨5, (some 13), .ext 1 (.t 8), 0, none⟩, ⟨6, (some 6), .mv (.t 12), 0, none⟩, ⟨7, (some 7), .mv (.t 13), 0, none⟩] [2, 6, 7])
 (.seq
 (.seq
 (.reg false [⟨0, (some 14), .mv (.t 7), 0, none⟩, ⟨1, (some 15), .bin .neq (.t 14) (.c (.int .i64 (0))), 0, none⟩] [2, 6, 7, 15])
 (.cond (.t 15)
 (.seq
 (.reg false [⟨0, (some 16), .mv (.t 7), 0, none⟩, ⟨1, (some 4), .mv (.c (.int .i64 (0))), 0, none⟩, ⟨2, (some 5), .mv (.t 16), 0, none⟩] [4, 5])
 (.ret))
 (.skip)))
 (.seq
 (.reg false [⟨0, (some 17), .mv (.t 6), 0, none⟩, ⟨1, (some 18), .faddr 5 (.t 2), 0, none⟩, ⟨2, (some 19), .load none (.t 18), 0, none⟩, ⟨3, (some 20), .bin .rem (.t 17) (.t 19), 0, none⟩, ⟨4, (some 21), .bin .add (.c (.int .i64 (1))) (.t 20), 0, none⟩, ⟨5, (some 4), .mv (.t 21), 0, none⟩, ⟨6, (some 5), .mv (.c (.int .i64 (0))), 0, none⟩] [4, 5])
 (.ret))))

theorem ok31 : okF Tryz.prog 31 2 c31 [.tmp 4, .tmp 5] = true := by kernel_rfl

/-- dauber/draw.In -/
def c32 : C :=
 .seq
 (.reg false [⟨0, (some 2), .box 6 (.t 0), 0, none⟩, ⟨1, (some 3), .box 4 (.t 1), 0, none⟩, ⟨2, (some 4), .mv (.c (.nils)), 0, none⟩, ⟨3, (some 5), .mv (.c (.int .i64 (0))), 0, none⟩] [2, 3])
 (.seq
 (.reg false [⟨0, (some 6), .load (some 6) (.t 2), 0, none⟩, ⟨1, (some 7), .load (some 4) (.t 3), 0, none⟩, ⟨2, (some 8), .call 73 [.t 6, .t 7, .c (.clo (.func 74) [] [])], 2, none⟩, ⟨3, (some 9), .ext 0 (.t 8), 0, none⟩, ⟨4, (some 10), .ext 1 (.t 8), 0, none⟩, ⟨5, (some 4), .mv (.t 9), 0, none⟩, ⟨6, (some 5), .mv (.t 10), 0, none⟩] [4, 5])
 (.ret))

theorem ok32 : okF Tryz.prog 32 2 c32 [.tmp 4, .tmp 5] = true := by kernel_rfl

/-- dauber/draw.Guilty -/
def c33 : C :=
 .seq
 (.reg false [⟨0, (some 2), .box 6 (.t 0), 0, none⟩, ⟨1, (some 3), .box 4 (.t 1), 0, none⟩, ⟨2, (some 4), .mv (.c (.nils)), 0, none⟩, ⟨3, (some 5), .mv (.c (.int .i64 (0))), 0, none⟩] [2, 3])
 (.seq
 (.seq
 (.reg false [⟨0, (some 26), .load (some 6) (.t 2), 0, none⟩, ⟨1, (some 27), .load (some 4) (.t 3), 0, none⟩, ⟨2, (some 28), .call 51 [.t 26, .t 27, .c (.int .i64 (400))], 2, none⟩, ⟨3, (some 6), .mv (.t 28), 0, none⟩] [2, 3, 6])
 (.seq
 (.reg false [⟨0, (some 29), .mv (.t 6), 0, none⟩, ⟨1, (some 30), .bin .neq (.t 29) (.c (.int .i64 (0))), 0, none⟩] [2, 3, 6, 30])
 (.cond (.t 30)
 (.seq
 (.reg false [⟨0, (some 31), .mv (.t 6), 0, none⟩, ⟨1, (some 4), .mv (.c (.nils)), 0, none⟩, ⟨2, (some 5), .mv (.t 31), 0, none⟩] [4, 5])
 (.ret))
 (.skip))))
 (.seq
 (.reg false [⟨0, (some 32), .load (some 6) (.t 2), 0, none⟩, ⟨1, (some 33), .load (some 4) (.t 3), 0, none⟩, ⟨2, (some 34), .call 58 [.t 32, .t 33], 2, none⟩, ⟨3, (some 7), .alloc [.nilp] 1, 0, none⟩, ⟨4, none, .store 1 (.t 7) (.t 34), 0, none⟩] [3, 7])
 (.seq
 (.reg false [⟨0, (some 8), .alloc [.nils] 1, 0, none⟩] [3, 7, 8])
 (.seq
 (.reg false [⟨0, (some 35), .mkfn (.func 75) [] [.t 8], 0, none⟩, ⟨1, (some 9), .alloc [.nilf] 1, 0, none⟩, ⟨2, none, .store 1 (.t 9) (.t 35), 0, none⟩] [3, 7, 8, 9])
 (.seq
 (.reg false [⟨0, (some 10), .mv (.c (.clo (.func 76) [] [])), 0, none⟩] [3, 7, 8, 9, 10])
 (.seq
 (.seq
 (.reg false [⟨0, (some 36), .load none (.t 7), 0, none⟩, ⟨1, (some 37), .mv (.t 10), 0, none⟩, ⟨2, (some 38), .call 77 [.t 36, .t 37], 2, none⟩] [3, 7, 8, 9, 10, 38])
 (.blk 0
 (.rf (.t 38) [39]
 (.reg false [⟨0, (some 11), .mv (.t 39), 0, none⟩] [7, 9, 11])
 (.blk 1
 (.seq
 (.reg false [⟨0, (some 40), .load none (.t 7), 0, none⟩, ⟨1, (some 41), .mv (.t 11), 0, none⟩, ⟨2, (some 42), .call 78 [.t 40, .t 41], 2, none⟩, ⟨3, (some 12), .mv (.t 42), 0, none⟩] [9, 11, 12])
 (.seq
 (.reg false [⟨0, (some 43), .mv (.t 12), 0, none⟩, ⟨1, (some 44), .bin .geq (.t 43) (.c (.int .i64 (0))), 0, none⟩] [9, 11, 12, 44])
 (.cond (.t 44)
 (.reg false [⟨0, (some 45), .load none (.t 9), 0, none⟩, ⟨1, (some 46), .mv (.t 11), 0, none⟩, ⟨2, (some 47), .mv (.t 12), 0, none⟩, ⟨3, (some 48), .callv (.t 45) [.t 46, .c (.int .i64 (1)), .t 47], 2, none⟩] [])
 (.skip))))))))
 (.seq
 (.seq
 (.reg false [⟨0, (some 49), .load none (.t 7), 0, none⟩, ⟨1, (some 50), .mv (.t 10), 0, none⟩, ⟨2, (some 51), .call 77 [.t 49, .t 50], 2, none⟩] [3, 7, 8, 9, 10, 51])
 (.blk 2
 (.rf (.t 51) [52]
 (.reg false [⟨0, (some 13), .mv (.t 52), 0, none⟩] [7, 9, 13])
 (.blk 3
 (.seq
 (.reg false [⟨0, (some 53), .load none (.t 7), 0, none⟩, ⟨1, (some 54), .mv (.t 13), 0, none⟩, ⟨2, (some 55), .nilc (.t 53), 0, none⟩, ⟨3, (some 56), .faddr 10 (.t 55), 0, none⟩, ⟨4, (some 57), .iaddr (some 17) 1 (.t 56) (.t 54), 0, none⟩, ⟨5, (some 58), .load none (.t 57), 0, none⟩, ⟨6, (some 59), .bin .geq (.t 58) (.c (.int .i64 (0))), 0, none⟩, ⟨7, (some 60), .mv (.t 59), 0, none⟩, ⟨8, (some 61), .load none (.t 7), 0, (some (60, true))⟩, ⟨9, (some 62), .mv (.t 13), 0, (some (60, true))⟩, ⟨10, (some 63), .call 79 [.t 61, .t 62], 2, (some (60, true))⟩, ⟨11, (some 64), .un .not (.t 63), 0, (some (60, true))⟩, ⟨12, (some 65), .pick (.t 60) (.t 64) (.c (.bool false)), 0, none⟩] [7, 9, 13, 65])
 (.cond (.t 65)
 (.reg true [⟨1, (some 67), .mv (.t 13), 0, none⟩, ⟨3, (some 69), .mv (.t 13), 0, none⟩, ⟨0, (some 66), .load none (.t 9), 0, none⟩, ⟨2, (some 68), .load none (.t 7), 0, none⟩, ⟨4, (some 70), .nilc (.t 68), 0, none⟩, ⟨5, (some 71), .faddr 10 (.t 70), 0, none⟩, ⟨6, (some 72), .iaddr (some 17) 1 (.t 71) (.t 69), 0, none⟩, ⟨7, (some 73), .load none (.t 72), 0, none⟩, ⟨8, (some 74), .callv (.t 66) [.t 67, .c (.int .i64 (2)), .t 73], 2, none⟩] [])
 (.skip)))))))
 (.seq
 (.seq
 (.reg false [⟨0, (some 75), .load none (.t 7), 0, none⟩, ⟨1, (some 76), .load none (.t 7), 0, none⟩, ⟨2, (some 77), .mkfn (.func 79) [.t 76] [], 0, none⟩, ⟨3, (some 78), .call 77 [.t 75, .t 77], 2, none⟩] [3, 7, 8, 9, 10, 78])
 (.blk 4
 (.rf (.t 78) [79]
 (.reg false [⟨0, (some 14), .alloc [.int .i64 (0)] 1, 0, none⟩, ⟨1, none, .store 1 (.t 14) (.t 79), 0, none⟩] [7, 9, 14])
 (.blk 5
 (.seq
 (.reg false [⟨0, (some 80), .load none (.t 7), 0, none⟩, ⟨1, (some 81), .mkfn (.func 80) [] [.t 7, .t 14], 0, none⟩, ⟨2, (some 82), .call 77 [.t 80, .t 81], 2, none⟩] [7, 9, 14, 82])
 (.blk 6
 (.rf (.t 82) [83]
 (.reg false [⟨0, (some 15), .mv (.t 83), 0, none⟩] [7, 9, 14, 15])
 (.blk 7
 (.seq
 (.reg true [⟨2, (some 86), .mv (.t 15), 0, none⟩, ⟨0, (some 84), .load none (.t 7), 0, none⟩, ⟨3, (some 87), .nilc (.t 84), 0, none⟩, ⟨4, (some 88), .faddr 333 (.t 87), 0, none⟩, ⟨1, (some 85), .load none (.t 14), 0, none⟩, ⟨5, (some 89), .iaddr (some 17) 17 (.t 88) (.t 85), 0, none⟩, ⟨6, (some 90), .iaddr (some 17) 1 (.t 89) (.t 86), 0, none⟩, ⟨7, (some 91), .load none (.t 90), 0, none⟩, ⟨8, (some 92), .bin .lss (.t 91) (.c (.int .i64 (0))), 0, none⟩] [9, 14, 92])
 (.cond (.t 92)
 (.reg false [⟨0, (some 93), .load none (.t 9), 0, none⟩, ⟨1, (some 94), .load none (.t 14), 0, none⟩, ⟨2, (some 95), .callv (.t 93) [.t 94, .c (.int .i64 (3)), .c (.int .i64 (-1))], 2, none⟩] [])
 (.skip)))))))))))
 (.seq
 (.seq
 (.reg false [⟨0, (some 96), .load none (.t 7), 0, none⟩, ⟨1, (some 97), .load none (.t 7), 0, none⟩, ⟨2, (some 98), .mkfn (.func 79) [.t 97] [], 0, none⟩, ⟨3, (some 99), .call 77 [.t 96, .t 98], 2, none⟩] [3, 7, 8, 9, 10, 99])
 (.blk 8
 (.rf (.t 99) [100]
 (.reg false [⟨0, (some 16), .mv (.t 100), 0, none⟩] [3, 7, 9, 16])
 (.blk 9
 (.seq
 (.reg false [⟨0, (some 101), .faddr 2 (.t 3), 0, none⟩, ⟨1, (some 102), .load none (.t 101), 0, none⟩, ⟨2, (some 103), .len none (.t 102), 0, none⟩, ⟨3, (some 104), .mv (.c (.int .i64 (0))), 0, none⟩] [7, 9, 16, 102, 103, 104])
 (.blk 10
 (.loop [7, 9, 16, 102, 103, 104]
 (.seq
 (.reg false [⟨0, (some 105), .bin .lss (.t 104) (.t 103), 0, none⟩] [7, 9, 16, 102, 103, 104, 105])
 (.seq
 (.cond (.t 105)
 (.skip)
 (.exit 10))
 (.seq
 (.blk 11
 (.seq
 (.reg false [⟨0, (some 106), .mv (.t 104), 0, none⟩, ⟨1, (some 107), .iaddr none 4 (.t 102) (.t 104), 0, none⟩, ⟨2, (some 108), .load (some 4) (.t 107), 0, none⟩, ⟨3, (some 18), .alloc [.int .i64 (0), .int .i64 (0), .int .i64 (0), .nils] 4, 0, none⟩, ⟨4, (some 17), .mv (.t 106), 0, none⟩, ⟨5, none, .store 4 (.t 18) (.t 108), 0, none⟩] [7, 9, 16, 17, 18, 102, 103, 104])
 (.seq
 (.reg true [⟨0, (some 109), .faddr 0 (.t 18), 0, none⟩, ⟨2, (some 111), .mv (.t 16), 0, none⟩, ⟨1, (some 110), .load none (.t 109), 0, none⟩, ⟨3, (some 112), .bin .eql (.t 110) (.t 111), 0, none⟩, ⟨4, (some 113), .mv (.t 112), 0, none⟩, ⟨9, (some 118), .faddr 2 (.t 18), 0, (some (113, true))⟩, ⟨5, (some 114), .load none (.t 7), 0, (some (113, true))⟩, ⟨6, (some 115), .nilc (.t 114), 0, (some (113, true))⟩, ⟨7, (some 116), .faddr 0 (.t 115), 0, (some (113, true))⟩, ⟨8, (some 117), .load (some 6) (.t 116), 0, (some (113, true))⟩, ⟨10, (some 119), .load none (.t 118), 0, (some (113, true))⟩, ⟨11, (some 120), .call 65 [.t 117, .t 119], 2, (some (113, true))⟩, ⟨12, (some 121), .pick (.t 113) (.t 120) (.c (.bool false)), 0, none⟩, ⟨13, (some 122), .mv (.t 121), 0, none⟩, ⟨15, (some 124), .mv (.t 16), 0, (some (122, true))⟩, ⟨16, (some 125), .faddr 2 (.t 18), 0, (some (122, true))⟩, ⟨23, (some 132), .mv (.t 17), 0, (some (122, true))⟩, ⟨14, (some 123), .load none (.t 7), 0, (some (122, true))⟩, ⟨18, (some 127), .nilc (.t 123), 0, (some (122, true))⟩, ⟨19, (some 128), .faddr 333 (.t 127), 0, (some (122, true))⟩, ⟨20, (some 129), .iaddr (some 17) 17 (.t 128) (.t 124), 0, (some (122, true))⟩, ⟨17, (some 126), .load none (.t 125), 0, (some (122, true))⟩, ⟨21, (some 130), .iaddr (some 17) 1 (.t 129) (.t 126), 0, (some (122, true))⟩, ⟨22, (some 131), .load none (.t 130), 0, (some (122, true))⟩, ⟨24, (some 133), .bin .eql (.t 131) (.t 132), 0, (some (122, true))⟩, ⟨25, (some 134), .pick (.t 122) (.t 133) (.c (.bool false)), 0, none⟩, ⟨26, (some 135), .mv (.t 134), 0, none⟩, ⟨28, (some 137), .faddr 2 (.t 18), 0, (some (135, true))⟩, ⟨30, (some 139), .mv (.t 16), 0, (some (135, true))⟩, ⟨27, (some 136), .load none (.t 7), 0, (some (135, true))⟩, ⟨31, (some 140), .nilc (.t 136), 0, (some (135, true))⟩, ⟨32, (some 141), .faddr 44 (.t 140), 0, (some (135, true))⟩, ⟨29, (some 138), .load none (.t 137), 0, (some (135, true))⟩, ⟨33, (some 142), .iaddr (some 17) 17 (.t 141) (.t 138), 0, (some (135, true))⟩, ⟨34, (some 143), .iaddr (some 17) 1 (.t 142) (.t 139), 0, (some (135, true))⟩, ⟨35, (some 144), .load none (.t 143), 0, (some (135, true))⟩, ⟨36, (some 145), .pick (.t 135) (.t 144) (.c (.bool false)), 0, none⟩, ⟨37, (some 146), .mv (.t 145), 0, none⟩, ⟨39, (some 148), .mv (.t 16), 0, (some (146, true))⟩, ⟨40, (some 149), .faddr 2 (.t 18), 0, (some (146, true))⟩, ⟨42, (some 151), .faddr 3 (.t 18), 0, (some (146, true))⟩, ⟨38, (some 147), .load none (.t 7), 0, (some (146, true))⟩, ⟨41, (some 150), .load none (.t 149), 0, (some (146, true))⟩, ⟨43, (some 152), .load none (.t 151), 0, (some (146, true))⟩, ⟨44, (some 153), .iaddr none 1 (.t 152) (.c (.int .i64 (0))), 0, (some (146, true))⟩, ⟨45, (some 154), .load none (.t 153), 0, (some (146, true))⟩, ⟨46, (some 155), .call 81 [.t 147, .t 148, .t 150, .t 154], 2, (some (146, true))⟩, ⟨47, (some 156), .un .not (.t 155), 0, (some (146, true))⟩, ⟨48, (some 157), .pick (.t 146) (.t 156) (.c (.bool false)), 0, none⟩] [7, 9, 16, 17, 102, 103, 104, 157])
 (.cond (.t 157)
 (.reg false [⟨0, (some 158), .load none (.t 9), 0, none⟩, ⟨1, (some 159), .mv (.t 16), 0, none⟩, ⟨2, (some 160), .mv (.t 17), 0, none⟩, ⟨3, (some 161), .callv (.t 158) [.t 159, .c (.int .i64 (4)), .t 160], 2, none⟩] [7, 9, 16, 102, 103, 104])
 (.skip)))))
 (.reg false [⟨0, (some 162), .bin .add (.t 104) (.c (.int .i64 (1))), 0, none⟩, ⟨1, (some 104), .mv (.t 162), 0, none⟩] [7, 9, 16, 102, 103, 104])))))))))))
 (.seq
 (.reg false [⟨0, (some 163), .call 82 [], 2, none⟩, ⟨1, (some 19), .alloc [.nilm] 1, 0, none⟩, ⟨2, none, .store 1 (.t 19) (.t 163), 0, none⟩] [3, 7, 8, 9, 10, 19])
 (.seq
 (.seq
 (.reg false [⟨0, (some 164), .load none (.t 7), 0, none⟩, ⟨1, (some 165), .mv (.t 10), 0, none⟩, ⟨2, (some 166), .call 77 [.t 164, .t 165], 2, none⟩] [3, 7, 8, 9, 19, 166])
 (.blk 12
 (.rf (.t 166) [167]
 (.reg false [⟨0, (some 20), .mv (.t 167), 0, none⟩] [3, 7, 9, 19, 20])
 (.blk 13
 (.seq
 (.reg false [⟨0, (some 168), .faddr 3 (.t 3), 0, none⟩, ⟨1, (some 169), .load none (.t 168), 0, none⟩, ⟨2, (some 170), .len none (.t 169), 0, none⟩, ⟨3, (some 171), .mv (.c (.int .i64 (0))), 0, none⟩] [7, 9, 19, 20, 169, 170, 171])
 (.blk 14
 (.loop [7, 9, 19, 20, 169, 170, 171]
 (.seq
 (.reg false [⟨0, (some 172), .bin .lss (.t 171) (.t 170), 0, none⟩] [7, 9, 19, 20, 169, 170, 171, 172])
 (.seq
 (.cond (.t 172)
 (.skip)
 (.exit 14))
 (.seq
 (.blk 15
 (.seq
 (.reg false [⟨0, (some 173), .mv (.t 171), 0, none⟩, ⟨1, (some 174), .iaddr none 4 (.t 169) (.t 171), 0, none⟩, ⟨2, (some 175), .load (some 4) (.t 174), 0, none⟩, ⟨3, (some 22), .alloc [.int .i64 (0), .int .i64 (0), .int .i64 (0), .nils] 4, 0, none⟩, ⟨4, (some 21), .mv (.t 173), 0, none⟩, ⟨5, none, .store 4 (.t 22) (.t 175), 0, none⟩] [7, 9, 19, 20, 21, 22, 169, 170, 171])
 (.seq
 (.reg false [⟨0, (some 176), .load none (.t 19), 0, none⟩, ⟨1, (some 177), .faddr 1 (.t 22), 0, none⟩, ⟨2, (some 178), .load none (.t 177), 0, none⟩, ⟨3, (some 179), .lkp 0 (.nilf) false (.t 176) (.t 178), 0, none⟩, ⟨4, (some 23), .mv (.t 179), 0, none⟩] [7, 9, 19, 20, 21, 22, 23, 169, 170, 171])
 (.seq
 (.reg false [⟨0, (some 180), .mv (.t 23), 0, none⟩, ⟨1, (some 181), .eqn 3 true (.t 180) (.c (.nilf)), 0, none⟩, ⟨2, (some 182), .mv (.t 181), 0, none⟩, ⟨3, (some 183), .faddr 0 (.t 22), 0, (some (182, true))⟩, ⟨4, (some 184), .load none (.t 183), 0, (some (182, true))⟩, ⟨5, (some 185), .mv (.t 20), 0, (some (182, true))⟩, ⟨6, (some 186), .bin .eql (.t 184) (.t 185), 0, (some (182, true))⟩, ⟨7, (some 187), .pick (.t 182) (.t 186) (.c (.bool false)), 0, none⟩] [7, 9, 19, 20, 21, 22, 23, 169, 170, 171, 187])
 (.cond (.t 187)
 (.seq
 (.reg false [⟨0, (some 189), .mv (.t 23), 0, none⟩, ⟨1, (some 190), .load none (.t 7), 0, none⟩, ⟨2, (some 191), .load (some 4) (.t 22), 0, none⟩, ⟨3, (some 192), .callv (.t 189) [.t 190, .t 191], 2, none⟩, ⟨4, (some 188), .mv (.t 192), 0, none⟩, ⟨5, (some 193), .ext 0 (.t 188), 0, none⟩, ⟨6, (some 194), .ext 1 (.t 188), 0, none⟩, ⟨7, (some 24), .mv (.t 193), 0, none⟩, ⟨8, (some 25), .mv (.t 194), 0, none⟩] [7, 9, 19, 20, 21, 24, 25, 169, 170, 171])
 (.seq
 (.reg false [⟨0, (some 195), .mv (.t 24), 0, none⟩, ⟨1, (some 196), .mv (.t 195), 0, none⟩, ⟨2, (some 197), .mv (.t 25), 0, (some (196, true))⟩, ⟨3, (some 198), .un .not (.t 197), 0, (some (196, true))⟩, ⟨4, (some 199), .pick (.t 196) (.t 198) (.c (.bool false)), 0, none⟩] [7, 9, 19, 20, 21, 169, 170, 171, 199])
 (.cond (.t 199)
 (.reg false [⟨0, (some 200), .load none (.t 9), 0, none⟩, ⟨1, (some 201), .mv (.t 20), 0, none⟩, ⟨2, (some 202), .mv (.t 21), 0, none⟩, ⟨3, (some 203), .callv (.t 200) [.t 201, .c (.int .i64 (5)), .t 202], 2, none⟩] [7, 9, 19, 20, 169, 170, 171])
 (.skip))))
 (.skip))))))
 (.reg false [⟨0, (some 204), .bin .add (.t 171) (.c (.int .i64 (1))), 0, none⟩, ⟨1, (some 171), .mv (.t 204), 0, none⟩] [7, 9, 19, 20, 169, 170, 171])))))))))))
 (.seq
 (.reg false [⟨0, (some 205), .load none (.t 8), 0, none⟩, ⟨1, (some 4), .mv (.t 205), 0, none⟩, ⟨2, (some 5), .mv (.c (.int .i64 (0))), 0, none⟩] [4, 5])
 (.ret)))))))))))))

theorem ok33 : okF Tryz.prog 33 2 c33 [.tmp 4, .tmp 5] = true := by kernel_rfl

/-- dauber/dauberref09.Check -/
def c35 : C :=
 .seq
 (.reg false [⟨0, (some 1), .box 6 (.t 0), 0, none⟩, ⟨1, (some 2), .mv (.c (.int .i64 (0))), 0, none⟩] [1])
 (.seq
 (.seq
 (.reg false [⟨0, (some 3), .faddr 0 (.t 1), 0, none⟩, ⟨1, (some 4), .load (some 3) (.t 3), 0, none⟩, ⟨2, (some 5), .call 49 [.t 4], 2, none⟩, ⟨3, (some 6), .bin .neq (.t 5) (.c (.int .i64 (0))), 0, none⟩] [1, 6])
 (.cond (.t 6)
 (.seq
 (.reg false [⟨0, (some 2), .mv (.c (.int .i64 (80))), 0, none⟩] [2])
 (.ret))
 (.skip)))
 (.seq
 (.seq
 (.reg false [⟨0, (some 7), .faddr 3 (.t 1), 0, none⟩, ⟨1, (some 8), .load none (.t 7), 0, none⟩, ⟨2, (some 9), .bin .lss (.t 8) (.c (.int .i64 (2))), 0, none⟩, ⟨3, (some 10), .mv (.t 9), 0, none⟩, ⟨4, (some 11), .faddr 3 (.t 1), 0, (some (10, false))⟩, ⟨5, (some 12), .load none (.t 11), 0, (some (10, false))⟩, ⟨6, (some 13), .bin .gtr (.t 12) (.c (.int .i64 (16))), 0, (some (10, false))⟩, ⟨7, (some 14), .pick (.t 10) (.c (.bool true)) (.t 13), 0, none⟩, ⟨8, (some 15), .mv (.t 14), 0, none⟩, ⟨9, (some 16), .faddr 3 (.t 1), 0, (some (15, false))⟩, ⟨10, (some 17), .load none (.t 16), 0, (some (15, false))⟩, ⟨11, (some 18), .faddr 0 (.t 1), 0, (some (15, false))⟩, ⟨12, (some 19), .faddr 1 (.t 18), 0, (some (15, false))⟩, ⟨13, (some 20), .load none (.t 19), 0, (some (15, false))⟩, ⟨14, (some 21), .bin .geq (.t 17) (.t 20), 0, (some (15, false))⟩, ⟨15, (some 22), .pick (.t 15) (.c (.bool true)) (.t 21), 0, none⟩, ⟨16, (some 23), .mv (.t 22), 0, none⟩, ⟨17, (some 24), .faddr 4 (.t 1), 0, (some (23, false))⟩, ⟨18, (some 25), .load none (.t 24), 0, (some (23, false))⟩, ⟨19, (some 26), .bin .lss (.t 25) (.c (.int .i64 (0))), 0, (some (23, false))⟩, ⟨20, (some 27), .pick (.t 23) (.c (.bool true)) (.t 26), 0, none⟩, ⟨21, (some 28), .mv (.t 27), 0, none⟩, ⟨22, (some 29), .faddr 4 (.t 1), 0, (some (28, false))⟩, ⟨23, (some 30), .load none (.t 29), 0, (some (28, false))⟩, ⟨24, (some 31), .faddr 3 (.t 1), 0, (some (28, false))⟩, ⟨25, (some 32), .load none (.t 31), 0, (some (28, false))⟩, ⟨26, (some 33), .bin .geq (.t 30) (.t 32), 0, (some (28, false))⟩, ⟨27, (some 34), .pick (.t 28) (.c (.bool true)) (.t 33), 0, none⟩, ⟨28, (some 35), .mv (.t 34), 0, none⟩, ⟨29, (some 36), .faddr 5 (.t 1), 0, (some (35, false))⟩, ⟨30, (some 37), .load none (.t 36), 0, (some (35, false))⟩, ⟨31, (some 38), .bin .lss (.t 37) (.c (.int .i64 (1))), 0, (some (35, false))⟩, ⟨32, (some 39), .pick (.t 35) (.c (.bool true)) (.t 38), 0, none⟩, ⟨33, (some 40), .mv (.t 39), 0, none⟩, ⟨34, (some 41), .faddr 5 (.t 1), 0, (some (40, false))⟩, ⟨35, (some 42), .load none (.t 41), 0, (some (40, false))⟩, ⟨36, (some 43), .bin .gtr (.t 42) (.c (.int .i64 (90))), 0, (some (40, false))⟩, ⟨37, (some 44), .pick (.t 40) (.c (.bool true)) (.t 43), 0, none⟩] [44])
 (.cond (.t 44)
 (.seq
 (.reg false [⟨0, (some 2), .mv (.c (.int .i64 (1))), 0, none⟩] [2])
 (.ret))
 (.skip)))
 (.seq
 (.reg false [⟨0, (some 2), .mv (.c (.int .i64 (0))), 0, none⟩] [2])
 (.ret))))

theorem ok35 : okF Tryz.prog 35 1 c35 [.tmp 2] = true := by kernel_rfl

/-- dauber/draw.Check -/
def c36 : C :=
 .seq
 (.reg false [⟨0, (some 1), .box 6 (.t 0), 0, none⟩, ⟨1, (some 2), .mv (.c (.int .i64 (0))), 0, none⟩] [1])
 (.seq
 (.seq
 (.reg false [⟨0, (some 4), .faddr 0 (.t 1), 0, none⟩, ⟨1, (some 5), .load (some 3) (.t 4), 0, none⟩, ⟨2, (some 6), .call 88 [.t 5], 2, none⟩, ⟨3, (some 3), .mv (.t 6), 0, none⟩] [1, 3])
 (.seq
 (.reg false [⟨0, (some 7), .mv (.t 3), 0, none⟩, ⟨1, (some 8), .bin .neq (.t 7) (.c (.int .i64 (0))), 0, none⟩] [1, 3, 8])
 (.cond (.t 8)
 (.seq
 (.reg false [⟨0, (some 9), .mv (.t 3), 0, none⟩, ⟨1, (some 2), .mv (.t 9), 0, none⟩] [2])
 (.ret))
 (.skip))))
 (.seq
 (.seq
 (.reg false [⟨0, (some 10), .faddr 3 (.t 1), 0, none⟩, ⟨1, (some 11), .load none (.t 10), 0, none⟩, ⟨2, (some 12), .bin .lss (.t 11) (.c (.int .i64 (2))), 0, none⟩, ⟨3, (some 13), .mv (.t 12), 0, none⟩, ⟨4, (some 14), .faddr 3 (.t 1), 0, (some (13, false))⟩, ⟨5, (some 15), .load none (.t 14), 0, (some (13, false))⟩, ⟨6, (some 16), .bin .gtr (.t 15) (.c (.int .i64 (16))), 0, (some (13, false))⟩, ⟨7, (some 17), .pick (.t 13) (.c (.bool true)) (.t 16), 0, none⟩, ⟨8, (some 18), .mv (.t 17), 0, none⟩, ⟨9, (some 19), .faddr 3 (.t 1), 0, (some (18, false))⟩, ⟨10, (some 20), .load none (.t 19), 0, (some (18, false))⟩, ⟨11, (some 21), .faddr 0 (.t 1), 0, (some (18, false))⟩, ⟨12, (some 22), .faddr 1 (.t 21), 0, (some (18, false))⟩, ⟨13, (some 23), .load none (.t 22), 0, (some (18, false))⟩, ⟨14, (some 24), .bin .geq (.t 20) (.t 23), 0, (some (18, false))⟩, ⟨15, (some 25), .pick (.t 18) (.c (.bool true)) (.t 24), 0, none⟩, ⟨16, (some 26), .mv (.t 25), 0, none⟩, ⟨17, (some 27), .faddr 4 (.t 1), 0, (some (26, false))⟩, ⟨18, (some 28), .load none (.t 27), 0, (some (26, false))⟩, ⟨19, (some 29), .bin .lss (.t 28) (.c (.int .i64 (0))), 0, (some (26, false))⟩, ⟨20, (some 30), .pick (.t 26) (.c (.bool true)) (.t 29), 0, none⟩, ⟨21, (some 31), .mv (.t 30), 0, none⟩, ⟨22, (some 32), .faddr 4 (.t 1), 0, (some (31, false))⟩, ⟨23, (some 33), .load none (.t 32), 0, (some (31, false))⟩, ⟨24, (some 34), .faddr 3 (.t 1), 0, (some (31, false))⟩, ⟨25, (some 35), .load none (.t 34), 0, (some (31, false))⟩, ⟨26, (some 36), .bin .geq (.t 33) (.t 35), 0, (some (31, false))⟩, ⟨27, (some 37), .pick (.t 31) (.c (.bool true)) (.t 36), 0, none⟩, ⟨28, (some 38), .mv (.t 37), 0, none⟩, ⟨29, (some 39), .faddr 5 (.t 1), 0, (some (38, false))⟩, ⟨30, (some 40), .load none (.t 39), 0, (some (38, false))⟩, ⟨31, (some 41), .bin .lss (.t 40) (.c (.int .i64 (1))), 0, (some (38, false))⟩, ⟨32, (some 42), .pick (.t 38) (.c (.bool true)) (.t 41), 0, none⟩, ⟨33, (some 43), .mv (.t 42), 0, none⟩, ⟨34, (some 44), .faddr 5 (.t 1), 0, (some (43, false))⟩, ⟨35, (some 45), .load none (.t 44), 0, (some (43, false))⟩, ⟨36, (some 46), .bin .gtr (.t 45) (.c (.int .i64 (90))), 0, (some (43, false))⟩, ⟨37, (some 47), .pick (.t 43) (.c (.bool true)) (.t 46), 0, none⟩] [47])
 (.cond (.t 47)
 (.seq
 (.reg false [⟨0, (some 2), .mv (.c (.int .i64 (1))), 0, none⟩] [2])
 (.ret))
 (.skip)))
 (.seq
 (.reg false [⟨0, (some 2), .mv (.c (.int .i64 (0))), 0, none⟩] [2])
 (.ret))))

theorem ok36 : okF Tryz.prog 36 1 c36 [.tmp 2] = true := by kernel_rfl

/-- dauber/draw.Dealt -/
def c37 : C :=
 .seq
 (.reg false [⟨0, (some 2), .box 6 (.t 0), 0, none⟩, ⟨1, (some 3), .box 4 (.t 1), 0, none⟩, ⟨2, (some 4), .mv (.c (.nils)), 0, none⟩, ⟨3, (some 5), .mv (.c (.int .i64 (0))), 0, none⟩] [2, 3])
 (.seq
 (.reg false [⟨0, (some 6), .load (some 6) (.t 2), 0, none⟩, ⟨1, (some 7), .load (some 4) (.t 3), 0, none⟩, ⟨2, (some 8), .call 73 [.t 6, .t 7, .c (.clo (.func 79) [] [])], 2, none⟩, ⟨3, (some 9), .ext 0 (.t 8), 0, none⟩, ⟨4, (some 10), .ext 1 (.t 8), 0, none⟩, ⟨5, (some 4), .mv (.t 9), 0, none⟩, ⟨6, (some 5), .mv (.t 10), 0, none⟩] [4, 5])
 (.ret))

theorem ok37 : okF Tryz.prog 37 2 c37 [.tmp 4, .tmp 5] = true := by kernel_rfl

/-- dauber/draw.Secret -/
def c38 : C :=
 .seq
 (.reg false [⟨0, (some 3), .box 6 (.t 0), 0, none⟩, ⟨1, (some 4), .box 4 (.t 1), 0, none⟩, ⟨2, (some 6), .mv (.c (.int .i64 (0))), 0, none⟩, ⟨3, (some 7), .mv (.c (.int .i64 (0))), 0, none⟩] [2, 3, 4])
 (.seq
 (.seq
 (.reg false [⟨0, (some 12), .load (some 6) (.t 3), 0, none⟩, ⟨1, (some 13), .load (some 4) (.t 4), 0, none⟩, ⟨2, (some 14), .call 51 [.t 12, .t 13, .c (.int .i64 (400))], 2, none⟩, ⟨3, (some 8), .mv (.t 14), 0, none⟩] [2, 3, 4, 8])
 (.seq
 (.reg false [⟨0, (some 15), .mv (.t 8), 0, none⟩, ⟨1, (some 16), .bin .neq (.t 15) (.c (.int .i64 (0))), 0, none⟩] [2, 3, 4, 8, 16])
 (.cond (.t 16)
 (.seq
 (.reg false [⟨0, (some 17), .mv (.t 8), 0, none⟩, ⟨1, (some 6), .mv (.c (.int .i64 (0))), 0, none⟩, ⟨2, (some 7), .mv (.t 17), 0, none⟩] [6, 7])
 (.ret))
 (.skip))))
 (.seq
 (.reg false [⟨0, (some 18), .load (some 6) (.t 3), 0, none⟩, ⟨1, (some 19), .load (some 4) (.t 4), 0, none⟩, ⟨2, (some 20), .call 58 [.t 18, .t 19], 2, none⟩, ⟨3, (some 9), .mv (.t 20), 0, none⟩] [2, 9])
 (.seq
 (.seq
 (.reg false [⟨0, (some 21), .mv (.t 9), 0, none⟩, ⟨1, (some 22), .nilc (.t 21), 0, none⟩, ⟨2, (some 23), .faddr 0 (.t 22), 0, none⟩, ⟨3, (some 24), .load (some 6) (.t 23), 0, none⟩, ⟨4, (some 25), .mv (.t 2), 0, none⟩, ⟨5, (some 26), .call 65 [.t 24, .t 25], 2, none⟩, ⟨6, (some 27), .un .not (.t 26), 0, none⟩, ⟨7, (some 28), .mv (.t 27), 0, none⟩, ⟨8, (some 29), .mv (.t 9), 0, (some (28, false))⟩, ⟨9, (some 30), .mv (.t 2), 0, (some (28, false))⟩, ⟨10, (some 31), .call 74 [.t 29, .t 30], 2, (some (28, false))⟩, ⟨11, (some 32), .un .not (.t 31), 0, (some (28, false))⟩, ⟨12, (some 33), .pick (.t 28) (.c (.bool true)) (.t 32), 0, none⟩] [2, 9, 33])
 (.cond (.t 33)
 (.seq
 (.reg false [⟨0, (some 6), .mv (.c (.int .i64 (0))), 0, none⟩, ⟨1, (some 7), .mv (.c (.int .i64 (4))), 0, none⟩] [6, 7])
 (.ret))
 (.skip)))
 (.seq
 (.reg false [⟨0, (some 35), .mv (.t 9), 0, none⟩, ⟨1, (some 36), .mv (.t 2), 0, none⟩, ⟨2, (some 37), .call 89 [.t 35, .t 36], 2, none⟩, ⟨3, (some 34), .mv (.t 37), 0, none⟩, ⟨4, (some 38), .ext 0 (.t 34), 0, none⟩, ⟨5, (some 39), .ext 1 (.t 34), 0, none⟩, ⟨6, (some 10), .mv (.t 38), 0, none⟩, ⟨7, (some 11), .mv (.t 39), 0, none⟩] [10, 11])
 (.seq
 (.seq
 (.reg false [⟨0, (some 40), .mv (.t 11), 0, none⟩, ⟨1, (some 41), .un .not (.t 40), 0, none⟩] [10, 41])
 (.cond (.t 41)
 (.seq
 (.reg false [⟨0, (some 6), .mv (.c (.int .i64 (0))), 0, none⟩, ⟨1, (some 7), .mv (.c (.int .i64 (4))), 0, none⟩] [6, 7])
 (.ret))
 (.skip)))
 (.seq
 (.reg false [⟨0, (some 42), .mv (.t 10), 0, none⟩, ⟨1, (some 6), .mv (.t 42), 0, none⟩, ⟨2, (some 7), .mv (.c (.int .i64 (0))), 0, none⟩] [6, 7])
 (.ret)))))))

theorem ok38 : okF Tryz.prog 38 3 c38 [.tmp 6, .tmp 7] = true := by kernel_rfl

/-- dauber/dauberref08.Check -/
def c49 : C :=
 .seq
 (.reg false [⟨0, (some 1), .box 3 (.t 0), 0, none⟩, ⟨1, (some 2), .mv (.c (.int .i64 (0))), 0, none⟩] [1])
 (.seq
 (.seq
 (.reg false [⟨0, (some 3), .faddr 0 (.t 1), 0, none⟩, ⟨1, (some 4), .load none (.t 3), 0, none⟩, ⟨2, (some 5), .bin .lss (.t 4) (.c (.int .i64 (3))), 0, none⟩, ⟨3, (some 6), .mv (.t 5), 0, none⟩, ⟨4, (some 7), .faddr 0 (.t 1), 0, (some (6, false))⟩, ⟨5, (some 8), .load none (.t 7), 0, (some (6, false))⟩, ⟨6, (some 9), .bin .gtr (.t 8) (.c (.int .i64 (2147483647))), 0, (some (6, false))⟩, ⟨7, (some 10), .pick (.t 6) (.c (.bool true)) (.t 9), 0, none⟩, ⟨8, (some 11), .mv (.t 10), 0, none⟩, ⟨9, (some 12), .faddr 1 (.t 1), 0, (some (11, false))⟩, ⟨10, (some 13), .load none (.t 12), 0, (some (11, false))⟩, ⟨11, (some 14), .bin .lss (.t 13) (.c (.int .i64 (3))), 0, (some (11, false))⟩, ⟨12, (some 15), .pick (.t 11) (.c (.bool true)) (.t 14), 0, none⟩, ⟨13, (some 16), .mv (.t 15), 0, none⟩, ⟨14, (some 17), .faddr 1 (.t 1), 0, (some (16, false))⟩, ⟨15, (some 18), .load none (.t 17), 0, (some (16, false))⟩, ⟨16, (some 19), .bin .gtr (.t 18) (.c (.int .i64 (65521))), 0, (some (16, false))⟩, ⟨17, (some 20), .pick (.t 16) (.c (.bool true)) (.t 19), 0, none⟩, ⟨18, (some 21), .mv (.t 20), 0, none⟩, ⟨19, (some 22), .faddr 2 (.t 1), 0, (some (21, false))⟩, ⟨20, (some 23), .load none (.t 22), 0, (some (21, false))⟩, ⟨21, (some 24), .bin .lss (.t 23) (.c (.int .i64 (2))), 0, (some (21, false))⟩, ⟨22, (some 25), .pick (.t 21) (.c (.bool true)) (.t 24), 0, none⟩, ⟨23, (some 26), .mv (.t 25), 0, none⟩, ⟨24, (some 27), .faddr 2 (.t 1), 0, (some (26, false))⟩, ⟨25, (some 28), .load none (.t 27), 0, (some (26, false))⟩, ⟨26, (some 29), .faddr 0 (.t 1), 0, (some (26, false))⟩, ⟨27, (some 30), .load none (.t 29), 0, (some (26, false))⟩, ⟨28, (some 31), .bin .geq (.t 28) (.t 30), 0, (some (26, false))⟩, ⟨29, (some 32), .pick (.t 26) (.c (.bool true)) (.t 31), 0, none⟩] [1, 32])
 (.cond (.t 32)
 (.seq
 (.reg false [⟨0, (some 2), .mv (.c (.int .i64 (80))), 0, none⟩] [2])
 (.ret))
 (.skip)))
 (.seq
 (.seq
 (.reg false [⟨0, (some 33), .faddr 0 (.t 1), 0, none⟩, ⟨1, (some 34), .load none (.t 33), 0, none⟩, ⟨2, (some 35), .call 63 [.t 34], 2, none⟩, ⟨3, (some 36), .un .not (.t 35), 0, none⟩, ⟨4, (some 37), .mv (.t 36), 0, none⟩, ⟨5, (some 38), .faddr 1 (.t 1), 0, (some (37, false))⟩, ⟨6, (some 39), .load none (.t 38), 0, (some (37, false))⟩, ⟨7, (some 40), .call 63 [.t 39], 2, (some (37, false))⟩, ⟨8, (some 41), .un .not (.t 40), 0, (some (37, false))⟩, ⟨9, (some 42), .pick (.t 37) (.c (.bool true)) (.t 41), 0, none⟩, ⟨10, (some 43), .mv (.t 42), 0, none⟩, ⟨11, (some 44), .faddr 0 (.t 1), 0, (some (43, false))⟩, ⟨12, (some 45), .load none (.t 44), 0, (some (43, false))⟩, ⟨13, (some 46), .bin .sub (.t 45) (.c (.int .i64 (1))), 0, (some (43, false))⟩, ⟨14, (some 47), .faddr 1 (.t 1), 0, (some (43, false))⟩, ⟨15, (some 48), .load none (.t 47), 0, (some (43, false))⟩, ⟨16, (some 49), .bin .rem (.t 46) (.t 48), 0, (some (43, false))⟩, ⟨17, (some 50), .bin .neq (.t 49) (.c (.int .i64 (0))), 0, (some (43, false))⟩, ⟨18, (some 51), .pick (.t 43) (.c (.bool true)) (.t 50), 0, none⟩, ⟨19, (some 52), .mv (.t 51), 0, none⟩, ⟨20, (some 53), .faddr 2 (.t 1), 0, (some (52, false))⟩, ⟨21, (some 54), .load none (.t 53), 0, (some (52, false))⟩, ⟨22, (some 55), .faddr 1 (.t 1), 0, (some (52, false))⟩, ⟨23, (some 56), .load none (.t 55), 0, (some (52, false))⟩, ⟨24, (some 57), .faddr 0 (.t 1), 0, (some (52, false))⟩, ⟨25, (some 58), .load none (.t 57), 0, (some (52, false))⟩, ⟨26, (some 59), .call 64 [.t 54, .t 56, .t 58], 2, (some (52, false))⟩, ⟨27, (some 60), .bin .neq (.t 59) (.c (.int .i64 (1))), 0, (some (52, false))⟩, ⟨28, (some 61), .pick (.t 52) (.c (.bool true)) (.t 60), 0, none⟩] [61])
 (.cond (.t 61)
 (.seq
 (.reg false [⟨0, (some 2), .mv (.c (.int .i64 (80))), 0, none⟩] [2])
 (.ret))
 (.skip)))
 (.seq
 (.reg false [⟨0, (some 2), .mv (.c (.int .i64 (0))), 0, none⟩] [2])
 (.ret))))

theorem ok49 : okF Tryz.prog 49 1 c49 [.tmp 2] = true := by kernel_rfl

/-- dauber/draw.checkBoard -/
def c51 : C :=
 .seq
 (.reg false [⟨0, (some 3), .box 6 (.t 0), 0, none⟩, ⟨1, (some 4), .box 4 (.t 1), 0, none⟩, ⟨2, (some 6), .mv (.c (.int .i64 (0))), 0, none⟩] [2, 3, 4])
 (.seq
 (.seq
 (.reg false [⟨0, (some 10), .load (some 6) (.t 3), 0, none⟩, ⟨1, (some 11), .call 36 [.t 10], 2, none⟩, ⟨2, (some 7), .mv (.t 11), 0, none⟩] [2, 4, 7])
 (.seq
 (.reg false [⟨0, (some 12), .mv (.t 7), 0, none⟩, ⟨1, (some 13), .bin .neq (.t 12) (.c (.int .i64 (0))), 0, none⟩] [2, 4, 7, 13])
 (.cond (.t 13)
 (.seq
 (.reg false [⟨0, (some 14), .mv (.t 7), 0, none⟩, ⟨1, (some 6), .mv (.t 14), 0, none⟩] [6])
 (.ret))
 (.skip))))
 (.seq
 (.seq
 (.reg false [⟨0, (some 15), .load (some 4) (.t 4), 0, none⟩, ⟨1, (some 16), .call 56 [.t 15], 2, none⟩, ⟨2, (some 17), .mv (.c (.int .i64 (0))), 0, none⟩] [2, 16, 17])
 (.blk 0
 (.loop [2, 16, 17]
 (.seq
 (.reg false [⟨0, (some 18), .bin .lss (.t 17) (.c (.int .i64 (4))), 0, none⟩] [2, 16, 17, 18])
 (.seq
 (.cond (.t 18)
 (.skip)
 (.exit 0))
 (.seq
 (.blk 1
 (.seq
 (.reg false [⟨0, (some 19), .aidx none 4 1 (.t 16) (.t 17), 0, none⟩, ⟨1, (some 9), .mv (.t 19), 0, none⟩] [2, 9, 16, 17])
 (.seq
 (.reg false [⟨0, (some 20), .mv (.t 9), 0, none⟩, ⟨1, (some 21), .len none (.t 20), 0, none⟩, ⟨2, (some 22), .mv (.t 2), 0, none⟩, ⟨3, (some 23), .bin .gtr (.t 21) (.t 22), 0, none⟩, ⟨4, (some 24), .mv (.t 23), 0, none⟩, ⟨5, (some 25), .mv (.t 9), 0, (some (24, false))⟩, ⟨6, (some 26), .call 107 [.t 25, .c (.clo (.func 108) [] [])], 2, (some (24, false))⟩, ⟨7, (some 27), .pick (.t 24) (.c (.bool true)) (.t 26), 0, none⟩] [2, 16, 17, 27])
 (.cond (.t 27)
 (.seq
 (.reg false [⟨0, (some 6), .mv (.c (.int .i64 (2))), 0, none⟩] [6])
 (.ret))
 (.skip)))))
 (.reg false [⟨0, (some 28), .bin .add (.t 17) (.c (.int .i64 (1))), 0, none⟩, ⟨1, (some 17), .mv (.t 28), 0, none⟩] [2, 16, 17])))))))
 (.seq
 (.reg false [⟨0, (some 6), .mv (.c (.int .i64 (0))), 0, none⟩] [6])
 (.ret))))

theorem ok51 : okF Tryz.prog 51 3 c51 [.tmp 6] = true := by kernel_rfl

/-- slices.ContainsFunc[[][]int64,[]int64] -/
def c52 : C :=
 .seq
 (.reg false [⟨0, (some 4), .mv (.c (.bool false)), 0, none⟩] [0, 1])
 (.seq
 (.reg false [⟨0, (some 5), .mv (.t 0), 0, none⟩, ⟨1, (some 6), .mv (.t 1), 0, none⟩, ⟨2, (some 7), .call 109 [.t 5, .t 6], 2, none⟩, ⟨3, (some 8), .bin .geq (.t 7) (.c (.int .i64 (0))), 0, none⟩, ⟨4, (some 4), .mv (.t 8), 0, none⟩] [4])
 (.ret))

theorem ok52 : okF Tryz.prog 52 2 c52 [.tmp 4] = true := by kernel_rfl

/-- dauber/draw.Run$1 -/
def c53 : C :=
 .seq
 (.reg false [⟨0, (some 3), .mv (.c (.bool false)), 0, none⟩] [0, 1])
 (.seq
 (.reg false [⟨0, (some 4), .mv (.t 0), 0, none⟩, ⟨1, (some 5), .len none (.t 4), 0, none⟩, ⟨2, (some 6), .bin .gtr (.t 5) (.c (.int .i64 (0))), 0, none⟩, ⟨3, (some 7), .mv (.t 6), 0, none⟩, ⟨4, (some 8), .mv (.t 0), 0, (some (7, true))⟩, ⟨5, (some 9), .len none (.t 8), 0, (some (7, true))⟩, ⟨6, (some 10), .faddr 4 (.t 1), 0, (some (7, true))⟩, ⟨7, (some 11), .load none (.t 10), 0, (some (7, true))⟩, ⟨8, (some 12), .bin .add (.t 11) (.c (.int .i64 (1))), 0, (some (7, true))⟩, ⟨9, (some 13), .bin .neq (.t 9) (.t 12), 0, (some (7, true))⟩, ⟨10, (some 14), .mv (.t 13), 0, (some (7, true))⟩, ⟨11, (some 15), .load (some 6) (.t 1), 0, (some (14, false))⟩, ⟨12, (some 16), .mv (.t 0), 0, (some (14, false))⟩, ⟨13, (some 17), .call 54 [.t 15, .t 16], 2, (some (14, false))⟩, ⟨14, (some 18), .un .not (.t 17), 0, (some (14, false))⟩, ⟨15, (some 19), .pick (.t 14) (.c (.bool true)) (.t 18), 0, (some (7, true))⟩, ⟨16, (some 20), .pick (.t 7) (.t 19) (.c (.bool false)), 0, none⟩, ⟨17, (some 3), .mv (.t 20), 0, none⟩] [3])
 (.ret))

theorem ok53 : okF Tryz.prog 53 2 c53 [.tmp 3] = true := by kernel_rfl

/-- dauber/draw.areSecrets -/
def c54 : C :=
 .seq
 (.reg false [⟨0, (some 2), .box 6 (.t 0), 0, none⟩, ⟨1, (some 4), .mv (.c (.bool false)), 0, none⟩] [1, 2])
 (.seq
 (.reg false [⟨0, (some 5), .mv (.t 1), 0, none⟩, ⟨1, (some 6), .mkfn (.func 111) [] [.t 2], 0, none⟩, ⟨2, (some 7), .call 110 [.t 5, .t 6], 2, none⟩, ⟨3, (some 8), .un .not (.t 7), 0, none⟩, ⟨4, (some 4), .mv (.t 8), 0, none⟩] [4])
 (.ret))

theorem ok54 : okF Tryz.prog 54 2 c54 [.tmp 4] = true := by kernel_rfl

/-- dauber/draw.shares -/
def c55 : C :=
 .seq
 (.reg false [⟨0, (some 3), .box 6 (.t 0), 0, none⟩, ⟨1, (some 6), .mv (.c (.nils)), 0, none⟩] [1, 2, 3])
 (.seq
 (.reg false [⟨0, (some 15), .faddr 3 (.t 3), 0, none⟩, ⟨1, (some 16), .load none (.t 15), 0, none⟩, ⟨2, (some 17), .mksl 1 24 [.nils] (.t 16) (.t 16), 0, none⟩, ⟨3, (some 7), .mv (.t 17), 0, none⟩] [1, 2, 3, 7])
 (.seq
 (.seq
 (.reg false [⟨0, (some 18), .mv (.t 7), 0, none⟩, ⟨1, (some 19), .len none (.t 18), 0, none⟩, ⟨2, (some 20), .mv (.c (.int .i64 (0))), 0, none⟩] [1, 2, 3, 7, 19, 20])
 (.blk 0
 (.loop [1, 2, 3, 7, 19, 20]
 (.seq
 (.reg false [⟨0, (some 21), .bin .lss (.t 20) (.t 19), 0, none⟩] [1, 2, 3, 7, 19, 20, 21])
 (.seq
 (.cond (.t 21)
 (.skip)
 (.exit 0))
 (.seq
 (.blk 1
 (.seq
 (.reg false [⟨0, (some 22), .mv (.t 20), 0, none⟩, ⟨1, (some 8), .mv (.t 22), 0, none⟩] [1, 2, 3, 7, 8, 19, 20])
 (.reg false [⟨0, (some 23), .mv (.t 7), 0, none⟩, ⟨1, (some 24), .mv (.t 8), 0, none⟩, ⟨2, (some 25), .bsl 1 1 [.int .i64 (0)] [(0, 1, .c (.int .i64 (-1)))], 0, none⟩, ⟨3, (some 26), .faddr 3 (.t 3), 0, none⟩, ⟨4, (some 27), .load none (.t 26), 0, none⟩, ⟨5, (some 28), .call 112 [.t 25, .t 27], 2, none⟩, ⟨6, (some 29), .iaddr none 1 (.t 23) (.t 24), 0, none⟩, ⟨7, none, .store 1 (.t 29) (.t 28), 0, none⟩] [1, 2, 3, 7, 19, 20])))
 (.reg false [⟨0, (some 30), .bin .add (.t 20) (.c (.int .i64 (1))), 0, none⟩, ⟨1, (some 20), .mv (.t 30), 0, none⟩] [1, 2, 3, 7, 19, 20])))))))
 (.seq
 (.seq
 (.reg false [⟨0, (some 31), .mv (.t 1), 0, none⟩, ⟨1, (some 32), .len none (.t 31), 0, none⟩, ⟨2, (some 33), .mv (.c (.int .i64 (0))), 0, none⟩] [2, 3, 7, 31, 32, 33])
 (.blk 2
 (.loop [2, 3, 7, 31, 32, 33]
 (.seq
 (.reg false [⟨0, (some 34), .bin .lss (.t 33) (.t 32), 0, none⟩] [2, 3, 7, 31, 32, 33, 34])
 (.seq
 (.cond (.t 34)
 (.skip)
 (.exit 2))
 (.seq
 (.blk 3
 (.seq
 (.reg false [⟨0, (some 35), .mv (.t 33), 0, none⟩, ⟨1, (some 36), .iaddr none 1 (.t 31) (.t 33), 0, none⟩, ⟨2, (some 37), .load none (.t 36), 0, none⟩, ⟨3, (some 9), .mv (.t 35), 0, none⟩, ⟨4, (some 10), .mv (.t 37), 0, none⟩] [2, 3, 7, 9, 10, 31, 32, 33])
 (.seq
 (.seq
 (.reg false [⟨0, (some 38), .mv (.t 10), 0, none⟩, ⟨1, (some 39), .len none (.t 38), 0, none⟩, ⟨2, (some 40), .bin .eql (.t 39) (.c (.int .i64 (0))), 0, none⟩] [2, 3, 7, 9, 10, 31, 32, 33, 40])
 (.cond (.t 40)
 (.exit 3)
 (.skip)))
 (.seq
 (.reg false [⟨0, (some 42), .faddr 0 (.t 3), 0, none⟩, ⟨1, (some 43), .load (some 3) (.t 42), 0, none⟩, ⟨2, (some 44), .mv (.t 10), 0, none⟩, ⟨3, (some 45), .faddr 3 (.t 3), 0, none⟩, ⟨4, (some 46), .load none (.t 45), 0, none⟩, ⟨5, (some 47), .call 105 [.t 43, .t 44, .t 46], 2, none⟩, ⟨6, (some 41), .mv (.t 47), 0, none⟩, ⟨7, (some 48), .ext 0 (.t 41), 0, none⟩, ⟨8, (some 49), .ext 1 (.t 41), 0, none⟩, ⟨9, (some 11), .mv (.t 48), 0, none⟩, ⟨10, (some 12), .mv (.t 49), 0, none⟩] [2, 3, 7, 9, 11, 31, 32, 33])
 (.seq
 (.reg false [⟨0, (some 50), .mv (.t 11), 0, none⟩, ⟨1, (some 51), .len none (.t 50), 0, none⟩, ⟨2, (some 52), .mv (.c (.int .i64 (0))), 0, none⟩] [2, 3, 7, 9, 31, 32, 33, 50, 51, 52])
 (.blk 4
 (.loop [2, 3, 7, 9, 31, 32, 33, 50, 51, 52]
 (.seq
 (.reg false [⟨0, (some 53), .bin .lss (.t 52) (.t 51), 0, none⟩] [2, 3, 7, 9, 31, 32, 33, 50, 51, 52, 53])
 (.seq
 (.cond (.t 53)
 (.skip)
 (.exit 4))
 (.seq
 (.blk 5
 (.seq
 (.reg false [⟨0, (some 54), .mv (.t 52), 0, none⟩, ⟨1, (some 55), .iaddr none 1 (.t 50) (.t 52), 0, none⟩, ⟨2, (some 56), .load none (.t 55), 0, none⟩, ⟨3, (some 13), .mv (.t 54), 0, none⟩, ⟨4, (some 14), .mv (.t 56), 0, none⟩] [2, 3, 7, 9, 13, 14, 31, 32, 33, 50, 51, 52])
 (.seq
 (.reg false [⟨0, (some 57), .mv (.t 13), 0, none⟩, ⟨1, (some 58), .mv (.t 9), 0, none⟩, ⟨2, (some 59), .bin .neq (.t 57) (.t 58), 0, none⟩, ⟨3, (some 60), .mv (.t 59), 0, none⟩, ⟨4, (some 61), .mv (.t 2), 0, (some (60, true))⟩, ⟨5, (some 62), .mv (.t 9), 0, (some (60, true))⟩, ⟨6, (some 63), .bin .add (.t 62) (.c (.int .i64 (1))), 0, (some (60, true))⟩, ⟨7, (some 64), .mv (.t 13), 0, (some (60, true))⟩, ⟨8, (some 65), .bin .add (.t 64) (.c (.int .i64 (1))), 0, (some (60, true))⟩, ⟨9, (some 66), .build [.int .i64 (0), .int .i64 (0)] [(0, 1, .t 63), (1, 1, .t 65)], 0, (some (60, true))⟩, ⟨10, (some 67), .call 113 [.t 61, .t 66], 2, (some (60, true))⟩, ⟨11, (some 68), .un .not (.t 67), 0, (some (60, true))⟩, ⟨12, (some 69), .pick (.t 60) (.t 68) (.c (.bool false)), 0, none⟩] [2, 3, 7, 9, 13, 14, 31, 32, 33, 50, 51, 52, 69])
 (.cond (.t 69)
 (.reg false [⟨0, (some 70), .mv (.t 7), 0, none⟩, ⟨1, (some 71), .mv (.t 13), 0, none⟩, ⟨2, (some 72), .iaddr none 1 (.t 70) (.t 71), 0, none⟩, ⟨3, (some 73), .load none (.t 72), 0, none⟩, ⟨4, (some 74), .mv (.t 9), 0, none⟩, ⟨5, (some 75), .mv (.t 14), 0, none⟩, ⟨6, (some 76), .iaddr none 1 (.t 73) (.t 74), 0, none⟩, ⟨7, none, .store 1 (.t 76) (.t 75), 0, none⟩] [2, 3, 7, 9, 31, 32, 33, 50, 51, 52])
 (.skip)))))
 (.reg false [⟨0, (some 77), .bin .add (.t 52) (.c (.int .i64 (1))), 0, none⟩, ⟨1, (some 52), .mv (.t 77), 0, none⟩] [2, 3, 7, 9, 31, 32, 33, 50, 51, 52])))))))))))
 (.reg false [⟨0, (some 78), .bin .add (.t 33) (.c (.int .i64 (1))), 0, none⟩, ⟨1, (some 33), .mv (.t 78), 0, none⟩] [2, 3, 7, 31, 32, 33])))))))
 (.seq
 (.reg false [⟨0, (some 79), .mv (.t 7), 0, none⟩, ⟨1, (some 6), .mv (.t 79), 0, none⟩] [6])
 (.ret)))))

theorem ok55 : okF Tryz.prog 55 3 c55 [.tmp 6] = true := by kernel_rfl

/-- (dauber/draw.Board).lists -/
def c56 : C :=
 .seq
 (.reg false [⟨0, (some 1), .box 4 (.t 0), 0, none⟩, ⟨1, (some 2), .alloc [.nils, .nils, .nils, .nils] 4, 0, none⟩] [1, 2])
 (.seq
 (.reg false [⟨0, (some 3), .faddr 0 (.t 1), 0, none⟩, ⟨1, (some 4), .load none (.t 3), 0, none⟩, ⟨2, (some 5), .faddr 1 (.t 1), 0, none⟩, ⟨3, (some 6), .load none (.t 5), 0, none⟩, ⟨4, (some 7), .faddr 2 (.t 1), 0, none⟩, ⟨5, (some 8), .load none (.t 7), 0, none⟩, ⟨6, (some 9), .faddr 3 (.t 1), 0, none⟩, ⟨7, (some 10), .load none (.t 9), 0, none⟩, ⟨8, (some 11), .build [.nils, .nils, .nils, .nils] [(0, 1, .t 4), (1, 1, .t 6), (2, 1, .t 8), (3, 1, .t 10)], 0, none⟩, ⟨9, none, .store 4 (.t 2) (.t 11), 0, none⟩] [2])
 (.ret))

theorem ok56 : okF Tryz.prog 56 1 c56 [.cell (some 4) 2] = true := by kernel_rfl

/-- slices.Clone[[]int64,int64] -/
def c57 : C :=
 .seq
 (.reg false [⟨0, (some 2), .mv (.c (.nils)), 0, none⟩] [0])
 (.seq
 (.seq
 (.reg false [⟨0, (some 3), .mv (.t 0), 0, none⟩, ⟨1, (some 4), .eqa false (.t 3) (.c (.nils)), 0, none⟩] [0, 4])
 (.cond (.t 4)
 (.seq
 (.reg false [⟨0, (some 2), .mv (.c (.nils)), 0, none⟩] [2])
 (.ret))
 (.skip)))
 (.seq
 (.reg false [⟨0, (some 5), .bsl 1 0 [] [], 0, none⟩, ⟨1, (some 6), .mv (.t 0), 0, none⟩, ⟨2, (some 7), .app 1 8 (.t 5) (.t 6), 0, none⟩, ⟨3, (some 2), .mv (.t 7), 0, none⟩] [2])
 (.ret)))

theorem ok57 : okF Tryz.prog 57 1 c57 [.tmp 2] = true := by kernel_rfl

/-- dauber/draw.read -/
def c58 : C :=
 .seq
 (.reg false [⟨0, (some 2), .box 6 (.t 0), 0, none⟩, ⟨1, (some 3), .box 4 (.t 1), 0, none⟩, ⟨2, (some 4), .mv (.c (.nilp)), 0, none⟩] [2, 3])
 (.seq
 (.reg false [⟨0, (some 14), .load (some 6) (.t 2), 0, none⟩, ⟨1, (some 15), .load (some 4) (.t 3), 0, none⟩, ⟨2, (some 16), .build (List.replicate 6 (.int .i64 (0)) ++ [.nils, .nils, .nils, .nils] ++ List.replicate 17 (.int .i64 (0)) ++ List.replicate 17 (.nils) ++ List.replicate 289 (.bool false) ++ List.replicate 289 (.int .i64 (0))) [(0, 6, .t 14), (6, 4, .t 15)], 0, none⟩, ⟨3, (some 17), .box 622 (.t 16), 0, none⟩, ⟨4, (some 5), .mv (.t 17), 0, none⟩] [2, 3, 5])
 (.seq
 (.seq
 (.reg false [⟨0, (some 18), .mv (.c (.int .i64 (0))), 0, none⟩] [2, 3, 5, 18])
 (.blk 0
 (.loop [2, 3, 5, 18]
 (.seq
 (.reg false [⟨0, (some 19), .bin .lss (.t 18) (.c (.int .i64 (17))), 0, none⟩] [2, 3, 5, 18, 19])
 (.seq
 (.cond (.t 19)
 (.skip)
 (.exit 0))
 (.seq
 (.blk 1
 (.seq
 (.reg false [⟨0, (some 20), .mv (.t 18), 0, none⟩, ⟨1, (some 6), .mv (.t 20), 0, none⟩] [2, 3, 5, 6, 18])
 (.seq
 (.reg false [⟨0, (some 21), .mv (.t 5), 0, none⟩, ⟨1, (some 22), .mv (.t 6), 0, none⟩, ⟨2, (some 23), .nilc (.t 21), 0, none⟩, ⟨3, (some 24), .faddr 10 (.t 23), 0, none⟩, ⟨4, (some 25), .iaddr (some 17) 1 (.t 24) (.t 22), 0, none⟩, ⟨5, none, .store 1 (.t 25) (.c (.int .i64 (-1))), 0, none⟩] [2, 3, 5, 6, 18])
 (.seq
 (.reg false [⟨0, (some 26), .mv (.c (.int .i64 (0))), 0, none⟩] [2, 3, 5, 6, 18, 26])
 (.blk 2
 (.loop [2, 3, 5, 6, 18, 26]
 (.seq
 (.reg false [⟨0, (some 27), .bin .lss (.t 26) (.c (.int .i64 (17))), 0, none⟩] [2, 3, 5, 6, 18, 26, 27])
 (.seq
 (.cond (.t 27)
 (.skip)
 (.exit 2))
 (.seq
 (.blk 3
 (.seq
 (.reg false [⟨0, (some 28), .mv (.t 26), 0, none⟩, ⟨1, (some 7), .mv (.t 28), 0, none⟩] [2, 3, 5, 6, 7, 18, 26])
 (.reg false [⟨0, (some 29), .mv (.t 5), 0, none⟩, ⟨1, (some 30), .mv (.t 6), 0, none⟩, ⟨2, (some 31), .mv (.t 7), 0, none⟩, ⟨3, (some 32), .nilc (.t 29), 0, none⟩, ⟨4, (some 33), .faddr 333 (.t 32), 0, none⟩, ⟨5, (some 34), .iaddr (some 17) 17 (.t 33) (.t 30), 0, none⟩, ⟨6, (some 35), .iaddr (some 17) 1 (.t 34) (.t 31), 0, none⟩, ⟨7, none, .store 1 (.t 35) (.c (.int .i64 (-1))), 0, none⟩] [2, 3, 5, 6, 18, 26])))
 (.reg false [⟨0, (some 36), .bin .add (.t 26) (.c (.int .i64 (1))), 0, none⟩, ⟨1, (some 26), .mv (.t 36), 0, none⟩] [2, 3, 5, 6, 18, 26]))))))))))
 (.reg false [⟨0, (some 37), .bin .add (.t 18) (.c (.int .i64 (1))), 0, none⟩, ⟨1, (some 18), .mv (.t 37), 0, none⟩] [2, 3, 5, 18])))))))
 (.seq
 (.seq
 (.reg false [⟨0, (some 38), .faddr 0 (.t 3), 0, none⟩, ⟨1, (some 39), .load none (.t 38), 0, none⟩, ⟨2, (some 40), .len none (.t 39), 0, none⟩, ⟨3, (some 41), .mv (.c (.int .i64 (0))), 0, none⟩] [2, 3, 5, 39, 40, 41])
 (.blk 4
 (.loop [2, 3, 5, 39, 40, 41]
 (.seq
 (.reg false [⟨0, (some 42), .bin .lss (.t 41) (.t 40), 0, none⟩] [2, 3, 5, 39, 40, 41, 42])
 (.seq
 (.cond (.t 42)
 (.skip)
 (.exit 4))
 (.seq
 (.blk 5
 (.seq
 (.reg false [⟨0, (some 43), .mv (.t 41), 0, none⟩, ⟨1, (some 44), .iaddr none 4 (.t 39) (.t 41), 0, none⟩, ⟨2, (some 45), .load (some 4) (.t 44), 0, none⟩, ⟨3, (some 9), .alloc [.int .i64 (0), .int .i64 (0), .int .i64 (0), .nils] 4, 0, none⟩, ⟨4, (some 8), .mv (.t 43), 0, none⟩, ⟨5, none, .store 4 (.t 9) (.t 45), 0, none⟩] [2, 3, 5, 8, 9, 39, 40, 41])
 (.seq
 (.reg true [⟨2, (some 48), .faddr 4 (.t 2), 0, none⟩, ⟨0, (some 46), .load (some 6) (.t 2), 0, none⟩, ⟨1, (some 47), .load (some 4) (.t 9), 0, none⟩, ⟨3, (some 49), .load none (.t 48), 0, none⟩, ⟨4, (some 50), .bin .add (.t 49) (.c (.int .i64 (1))), 0, none⟩, ⟨5, (some 51), .call 114 [.t 46, .t 47, .c (.int .i64 (1)), .t 50, .c (.bool false)], 2, none⟩, ⟨6, (some 52), .mv (.t 51), 0, none⟩, ⟨7, (some 53), .mv (.t 5), 0, (some (52, true))⟩, ⟨8, (some 54), .faddr 0 (.t 9), 0, (some (52, true))⟩, ⟨10, (some 56), .nilc (.t 53), 0, (some (52, true))⟩, ⟨11, (some 57), .faddr 10 (.t 56), 0, (some (52, true))⟩, ⟨9, (some 55), .load none (.t 54), 0, (some (52, true))⟩, ⟨12, (some 58), .iaddr (some 17) 1 (.t 57) (.t 55), 0, (some (52, true))⟩, ⟨13, (some 59), .load none (.t 58), 0, (some (52, true))⟩, ⟨14, (some 60), .bin .lss (.t 59) (.c (.int .i64 (0))), 0, (some (52, true))⟩, ⟨15, (some 61), .pick (.t 52) (.t 60) (.c (.bool false)), 0, none⟩] [2, 3, 5, 8, 9, 39, 40, 41, 61])
 (.cond (.t 61)
 (.seq
 (.reg true [⟨0, (some 62), .mv (.t 5), 0, none⟩, ⟨1, (some 63), .faddr 0 (.t 9), 0, none⟩, ⟨3, (some 65), .mv (.t 8), 0, none⟩, ⟨4, (some 66), .nilc (.t 62), 0, none⟩, ⟨5, (some 67), .faddr 10 (.t 66), 0, none⟩, ⟨2, (some 64), .load none (.t 63), 0, none⟩, ⟨6, (some 68), .iaddr (some 17) 1 (.t 67) (.t 64), 0, none⟩, ⟨7, none, .store 1 (.t 68) (.t 65), 0, none⟩] [2, 3, 5, 9, 39, 40, 41])
 (.seq
 (.reg false [⟨0, (some 69), .faddr 3 (.t 9), 0, none⟩, ⟨1, (some 70), .load none (.t 69), 0, none⟩, ⟨2, (some 71), .mkfn (.func 115) [] [.t 2], 0, none⟩, ⟨3, (some 72), .call 110 [.t 70, .t 71], 2, none⟩, ⟨4, (some 73), .un .not (.t 72), 0, none⟩] [2, 3, 5, 9, 39, 40, 41, 73])
 (.cond (.t 73)
 (.reg true [⟨0, (some 74), .mv (.t 5), 0, none⟩, ⟨1, (some 75), .faddr 0 (.t 9), 0, none⟩, ⟨3, (some 77), .faddr 3 (.t 9), 0, none⟩, ⟨5, (some 79), .nilc (.t 74), 0, none⟩, ⟨6, (some 80), .faddr 27 (.t 79), 0, none⟩, ⟨2, (some 76), .load none (.t 75), 0, none⟩, ⟨4, (some 78), .load none (.t 77), 0, none⟩, ⟨7, (some 81), .iaddr (some 17) 1 (.t 80) (.t 76), 0, none⟩, ⟨8, none, .store 1 (.t 81) (.t 78), 0, none⟩] [2, 3, 5, 39, 40, 41])
 (.skip))))
 (.skip)))))
 (.reg false [⟨0, (some 82), .bin .add (.t 41) (.c (.int .i64 (1))), 0, none⟩, ⟨1, (some 41), .mv (.t 82), 0, none⟩] [2, 3, 5, 39, 40, 41])))))))
 (.seq
 (.seq
 (.reg false [⟨0, (some 83), .faddr 1 (.t 3), 0, none⟩, ⟨1, (some 84), .load none (.t 83), 0, none⟩, ⟨2, (some 85), .len none (.t 84), 0, none⟩, ⟨3, (some 86), .mv (.c (.int .i64 (0))), 0, none⟩] [2, 3, 5, 84, 85, 86])
 (.blk 6
 (.loop [2, 3, 5, 84, 85, 86]
 (.seq
 (.reg false [⟨0, (some 87), .bin .lss (.t 86) (.t 85), 0, none⟩] [2, 3, 5, 84, 85, 86, 87])
 (.seq
 (.cond (.t 87)
 (.skip)
 (.exit 6))
 (.seq
 (.blk 7
 (.seq
 (.reg false [⟨0, (some 88), .iaddr none 4 (.t 84) (.t 86), 0, none⟩, ⟨1, (some 89), .load (some 4) (.t 88), 0, none⟩, ⟨2, (some 11), .alloc [.int .i64 (0), .int .i64 (0), .int .i64 (0), .nils] 4, 0, none⟩, ⟨3, none, .store 4 (.t 11) (.t 89), 0, none⟩] [2, 3, 5, 11, 84, 85, 86])
 (.seq
 (.reg true [⟨0, (some 90), .load (some 6) (.t 2), 0, none⟩, ⟨1, (some 91), .load (some 4) (.t 11), 0, none⟩, ⟨2, (some 92), .call 114 [.t 90, .t 91, .c (.int .i64 (2)), .c (.int .i64 (0)), .c (.bool true)], 2, none⟩, ⟨3, (some 93), .mv (.t 92), 0, none⟩, ⟨4, (some 94), .mv (.t 5), 0, (some (93, true))⟩, ⟨5, (some 95), .faddr 2 (.t 11), 0, (some (93, true))⟩, ⟨7, (some 97), .nilc (.t 94), 0, (some (93, true))⟩, ⟨8, (some 98), .faddr 27 (.t 97), 0, (some (93, true))⟩, ⟨6, (some 96), .load none (.t 95), 0, (some (93, true))⟩, ⟨9, (some 99), .iaddr (some 17) 1 (.t 98) (.t 96), 0, (some (93, true))⟩, ⟨10, (some 100), .load none (.t 99), 0, (some (93, true))⟩, ⟨11, (some 101), .eqn 1 true (.t 100) (.c (.nils)), 0, (some (93, true))⟩, ⟨12, (some 102), .pick (.t 93) (.t 101) (.c (.bool false)), 0, none⟩] [2, 3, 5, 11, 84, 85, 86, 102])
 (.cond (.t 102)
 (.reg true [⟨0, (some 103), .mv (.t 5), 0, none⟩, ⟨1, (some 104), .faddr 0 (.t 11), 0, none⟩, ⟨3, (some 106), .faddr 2 (.t 11), 0, none⟩, ⟨5, (some 108), .nilc (.t 103), 0, none⟩, ⟨6, (some 109), .faddr 44 (.t 108), 0, none⟩, ⟨2, (some 105), .load none (.t 104), 0, none⟩, ⟨7, (some 110), .iaddr (some 17) 17 (.t 109) (.t 105), 0, none⟩, ⟨4, (some 107), .load none (.t 106), 0, none⟩, ⟨8, (some 111), .iaddr (some 17) 1 (.t 110) (.t 107), 0, none⟩, ⟨9, none, .store 1 (.t 111) (.c (.bool true)), 0, none⟩] [2, 3, 5, 84, 85, 86])
 (.skip)))))
 (.reg false [⟨0, (some 112), .bin .add (.t 86) (.c (.int .i64 (1))), 0, none⟩, ⟨1, (some 86), .mv (.t 112), 0, none⟩] [2, 3, 5, 84, 85, 86])))))))
 (.seq
 (.seq
 (.reg false [⟨0, (some 113), .faddr 2 (.t 3), 0, none⟩, ⟨1, (some 114), .load none (.t 113), 0, none⟩, ⟨2, (some 115), .len none (.t 114), 0, none⟩, ⟨3, (some 116), .mv (.c (.int .i64 (0))), 0, none⟩] [2, 5, 114, 115, 116])
 (.blk 8
 (.loop [2, 5, 114, 115, 116]
 (.seq
 (.reg false [⟨0, (some 117), .bin .lss (.t 116) (.t 115), 0, none⟩] [2, 5, 114, 115, 116, 117])
 (.seq
 (.cond (.t 117)
 (.skip)
 (.exit 8))
 (.seq
 (.blk 9
 (.seq
 (.reg false [⟨0, (some 118), .mv (.t 116), 0, none⟩, ⟨1, (some 119), .iaddr none 4 (.t 114) (.t 116), 0, none⟩, ⟨2, (some 120), .load (some 4) (.t 119), 0, none⟩, ⟨3, (some 13), .alloc [.int .i64 (0), .int .i64 (0), .int .i64 (0), .nils] 4, 0, none⟩, ⟨4, (some 12), .mv (.t 118), 0, none⟩, ⟨5, none, .store 4 (.t 13) (.t 120), 0, none⟩] [2, 5, 12, 13, 114, 115, 116])
 (.seq
 (.reg true [⟨0, (some 121), .load (some 6) (.t 2), 0, none⟩, ⟨1, (some 122), .load (some 4) (.t 13), 0, none⟩, ⟨2, (some 123), .call 114 [.t 121, .t 122, .c (.int .i64 (3)), .c (.int .i64 (1)), .c (.bool true)], 2, none⟩, ⟨3, (some 124), .mv (.t 123), 0, none⟩, ⟨4, (some 125), .mv (.t 5), 0, (some (124, true))⟩, ⟨5, (some 126), .faddr 0 (.t 13), 0, (some (124, true))⟩, ⟨7, (some 128), .faddr 2 (.t 13), 0, (some (124, true))⟩, ⟨9, (some 130), .nilc (.t 125), 0, (some (124, true))⟩, ⟨10, (some 131), .faddr 333 (.t 130), 0, (some (124, true))⟩, ⟨6, (some 127), .load none (.t 126), 0, (some (124, true))⟩, ⟨11, (some 132), .iaddr (some 17) 17 (.t 131) (.t 127), 0, (some (124, true))⟩, ⟨8, (some 129), .load none (.t 128), 0, (some (124, true))⟩, ⟨12, (some 133), .iaddr (some 17) 1 (.t 132) (.t 129), 0, (some (124, true))⟩, ⟨13, (some 134), .load none (.t 133), 0, (some (124, true))⟩, ⟨14, (some 135), .bin .lss (.t 134) (.c (.int .i64 (0))), 0, (some (124, true))⟩, ⟨15, (some 136), .pick (.t 124) (.t 135) (.c (.bool false)), 0, none⟩] [2, 5, 12, 13, 114, 115, 116, 136])
 (.cond (.t 136)
 (.reg true [⟨0, (some 137), .mv (.t 5), 0, none⟩, ⟨1, (some 138), .faddr 0 (.t 13), 0, none⟩, ⟨3, (some 140), .faddr 2 (.t 13), 0, none⟩, ⟨5, (some 142), .mv (.t 12), 0, none⟩, ⟨6, (some 143), .nilc (.t 137), 0, none⟩, ⟨7, (some 144), .faddr 333 (.t 143), 0, none⟩, ⟨2, (some 139), .load none (.t 138), 0, none⟩, ⟨8, (some 145), .iaddr (some 17) 17 (.t 144) (.t 139), 0, none⟩, ⟨4, (some 141), .load none (.t 140), 0, none⟩, ⟨9, (some 146), .iaddr (some 17) 1 (.t 145) (.t 141), 0, none⟩, ⟨10, none, .store 1 (.t 146) (.t 142), 0, none⟩] [2, 5, 114, 115, 116])
 (.skip)))))
 (.reg false [⟨0, (some 147), .bin .add (.t 116) (.c (.int .i64 (1))), 0, none⟩, ⟨1, (some 116), .mv (.t 147), 0, none⟩] [2, 5, 114, 115, 116])))))))
 (.seq
 (.reg false [⟨0, (some 148), .mv (.t 5), 0, none⟩, ⟨1, (some 4), .mv (.t 148), 0, none⟩] [4])
 (.ret)))))))

theorem ok58 : okF Tryz.prog 58 2 c58 [.tmp 4] = true := by kernel_rfl

/-- (*dauber/draw.state).post -/
def c59 : C :=
 .seq
 (.reg false [⟨0, (some 5), .box 1 (.t 0), 0, none⟩, ⟨1, (some 6), .box 1 (.t 1), 0, none⟩, ⟨2, (some 8), .box 1 (.t 3), 0, none⟩, ⟨3, (some 10), .mv (.c (.nils)), 0, none⟩] [2, 4, 5, 6, 8])
 (.seq
 (.reg false [⟨0, (some 11), .alloc [.nils] 1, 0, none⟩] [2, 4, 5, 6, 8, 11])
 (.seq
 (.reg false [⟨0, (some 23), .mkfn (.func 117) [] [.t 11, .t 6], 0, none⟩, ⟨1, (some 12), .alloc [.nilf] 1, 0, none⟩, ⟨2, none, .store 1 (.t 12) (.t 23), 0, none⟩] [2, 4, 5, 6, 8, 11, 12])
 (.seq
 (.reg false [⟨0, (some 24), .mkfn (.func 118) [] [.t 6], 0, none⟩, ⟨1, (some 13), .mv (.t 24), 0, none⟩] [2, 4, 5, 6, 8, 11, 12, 13])
 (.seq
 (.seq
 (.reg false [⟨0, (some 25), .mv (.t 4), 0, none⟩] [2, 5, 6, 8, 11, 12, 13, 25])
 (.blk 0
 (.seq
 (.reg false [⟨0, (some 27), .bin .eql (.t 25) (.c (.int .i64 (0))), 0, none⟩, ⟨1, (some 26), .mv (.t 27), 0, none⟩] [2, 5, 6, 8, 11, 12, 13, 25, 26])
 (.cond (.t 26)
 (.seq
 (.reg false [⟨0, (some 29), .load none (.t 5), 0, none⟩, ⟨1, (some 30), .nilc (.t 29), 0, none⟩, ⟨2, (some 31), .faddr 0 (.t 30), 0, none⟩, ⟨3, (some 32), .faddr 0 (.t 31), 0, none⟩, ⟨4, (some 33), .load (some 3) (.t 32), 0, none⟩, ⟨5, (some 34), .mv (.t 2), 0, none⟩, ⟨6, (some 35), .call 119 [.t 33, .t 34], 2, none⟩, ⟨7, (some 28), .mv (.t 35), 0, none⟩, ⟨8, (some 36), .ext 0 (.t 28), 0, none⟩, ⟨9, (some 37), .ext 1 (.t 28), 0, none⟩, ⟨10, (some 14), .mv (.t 36), 0, none⟩, ⟨11, (some 15), .mv (.t 37), 0, none⟩] [11, 12, 14])
 (.reg false [⟨0, (some 38), .load none (.t 12), 0, none⟩, ⟨1, (some 39), .mv (.t 14), 0, none⟩, ⟨2, (some 40), .callv (.t 38) [.c (.int .i64 (1)), .c (.int .i64 (0)), .t 39], 2, none⟩] [11]))
 (.seq
 (.reg false [⟨0, (some 42), .bin .eql (.t 25) (.c (.int .i64 (1))), 0, none⟩, ⟨1, (some 41), .mv (.t 42), 0, none⟩] [2, 5, 6, 8, 11, 12, 13, 25, 41])
 (.cond (.t 41)
 (.seq
 (.reg false [⟨0, (some 43), .load none (.t 5), 0, none⟩, ⟨1, (some 44), .mv (.t 13), 0, none⟩, ⟨2, (some 45), .call 77 [.t 43, .t 44], 2, none⟩] [5, 6, 8, 11, 12, 45])
 (.blk 1
 (.rf (.t 45) [46]
 (.reg false [⟨0, (some 16), .mv (.t 46), 0, none⟩] [5, 6, 8, 12, 16])
 (.blk 2
 (.seq
 (.reg true [⟨1, (some 48), .mv (.t 16), 0, none⟩, ⟨0, (some 47), .load none (.t 5), 0, none⟩, ⟨2, (some 49), .call 79 [.t 47, .t 48], 2, none⟩, ⟨3, (some 50), .mv (.t 49), 0, none⟩, ⟨5, (some 52), .mv (.t 16), 0, (some (50, true))⟩, ⟨8, (some 55), .mv (.t 16), 0, (some (50, true))⟩, ⟨9, (some 56), .bin .sub (.t 55) (.c (.int .i64 (1))), 0, (some (50, true))⟩, ⟨4, (some 51), .load none (.t 5), 0, (some (50, true))⟩, ⟨6, (some 53), .load none (.t 6), 0, (some (50, true))⟩, ⟨7, (some 54), .load none (.t 8), 0, (some (50, true))⟩, ⟨10, (some 57), .iaddr none 1 (.t 54) (.t 56), 0, (some (50, true))⟩, ⟨11, (some 58), .load none (.t 57), 0, (some (50, true))⟩, ⟨12, (some 59), .call 81 [.t 51, .t 52, .t 53, .t 58], 2, (some (50, true))⟩, ⟨13, (some 60), .un .not (.t 59), 0, (some (50, true))⟩, ⟨14, (some 61), .pick (.t 50) (.t 60) (.c (.bool false)), 0, none⟩] [12, 16, 61])
 (.cond (.t 61)
 (.reg false [⟨0, (some 62), .load none (.t 12), 0, none⟩, ⟨1, (some 63), .mv (.t 16), 0, none⟩, ⟨2, (some 64), .callv (.t 62) [.c (.int .i64 (2)), .t 63, .c (.nils)], 2, none⟩] [])
 (.skip)))))))
 (.seq
 (.reg false [⟨0, (some 66), .bin .eql (.t 25) (.c (.int .i64 (2))), 0, none⟩, ⟨1, (some 65), .mv (.t 66), 0, none⟩] [2, 5, 6, 8, 11, 12, 13, 25, 65])
 (.cond (.t 65)
 (.seq
 (.reg true [⟨5, (some 73), .mv (.t 2), 0, none⟩, ⟨0, (some 68), .load none (.t 5), 0, none⟩, ⟨1, (some 69), .nilc (.t 68), 0, none⟩, ⟨2, (some 70), .faddr 0 (.t 69), 0, none⟩, ⟨3, (some 71), .faddr 0 (.t 70), 0, none⟩, ⟨4, (some 72), .load (some 3) (.t 71), 0, none⟩, ⟨6, (some 74), .load none (.t 5), 0, none⟩, ⟨7, (some 75), .nilc (.t 74), 0, none⟩, ⟨8, (some 76), .faddr 0 (.t 75), 0, none⟩, ⟨9, (some 77), .faddr 3 (.t 76), 0, none⟩, ⟨10, (some 78), .load none (.t 77), 0, none⟩, ⟨11, (some 79), .call 105 [.t 72, .t 73, .t 78], 1, none⟩, ⟨12, (some 67), .mv (.t 79), 0, none⟩, ⟨13, (some 80), .ext 0 (.t 67), 0, none⟩, ⟨14, (some 81), .ext 1 (.t 67), 0, none⟩, ⟨15, (some 17), .alloc [.nils] 1, 0, none⟩, ⟨16, none, .store 1 (.t 17) (.t 80), 0, none⟩, ⟨17, (some 18), .mv (.t 81), 0, none⟩] [5, 6, 11, 12, 13, 17])
 (.seq
 (.reg false [⟨0, (some 82), .load none (.t 5), 0, none⟩, ⟨1, (some 83), .mv (.t 13), 0, none⟩, ⟨2, (some 84), .call 77 [.t 82, .t 83], 2, none⟩] [5, 6, 11, 12, 17, 84])
 (.blk 3
 (.rf (.t 84) [85]
 (.reg false [⟨0, (some 19), .mv (.t 85), 0, none⟩] [5, 6, 12, 17, 19])
 (.blk 4
 (.seq
 (.reg true [⟨1, (some 87), .mv (.t 19), 0, none⟩, ⟨0, (some 86), .load none (.t 5), 0, none⟩, ⟨3, (some 89), .nilc (.t 86), 0, none⟩, ⟨4, (some 90), .faddr 44 (.t 89), 0, none⟩, ⟨5, (some 91), .iaddr (some 17) 17 (.t 90) (.t 87), 0, none⟩, ⟨2, (some 88), .load none (.t 6), 0, none⟩, ⟨6, (some 92), .iaddr (some 17) 1 (.t 91) (.t 88), 0, none⟩, ⟨7, (some 93), .load none (.t 92), 0, none⟩] [12, 17, 19, 93])
 (.cond (.t 93)
 (.reg true [⟨1, (some 95), .mv (.t 19), 0, none⟩, ⟨3, (some 97), .mv (.t 19), 0, none⟩, ⟨4, (some 98), .bin .sub (.t 97) (.c (.int .i64 (1))), 0, none⟩, ⟨0, (some 94), .load none (.t 12), 0, none⟩, ⟨2, (some 96), .load none (.t 17), 0, none⟩, ⟨5, (some 99), .iaddr none 1 (.t 96) (.t 98), 0, none⟩, ⟨6, (some 100), .load none (.t 99), 0, none⟩, ⟨7, (some 101), .bsl 1 1 [.int .i64 (0)] [(0, 1, .t 100)], 0, none⟩, ⟨8, (some 102), .callv (.t 94) [.c (.int .i64 (3)), .t 95, .t 101], 2, none⟩] [])
 (.skip))))))))
 (.seq
 (.reg false [⟨0, (some 104), .bin .eql (.t 25) (.c (.int .i64 (3))), 0, none⟩, ⟨1, (some 103), .mv (.t 104), 0, none⟩] [2, 5, 6, 8, 11, 12, 13, 103])
 (.cond (.t 103)
 (.seq
 (.seq
 (.reg false [⟨0, (some 105), .load none (.t 5), 0, none⟩, ⟨1, (some 106), .load none (.t 6), 0, none⟩, ⟨2, (some 107), .call 74 [.t 105, .t 106], 2, none⟩] [2, 5, 6, 8, 11, 12, 13, 107])
 (.cond (.t 107)
 (.reg false [⟨0, (some 108), .load none (.t 12), 0, none⟩, ⟨1, (some 109), .mv (.t 2), 0, none⟩, ⟨2, (some 110), .callv (.t 108) [.c (.int .i64 (4)), .c (.int .i64 (0)), .t 109], 2, none⟩] [5, 6, 8, 11, 12, 13])
 (.skip)))
 (.seq
 (.reg false [⟨0, (some 111), .load none (.t 5), 0, none⟩, ⟨1, (some 112), .mv (.t 13), 0, none⟩, ⟨2, (some 113), .call 77 [.t 111, .t 112], 2, none⟩] [5, 6, 8, 11, 12, 113])
 (.blk 5
 (.rf (.t 113) [114]
 (.reg false [⟨0, (some 20), .mv (.t 114), 0, none⟩] [5, 6, 8, 12, 20])
 (.blk 6
 (.seq
 (.seq
 (.reg false [⟨0, (some 115), .load none (.t 5), 0, none⟩, ⟨1, (some 116), .mv (.t 20), 0, none⟩, ⟨2, (some 117), .call 74 [.t 115, .t 116], 2, none⟩, ⟨3, (some 118), .un .not (.t 117), 0, none⟩] [5, 6, 8, 12, 20, 118])
 (.cond (.t 118)
 (.exit 6)
 (.skip)))
 (.seq
 (.reg true [⟨1, (some 120), .mv (.t 20), 0, none⟩, ⟨4, (some 123), .mv (.t 20), 0, none⟩, ⟨5, (some 124), .bin .sub (.t 123) (.c (.int .i64 (1))), 0, none⟩, ⟨0, (some 119), .load none (.t 5), 0, none⟩, ⟨2, (some 121), .load none (.t 6), 0, none⟩, ⟨3, (some 122), .load none (.t 8), 0, none⟩, ⟨6, (some 125), .iaddr none 1 (.t 122) (.t 124), 0, none⟩, ⟨7, (some 126), .load none (.t 125), 0, none⟩, ⟨8, (some 127), .call 81 [.t 119, .t 120, .t 121, .t 126], 2, none⟩] [5, 6, 8, 12, 20, 127])
 (.cond (.t 127)
 (.reg true [⟨1, (some 129), .mv (.t 20), 0, none⟩, ⟨3, (some 131), .mv (.t 20), 0, none⟩, ⟨4, (some 132), .bin .sub (.t 131) (.c (.int .i64 (1))), 0, none⟩, ⟨0, (some 128), .load none (.t 12), 0, none⟩, ⟨2, (some 130), .load none (.t 8), 0, none⟩, ⟨5, (some 133), .iaddr none 1 (.t 130) (.t 132), 0, none⟩, ⟨6, (some 134), .load none (.t 133), 0, none⟩, ⟨7, (some 135), .bsl 1 1 [.int .i64 (0)] [(0, 1, .t 134)], 0, none⟩, ⟨8, (some 136), .callv (.t 128) [.c (.int .i64 (5)), .t 129, .t 135], 2, none⟩] [])
 (.seq
 (.reg false [⟨0, (some 138), .load none (.t 5), 0, none⟩, ⟨1, (some 139), .mv (.t 20), 0, none⟩, ⟨2, (some 140), .load none (.t 6), 0, none⟩, ⟨3, (some 141), .call 120 [.t 138, .t 139, .t 140], 2, none⟩, ⟨4, (some 137), .mv (.t 141), 0, none⟩, ⟨5, (some 142), .ext 0 (.t 137), 0, none⟩, ⟨6, (some 143), .ext 1 (.t 137), 0, none⟩, ⟨7, (some 21), .mv (.t 142), 0, none⟩, ⟨8, (some 22), .mv (.t 143), 0, none⟩] [12, 20, 21, 22])
 (.seq
 (.reg false [⟨0, (some 144), .mv (.t 22), 0, none⟩] [12, 20, 21, 144])
 (.cond (.t 144)
 (.reg false [⟨0, (some 145), .load none (.t 12), 0, none⟩, ⟨1, (some 146), .mv (.t 20), 0, none⟩, ⟨2, (some 147), .mv (.t 21), 0, none⟩, ⟨3, (some 148), .bsl 1 1 [.int .i64 (0)] [(0, 1, .t 147)], 0, none⟩, ⟨4, (some 149), .callv (.t 145) [.c (.int .i64 (5)), .t 146, .t 148], 2, none⟩] [])
 (.skip))))))))))))
 (.skip)))))))))))
 (.seq
 (.reg false [⟨0, (some 150), .load none (.t 11), 0, none⟩, ⟨1, (some 10), .mv (.t 150), 0, none⟩] [10])
 (.ret))))))

theorem ok59 : okF Tryz.prog 59 5 c59 [.tmp 10] = true := by kernel_rfl

/-- (*dauber/draw.state).sum -/
def c62 : C :=
 .seq
 (.reg false [⟨0, (some 1), .box 1 (.t 0), 0, none⟩, ⟨1, (some 2), .alloc [.int .i64 (0)] 1, 0, none⟩, ⟨2, (some 3), .alloc [.bool false] 1, 0, none⟩] [1, 2, 3])
 (.seq
 (.reg false [⟨0, (some 4), .alloc [.int .i64 (0)] 1, 0, none⟩, ⟨1, (some 5), .alloc [.bool false] 1, 0, none⟩, ⟨2, none, .store 1 (.t 4) (.c (.int .i64 (0))), 0, none⟩, ⟨3, none, .store 1 (.t 5) (.c (.bool false)), 0, none⟩] [1, 2, 3, 4, 5])
 (.seq
 (.seq
 (.reg false [⟨0, (some 9), .load none (.t 1), 0, none⟩, ⟨1, (some 10), .load none (.t 1), 0, none⟩, ⟨2, (some 11), .mkfn (.func 74) [.t 10] [], 0, none⟩, ⟨3, (some 12), .call 77 [.t 9, .t 11], 2, none⟩] [1, 2, 3, 4, 5, 12])
 (.blk 0
 (.rf (.t 12) [13]
 (.reg false [⟨0, (some 6), .mv (.t 13), 0, none⟩] [1, 2, 3, 4, 5, 6])
 (.blk 1
 (.seq
 (.reg false [⟨0, (some 15), .load none (.t 1), 0, none⟩, ⟨1, (some 16), .mv (.t 6), 0, none⟩, ⟨2, (some 17), .call 89 [.t 15, .t 16], 2, none⟩, ⟨3, (some 14), .mv (.t 17), 0, none⟩, ⟨4, (some 18), .ext 0 (.t 14), 0, none⟩, ⟨5, (some 19), .ext 1 (.t 14), 0, none⟩, ⟨6, (some 7), .mv (.t 18), 0, none⟩, ⟨7, (some 8), .mv (.t 19), 0, none⟩] [1, 2, 3, 4, 5, 7, 8])
 (.seq
 (.seq
 (.reg false [⟨0, (some 20), .mv (.t 8), 0, none⟩, ⟨1, (some 21), .un .not (.t 20), 0, none⟩] [1, 2, 3, 4, 5, 7, 21])
 (.cond (.t 21)
 (.seq
 (.reg false [⟨0, none, .store 1 (.t 2) (.c (.int .i64 (0))), 0, none⟩, ⟨1, none, .store 1 (.t 3) (.c (.bool false)), 0, none⟩] [])
 (.ret))
 (.skip)))
 (.reg true [⟨1, (some 23), .mv (.t 7), 0, none⟩, ⟨0, (some 22), .load none (.t 4), 0, none⟩, ⟨2, (some 24), .bin .add (.t 22) (.t 23), 0, none⟩, ⟨3, (some 25), .load none (.t 1), 0, none⟩, ⟨4, (some 26), .nilc (.t 25), 0, none⟩, ⟨5, (some 27), .faddr 0 (.t 26), 0, none⟩, ⟨6, (some 28), .faddr 0 (.t 27), 0, none⟩, ⟨7, (some 29), .faddr 1 (.t 28), 0, none⟩, ⟨8, (some 30), .load none (.t 29), 0, none⟩, ⟨9, (some 31), .bin .rem (.t 24) (.t 30), 0, none⟩, ⟨10, none, .store 1 (.t 4) (.t 31), 0, none⟩, ⟨11, none, .store 1 (.t 5) (.c (.bool true)), 0, none⟩] [])))))))
 (.seq
 (.reg true [⟨0, (some 32), .load none (.t 4), 0, none⟩, ⟨1, (some 33), .loadx none (.t 5) [2], 0, none⟩, ⟨2, none, .store 1 (.t 2) (.t 32), 0, none⟩, ⟨3, none, .store 1 (.t 3) (.t 33), 0, none⟩] [2, 3])
 (.ret))))

theorem ok62 : okF Tryz.prog 62 1 c62 [.cell none 2, .cell none 3] = true := by kernel_rfl

/-- dauber/dauberref08.prime -/
def c63 : C :=
 .seq
 (.reg false [⟨0, (some 2), .mv (.c (.bool false)), 0, none⟩] [0])
 (.seq
 (.seq
 (.reg false [⟨0, (some 3), .mv (.c (.int .i64 (2))), 0, none⟩] [0, 3])
 (.blk 0
 (.loop [0, 3]
 (.seq
 (.seq
 (.reg false [⟨0, (some 4), .mv (.t 3), 0, none⟩, ⟨1, (some 5), .mv (.t 3), 0, none⟩, ⟨2, (some 6), .bin .mul (.t 4) (.t 5), 0, none⟩, ⟨3, (some 7), .mv (.t 0), 0, none⟩, ⟨4, (some 8), .bin .leq (.t 6) (.t 7), 0, none⟩] [0, 3, 8])
 (.cond (.t 8)
 (.skip)
 (.exit 0)))
 (.seq
 (.blk 1
 (.seq
 (.reg false [⟨0, (some 11), .mv (.t 0), 0, none⟩, ⟨1, (some 12), .mv (.t 3), 0, none⟩, ⟨2, (some 13), .bin .rem (.t 11) (.t 12), 0, none⟩, ⟨3, (some 14), .bin .eql (.t 13) (.c (.int .i64 (0))), 0, none⟩] [0, 3, 14])
 (.cond (.t 14)
 (.seq
 (.reg false [⟨0, (some 2), .mv (.c (.bool false)), 0, none⟩] [2])
 (.ret))
 (.skip))))
 (.reg false [⟨0, (some 9), .mv (.t 3), 0, none⟩, ⟨1, (some 10), .bin .add (.t 9) (.c (.int .i64 (1))), 0, none⟩, ⟨2, (some 3), .mv (.t 10), 0, none⟩] [0, 3]))))))
 (.seq
 (.reg false [⟨0, (some 15), .mv (.t 0), 0, none⟩, ⟨1, (some 16), .bin .gtr (.t 15) (.c (.int .i64 (1))), 0, none⟩, ⟨2, (some 2), .mv (.t 16), 0, none⟩] [2])
 (.ret)))

theorem ok63 : okF Tryz.prog 63 1 c63 [.tmp 2] = true := by kernel_rfl

/-- dauber/dauberref08.power -/
def c64 : C :=
 .seq
 (.reg false [⟨0, (some 6), .mv (.c (.int .i64 (0))), 0, none⟩] [0, 1, 2])
 (.seq
 (.reg false [⟨0, (some 8), .mv (.t 2), 0, none⟩, ⟨1, (some 9), .bin .rem (.c (.int .i64 (1))) (.t 8), 0, none⟩, ⟨2, (some 7), .mv (.t 9), 0, none⟩] [0, 1, 2, 7])
 (.seq
 (.reg false [⟨0, (some 10), .mv (.t 0), 0, none⟩, ⟨1, (some 11), .mv (.t 2), 0, none⟩, ⟨2, (some 12), .bin .rem (.t 10) (.t 11), 0, none⟩, ⟨3, (some 0), .mv (.t 12), 0, none⟩] [0, 1, 2, 7])
 (.seq
 (.blk 0
 (.loop [0, 1, 2, 7]
 (.seq
 (.seq
 (.reg false [⟨0, (some 13), .mv (.t 1), 0, none⟩, ⟨1, (some 14), .bin .gtr (.t 13) (.c (.int .i64 (0))), 0, none⟩] [0, 1, 2, 7, 14])
 (.cond (.t 14)
 (.skip)
 (.exit 0)))
 (.seq
 (.blk 1
 (.seq
 (.seq
 (.reg false [⟨0, (some 17), .mv (.t 1), 0, none⟩, ⟨1, (some 18), .bin .rem (.t 17) (.c (.int .i64 (2))), 0, none⟩, ⟨2, (some 19), .bin .eql (.t 18) (.c (.int .i64 (1))), 0, none⟩] [0, 1, 2, 7, 19])
 (.cond (.t 19)
 (.reg false [⟨0, (some 20), .mv (.t 7), 0, none⟩, ⟨1, (some 21), .mv (.t 0), 0, none⟩, ⟨2, (some 22), .bin .mul (.t 20) (.t 21), 0, none⟩, ⟨3, (some 23), .mv (.t 2), 0, none⟩, ⟨4, (some 24), .bin .rem (.t 22) (.t 23), 0, none⟩, ⟨5, (some 7), .mv (.t 24), 0, none⟩] [0, 1, 2, 7])
 (.skip)))
 (.reg false [⟨0, (some 25), .mv (.t 0), 0, none⟩, ⟨1, (some 26), .mv (.t 0), 0, none⟩, ⟨2, (some 27), .bin .mul (.t 25) (.t 26), 0, none⟩, ⟨3, (some 28), .mv (.t 2), 0, none⟩, ⟨4, (some 29), .bin .rem (.t 27) (.t 28), 0, none⟩, ⟨5, (some 0), .mv (.t 29), 0, none⟩] [0, 1, 2, 7])))
 (.reg false [⟨0, (some 15), .mv (.t 1), 0, none⟩, ⟨1, (some 16), .bin .quo (.t 15) (.c (.int .i64 (2))), 0, none⟩, ⟨2, (some 1), .mv (.t 16), 0, none⟩] [0, 1, 2, 7])))))
 (.seq
 (.reg false [⟨0, (some 30), .mv (.t 7), 0, none⟩, ⟨1, (some 6), .mv (.t 30), 0, none⟩] [6])
 (.ret)))))

theorem ok64 : okF Tryz.prog 64 3 c64 [.tmp 6] = true := by kernel_rfl

/-- (dauber/draw.Config).isHall -/
def c65 : C :=
 .seq
 (.reg false [⟨0, (some 2), .box 6 (.t 0), 0, none⟩, ⟨1, (some 4), .mv (.c (.bool false)), 0, none⟩] [1, 2])
 (.seq
 (.reg false [⟨0, (some 5), .mv (.t 1), 0, none⟩, ⟨1, (some 6), .bin .geq (.t 5) (.c (.int .i64 (1))), 0, none⟩, ⟨2, (some 7), .mv (.t 6), 0, none⟩, ⟨3, (some 8), .mv (.t 1), 0, (some (7, true))⟩, ⟨4, (some 9), .faddr 3 (.t 2), 0, (some (7, true))⟩, ⟨5, (some 10), .load none (.t 9), 0, (some (7, true))⟩, ⟨6, (some 11), .bin .leq (.t 8) (.t 10), 0, (some (7, true))⟩, ⟨7, (some 12), .pick (.t 7) (.t 11) (.c (.bool false)), 0, none⟩, ⟨8, (some 4), .mv (.t 12), 0, none⟩] [4])
 (.ret))

theorem ok65 : okF Tryz.prog 65 2 c65 [.tmp 4] = true := by kernel_rfl

/-- dauber/draw.listed -/
def c73 : C :=
 .seq
 (.reg false [⟨0, (some 3), .box 6 (.t 0), 0, none⟩, ⟨1, (some 4), .box 4 (.t 1), 0, none⟩, ⟨2, (some 5), .box 1 (.t 2), 0, none⟩, ⟨3, (some 6), .mv (.c (.nils)), 0, none⟩, ⟨4, (some 7), .mv (.c (.int .i64 (0))), 0, none⟩] [3, 4, 5])
 (.seq
 (.seq
 (.reg false [⟨0, (some 10), .load (some 6) (.t 3), 0, none⟩, ⟨1, (some 11), .load (some 4) (.t 4), 0, none⟩, ⟨2, (some 12), .call 51 [.t 10, .t 11, .c (.int .i64 (400))], 2, none⟩, ⟨3, (some 8), .mv (.t 12), 0, none⟩] [3, 4, 5, 8])
 (.seq
 (.reg false [⟨0, (some 13), .mv (.t 8), 0, none⟩, ⟨1, (some 14), .bin .neq (.t 13) (.c (.int .i64 (0))), 0, none⟩] [3, 4, 5, 8, 14])
 (.cond (.t 14)
 (.seq
 (.reg false [⟨0, (some 15), .mv (.t 8), 0, none⟩, ⟨1, (some 6), .mv (.c (.nils)), 0, none⟩, ⟨2, (some 7), .mv (.t 15), 0, none⟩] [6, 7])
 (.ret))
 (.skip))))
 (.seq
 (.reg false [⟨0, (some 16), .load (some 6) (.t 3), 0, none⟩, ⟨1, (some 17), .load (some 4) (.t 4), 0, none⟩, ⟨2, (some 18), .call 58 [.t 16, .t 17], 2, none⟩, ⟨3, (some 9), .alloc [.nilp] 1, 0, none⟩, ⟨4, none, .store 1 (.t 9) (.t 18), 0, none⟩] [5, 9])
 (.seq
 (.reg false [⟨0, (some 19), .load none (.t 9), 0, none⟩, ⟨1, (some 20), .mkfn (.func 125) [] [.t 5, .t 9], 0, none⟩, ⟨2, (some 21), .call 77 [.t 19, .t 20], 2, none⟩, ⟨3, (some 22), .call 124 [.t 21], 2, none⟩, ⟨4, (some 6), .mv (.t 22), 0, none⟩, ⟨5, (some 7), .mv (.c (.int .i64 (0))), 0, none⟩] [6, 7])
 (.ret))))

theorem ok73 : okF Tryz.prog 73 3 c73 [.tmp 6, .tmp 7] = true := by kernel_rfl

/-- (*dauber/draw.state).isIn -/
def c74 : C :=
 .seq
 (.reg false [⟨0, (some 4), .mv (.c (.bool false)), 0, none⟩] [0, 1])
 (.seq
 (.seq
 (.reg false [⟨0, (some 8), .mv (.t 0), 0, none⟩, ⟨1, (some 9), .mv (.t 1), 0, none⟩, ⟨2, (some 10), .nilc (.t 8), 0, none⟩, ⟨3, (some 11), .faddr 27 (.t 10), 0, none⟩, ⟨4, (some 12), .iaddr (some 17) 1 (.t 11) (.t 9), 0, none⟩, ⟨5, (some 13), .load none (.t 12), 0, none⟩, ⟨6, (some 14), .eqa false (.t 13) (.c (.nils)), 0, none⟩] [0, 1, 14])
 (.cond (.t 14)
 (.seq
 (.reg false [⟨0, (some 4), .mv (.c (.bool false)), 0, none⟩] [4])
 (.ret))
 (.skip)))
 (.seq
 (.seq
 (.reg false [⟨0, (some 5), .mv (.c (.int .i64 (1))), 0, none⟩] [0, 1, 5])
 (.blk 0
 (.loop [0, 1, 5]
 (.seq
 (.seq
 (.reg false [⟨0, (some 15), .mv (.t 5), 0, none⟩, ⟨1, (some 16), .mv (.t 0), 0, none⟩, ⟨2, (some 17), .nilc (.t 16), 0, none⟩, ⟨3, (some 18), .faddr 0 (.t 17), 0, none⟩, ⟨4, (some 19), .faddr 3 (.t 18), 0, none⟩, ⟨5, (some 20), .load none (.t 19), 0, none⟩, ⟨6, (some 21), .bin .leq (.t 15) (.t 20), 0, none⟩] [0, 1, 5, 21])
 (.cond (.t 21)
 (.skip)
 (.exit 0)))
 (.seq
 (.blk 1
 (.seq
 (.reg false [⟨0, (some 25), .mv (.t 0), 0, none⟩, ⟨1, (some 26), .mv (.t 1), 0, none⟩, ⟨2, (some 27), .mv (.t 5), 0, none⟩, ⟨3, (some 28), .call 120 [.t 25, .t 26, .t 27], 2, none⟩, ⟨4, (some 24), .mv (.t 28), 0, none⟩, ⟨5, (some 29), .ext 0 (.t 24), 0, none⟩, ⟨6, (some 30), .ext 1 (.t 24), 0, none⟩, ⟨7, (some 6), .mv (.t 29), 0, none⟩, ⟨8, (some 7), .mv (.t 30), 0, none⟩] [0, 1, 5, 7])
 (.seq
 (.reg false [⟨0, (some 31), .mv (.t 0), 0, none⟩, ⟨1, (some 32), .mv (.t 5), 0, none⟩, ⟨2, (some 33), .mv (.t 1), 0, none⟩, ⟨3, (some 34), .nilc (.t 31), 0, none⟩, ⟨4, (some 35), .faddr 44 (.t 34), 0, none⟩, ⟨5, (some 36), .iaddr (some 17) 17 (.t 35) (.t 32), 0, none⟩, ⟨6, (some 37), .iaddr (some 17) 1 (.t 36) (.t 33), 0, none⟩, ⟨7, (some 38), .load none (.t 37), 0, none⟩, ⟨8, (some 39), .mv (.t 38), 0, none⟩, ⟨9, (some 40), .mv (.t 7), 0, (some (39, true))⟩, ⟨10, (some 41), .un .not (.t 40), 0, (some (39, true))⟩, ⟨11, (some 42), .pick (.t 39) (.t 41) (.c (.bool false)), 0, none⟩] [0, 1, 5, 42])
 (.cond (.t 42)
 (.seq
 (.reg false [⟨0, (some 4), .mv (.c (.bool false)), 0, none⟩] [4])
 (.ret))
 (.skip)))))
 (.reg false [⟨0, (some 22), .mv (.t 5), 0, none⟩, ⟨1, (some 23), .bin .add (.t 22) (.c (.int .i64 (1))), 0, none⟩, ⟨2, (some 5), .mv (.t 23), 0, none⟩] [0, 1, 5]))))))
 (.seq
 (.reg false [⟨0, (some 4), .mv (.c (.bool true)), 0, none⟩] [4])
 (.ret))))

theorem ok74 : okF Tryz.prog 74 2 c74 [.tmp 4] = true := by kernel_rfl

/-- dauber/draw.Guilty$1 -/
def c75 : C :=
 .reg false [⟨0, (some 7), .load none (.t 3), 0, none⟩, ⟨1, (some 8), .mv (.t 0), 0, none⟩, ⟨2, (some 9), .mv (.t 1), 0, none⟩, ⟨3, (some 10), .mv (.t 2), 0, none⟩, ⟨4, (some 11), .build [.int .i64 (0), .int .i64 (0), .int .i64 (0)] [(0, 1, .t 8), (1, 1, .t 9), (2, 1, .t 10)], 0, none⟩, ⟨5, (some 12), .bsl 3 1 [.int .i64 (0), .int .i64 (0), .int .i64 (0)] [(0, 3, .t 11)], 0, none⟩, ⟨6, (some 13), .app 3 24 (.t 7) (.t 12), 0, none⟩, ⟨7, none, .store 1 (.t 3) (.t 13), 0, none⟩] []

theorem ok75 : okF Tryz.prog 75 4 c75 [] = true := by kernel_rfl

/-- dauber/draw.Guilty$2 -/
def c76 : C :=
 .seq
 (.reg false [⟨0, (some 2), .mv (.c (.bool false)), 0, none⟩] [])
 (.seq
 (.reg false [⟨0, (some 2), .mv (.c (.bool true)), 0, none⟩] [2])
 (.ret))

theorem ok76 : okF Tryz.prog 76 1 c76 [.tmp 2] = true := by kernel_rfl

/-- (*dauber/draw.state).halls -/
def c77 : C :=
 .seq
 (.reg false [⟨0, (some 2), .box 1 (.t 0), 0, none⟩, ⟨1, (some 3), .box 1 (.t 1), 0, none⟩, ⟨2, (some 4), .mv (.c (.nilf)), 0, none⟩] [2, 3])
 (.seq
 (.reg false [⟨0, (some 5), .mkfn (.func 126) [] [.t 2, .t 3], 0, none⟩, ⟨1, (some 4), .mv (.t 5), 0, none⟩] [4])
 (.ret))

theorem ok77 : okF Tryz.prog 77 2 c77 [.tmp 4] = true := by kernel_rfl

/-- (*dauber/draw.state).twice -/
def c78 : C :=
 .seq
 (.reg false [⟨0, (some 4), .mv (.c (.int .i64 (0))), 0, none⟩] [0, 1])
 (.seq
 (.seq
 (.reg false [⟨0, (some 7), .mv (.t 0), 0, none⟩, ⟨1, (some 8), .nilc (.t 7), 0, none⟩, ⟨2, (some 9), .faddr 6 (.t 8), 0, none⟩, ⟨3, (some 10), .faddr 0 (.t 9), 0, none⟩, ⟨4, (some 11), .load none (.t 10), 0, none⟩, ⟨5, (some 12), .len none (.t 11), 0, none⟩, ⟨6, (some 13), .mv (.c (.int .i64 (0))), 0, none⟩] [0, 1, 11, 12, 13])
 (.blk 0
 (.loop [0, 1, 11, 12, 13]
 (.seq
 (.reg false [⟨0, (some 14), .bin .lss (.t 13) (.t 12), 0, none⟩] [0, 1, 11, 12, 13, 14])
 (.seq
 (.cond (.t 14)
 (.skip)
 (.exit 0))
 (.seq
 (.blk 1
 (.seq
 (.reg false [⟨0, (some 15), .mv (.t 13), 0, none⟩, ⟨1, (some 16), .iaddr none 4 (.t 11) (.t 13), 0, none⟩, ⟨2, (some 17), .load (some 4) (.t 16), 0, none⟩, ⟨3, (some 6), .alloc [.int .i64 (0), .int .i64 (0), .int .i64 (0), .nils] 4, 0, none⟩, ⟨4, (some 5), .mv (.t 15), 0, none⟩, ⟨5, none, .store 4 (.t 6) (.t 17), 0, none⟩] [0, 1, 5, 6, 11, 12, 13])
 (.seq
 (.reg true [⟨0, (some 18), .faddr 0 (.t 6), 0, none⟩, ⟨2, (some 20), .mv (.t 1), 0, none⟩, ⟨1, (some 19), .load none (.t 18), 0, none⟩, ⟨3, (some 21), .bin .eql (.t 19) (.t 20), 0, none⟩, ⟨4, (some 22), .mv (.t 21), 0, none⟩, ⟨5, (some 23), .mv (.t 0), 0, (some (22, true))⟩, ⟨6, (some 24), .nilc (.t 23), 0, (some (22, true))⟩, ⟨7, (some 25), .faddr 0 (.t 24), 0, (some (22, true))⟩, ⟨10, (some 28), .mv (.t 0), 0, (some (22, true))⟩, ⟨11, (some 29), .nilc (.t 28), 0, (some (22, true))⟩, ⟨12, (some 30), .faddr 0 (.t 29), 0, (some (22, true))⟩, ⟨13, (some 31), .faddr 4 (.t 30), 0, (some (22, true))⟩, ⟨8, (some 26), .load (some 6) (.t 25), 0, (some (22, true))⟩, ⟨9, (some 27), .load (some 4) (.t 6), 0, (some (22, true))⟩, ⟨14, (some 32), .load none (.t 31), 0, (some (22, true))⟩, ⟨15, (some 33), .bin .add (.t 32) (.c (.int .i64 (1))), 0, (some (22, true))⟩, ⟨16, (some 34), .call 114 [.t 26, .t 27, .c (.int .i64 (1)), .t 33, .c (.bool false)], 2, (some (22, true))⟩, ⟨17, (some 35), .pick (.t 22) (.t 34) (.c (.bool false)), 0, none⟩, ⟨18, (some 36), .mv (.t 35), 0, none⟩, ⟨19, (some 37), .faddr 3 (.t 6), 0, (some (36, true))⟩, ⟨21, (some 39), .mv (.t 0), 0, (some (36, true))⟩, ⟨22, (some 40), .nilc (.t 39), 0, (some (36, true))⟩, ⟨23, (some 41), .faddr 6 (.t 40), 0, (some (36, true))⟩, ⟨24, (some 42), .faddr 0 (.t 41), 0, (some (36, true))⟩, ⟨26, (some 44), .mv (.t 0), 0, (some (36, true))⟩, ⟨27, (some 45), .mv (.t 1), 0, (some (36, true))⟩, ⟨28, (some 46), .nilc (.t 44), 0, (some (36, true))⟩, ⟨29, (some 47), .faddr 10 (.t 46), 0, (some (36, true))⟩, ⟨30, (some 48), .iaddr (some 17) 1 (.t 47) (.t 45), 0, (some (36, true))⟩, ⟨20, (some 38), .load none (.t 37), 0, (some (36, true))⟩, ⟨25, (some 43), .load none (.t 42), 0, (some (36, true))⟩, ⟨31, (some 49), .load none (.t 48), 0, (some (36, true))⟩, ⟨32, (some 50), .iaddr none 4 (.t 43) (.t 49), 0, (some (36, true))⟩, ⟨33, (some 51), .faddr 3 (.t 50), 0, (some (36, true))⟩, ⟨34, (some 52), .load none (.t 51), 0, (some (36, true))⟩, ⟨35, (some 53), .call 127 [.t 38, .t 52], 2, (some (36, true))⟩, ⟨36, (some 54), .un .not (.t 53), 0, (some (36, true))⟩, ⟨37, (some 55), .pick (.t 36) (.t 54) (.c (.bool false)), 0, none⟩] [0, 1, 5, 11, 12, 13, 55])
 (.cond (.t 55)
 (.seq
 (.reg false [⟨0, (some 56), .mv (.t 5), 0, none⟩, ⟨1, (some 4), .mv (.t 56), 0, none⟩] [4])
 (.ret))
 (.skip)))))
 (.reg false [⟨0, (some 57), .bin .add (.t 13) (.c (.int .i64 (1))), 0, none⟩, ⟨1, (some 13), .mv (.t 57), 0, none⟩] [0, 1, 11, 12, 13])))))))
 (.seq
 (.reg false [⟨0, (some 4), .mv (.c (.int .i64 (-1))), 0, none⟩] [4])
 (.ret)))

theorem ok78 : okF Tryz.prog 78 2 c78 [.tmp 4] = true := by kernel_rfl

/-- (*dauber/draw.state).dealt -/
def c79 : C :=
 .seq
 (.reg false [⟨0, (some 4), .mv (.c (.bool false)), 0, none⟩] [0, 1])
 (.seq
 (.reg false [⟨0, (some 5), .mv (.t 0), 0, none⟩, ⟨1, (some 6), .mv (.t 1), 0, none⟩, ⟨2, (some 7), .nilc (.t 5), 0, none⟩, ⟨3, (some 8), .faddr 27 (.t 7), 0, none⟩, ⟨4, (some 9), .iaddr (some 17) 1 (.t 8) (.t 6), 0, none⟩, ⟨5, (some 10), .load none (.t 9), 0, none⟩, ⟨6, (some 11), .eqa true (.t 10) (.c (.nils)), 0, none⟩, ⟨7, (some 4), .mv (.t 11), 0, none⟩] [4])
 (.ret))

theorem ok79 : okF Tryz.prog 79 2 c79 [.tmp 4] = true := by kernel_rfl

/-- dauber/draw.Guilty$3 -/
def c80 : C :=
 .seq
 (.reg false [⟨0, (some 4), .mv (.c (.bool false)), 0, none⟩] [0, 1, 2])
 (.seq
 (.reg true [⟨1, (some 6), .mv (.t 0), 0, none⟩, ⟨0, (some 5), .load none (.t 1), 0, none⟩, ⟨3, (some 8), .nilc (.t 5), 0, none⟩, ⟨4, (some 9), .faddr 44 (.t 8), 0, none⟩, ⟨5, (some 10), .iaddr (some 17) 17 (.t 9) (.t 6), 0, none⟩, ⟨2, (some 7), .load none (.t 2), 0, none⟩, ⟨6, (some 11), .iaddr (some 17) 1 (.t 10) (.t 7), 0, none⟩, ⟨7, (some 12), .load none (.t 11), 0, none⟩, ⟨8, (some 4), .mv (.t 12), 0, none⟩] [4])
 (.ret))

theorem ok80 : okF Tryz.prog 80 3 c80 [.tmp 4] = true := by kernel_rfl

/-- (*dauber/draw.state).fits -/
def c81 : C :=
 .seq
 (.reg false [⟨0, (some 8), .mv (.c (.bool false)), 0, none⟩] [0, 1, 2, 3])
 (.seq
 (.reg true [⟨0, (some 9), .mv (.t 0), 0, none⟩, ⟨1, (some 10), .mv (.t 1), 0, none⟩, ⟨2, (some 11), .nilc (.t 9), 0, none⟩, ⟨3, (some 12), .faddr 27 (.t 11), 0, none⟩, ⟨4, (some 13), .iaddr (some 17) 1 (.t 12) (.t 10), 0, none⟩, ⟨5, (some 14), .load none (.t 13), 0, none⟩, ⟨6, (some 15), .eqn 1 true (.t 14) (.c (.nils)), 0, none⟩, ⟨7, (some 16), .mv (.t 15), 0, none⟩, ⟨8, (some 17), .mv (.t 0), 0, (some (16, true))⟩, ⟨9, (some 18), .nilc (.t 17), 0, (some (16, true))⟩, ⟨10, (some 19), .faddr 0 (.t 18), 0, (some (16, true))⟩, ⟨11, (some 20), .faddr 0 (.t 19), 0, (some (16, true))⟩, ⟨13, (some 22), .mv (.t 0), 0, (some (16, true))⟩, ⟨14, (some 23), .mv (.t 1), 0, (some (16, true))⟩, ⟨15, (some 24), .nilc (.t 22), 0, (some (16, true))⟩, ⟨16, (some 25), .faddr 27 (.t 24), 0, (some (16, true))⟩, ⟨17, (some 26), .iaddr (some 17) 1 (.t 25) (.t 23), 0, (some (16, true))⟩, ⟨19, (some 28), .mv (.t 2), 0, (some (16, true))⟩, ⟨20, (some 29), .mv (.t 3), 0, (some (16, true))⟩, ⟨12, (some 21), .load (some 3) (.t 20), 0, (some (16, true))⟩, ⟨18, (some 27), .load none (.t 26), 0, (some (16, true))⟩, ⟨21, (some 30), .call 128 [.t 21, .t 27, .t 28, .t 29], 2, (some (16, true))⟩, ⟨22, (some 31), .pick (.t 16) (.t 30) (.c (.bool false)), 0, none⟩, ⟨23, (some 8), .mv (.t 31), 0, none⟩] [8])
 (.ret))

theorem ok81 : okF Tryz.prog 81 4 c81 [.tmp 8] = true := by kernel_rfl

/-- dauber/draw.judges -/
def c82 : C :=
 .seq
 (.reg false [⟨0, (some 0), .mv (.c (.nilm)), 0, none⟩] [])
 (.seq
 (.reg false [⟨0, (some 1), .mkm, 0, none⟩, ⟨1, none, .mput 0 (.t 1) (.c (.int .i64 (4))) (.c (.clo (.func 129) [] [])), 0, none⟩, ⟨2, none, .mput 0 (.t 1) (.c (.int .i64 (5))) (.c (.clo (.func 130) [] [])), 0, none⟩, ⟨3, (some 2), .mv (.t 1), 0, none⟩, ⟨4, (some 0), .mv (.t 2), 0, none⟩] [0])
 (.ret))

theorem ok82 : okF Tryz.prog 82 0 c82 [.tmp 0] = true := by kernel_rfl

/-- dauber/share.Check -/
def c88 : C :=
 .seq
 (.reg false [⟨0, (some 1), .box 3 (.t 0), 0, none⟩, ⟨1, (some 2), .mv (.c (.int .i64 (0))), 0, none⟩] [1])
 (.seq
 (.seq
 (.reg false [⟨0, (some 3), .faddr 0 (.t 1), 0, none⟩, ⟨1, (some 4), .load none (.t 3), 0, none⟩, ⟨2, (some 5), .bsl 1 1 [.int .i64 (0)] [(0, 1, .t 4)], 0, none⟩, ⟨3, (some 6), .call 134 [.c (.int .i64 (3)), .c (.int .i64 (2147483647)), .t 5], 2, none⟩, ⟨4, (some 7), .un .not (.t 6), 0, none⟩, ⟨5, (some 8), .mv (.t 7), 0, none⟩, ⟨6, (some 9), .faddr 1 (.t 1), 0, (some (8, false))⟩, ⟨7, (some 10), .load none (.t 9), 0, (some (8, false))⟩, ⟨8, (some 11), .bsl 1 1 [.int .i64 (0)] [(0, 1, .t 10)], 0, (some (8, false))⟩, ⟨9, (some 12), .call 134 [.c (.int .i64 (3)), .c (.int .i64 (65521)), .t 11], 2, (some (8, false))⟩, ⟨10, (some 13), .un .not (.t 12), 0, (some (8, false))⟩, ⟨11, (some 14), .pick (.t 8) (.c (.bool true)) (.t 13), 0, none⟩, ⟨12, (some 15), .mv (.t 14), 0, none⟩, ⟨13, (some 16), .faddr 0 (.t 1), 0, (some (15, false))⟩, ⟨14, (some 17), .load none (.t 16), 0, (some (15, false))⟩, ⟨15, (some 18), .bin .sub (.t 17) (.c (.int .i64 (1))), 0, (some (15, false))⟩, ⟨16, (some 19), .faddr 1 (.t 1), 0, (some (15, false))⟩, ⟨17, (some 20), .load none (.t 19), 0, (some (15, false))⟩, ⟨18, (some 21), .bin .rem (.t 18) (.t 20), 0, (some (15, false))⟩, ⟨19, (some 22), .bin .neq (.t 21) (.c (.int .i64 (0))), 0, (some (15, false))⟩, ⟨20, (some 23), .pick (.t 15) (.c (.bool true)) (.t 22), 0, none⟩, ⟨21, (some 24), .mv (.t 23), 0, none⟩, ⟨22, (some 25), .faddr 0 (.t 1), 0, (some (24, false))⟩, ⟨23, (some 26), .load none (.t 25), 0, (some (24, false))⟩, ⟨24, (some 27), .bin .sub (.t 26) (.c (.int .i64 (1))), 0, (some (24, false))⟩, ⟨25, (some 28), .faddr 2 (.t 1), 0, (some (24, false))⟩, ⟨26, (some 29), .load none (.t 28), 0, (some (24, false))⟩, ⟨27, (some 30), .bsl 1 1 [.int .i64 (0)] [(0, 1, .t 29)], 0, (some (24, false))⟩, ⟨28, (some 31), .call 134 [.c (.int .i64 (2)), .t 27, .t 30], 2, (some (24, false))⟩, ⟨29, (some 32), .un .not (.t 31), 0, (some (24, false))⟩, ⟨30, (some 33), .pick (.t 24) (.c (.bool true)) (.t 32), 0, none⟩, ⟨31, (some 34), .mv (.t 33), 0, none⟩, ⟨32, (some 35), .faddr 0 (.t 1), 0, (some (34, false))⟩, ⟨33, (some 36), .load none (.t 35), 0, (some (34, false))⟩, ⟨34, (some 37), .call 135 [.t 36], 2, (some (34, false))⟩, ⟨35, (some 38), .un .not (.t 37), 0, (some (34, false))⟩, ⟨36, (some 39), .pick (.t 34) (.c (.bool true)) (.t 38), 0, none⟩, ⟨37, (some 40), .mv (.t 39), 0, none⟩, ⟨38, (some 41), .faddr 1 (.t 1), 0, (some (40, false))⟩, ⟨39, (some 42), .load none (.t 41), 0, (some (40, false))⟩, ⟨40, (some 43), .call 135 [.t 42], 2, (some (40, false))⟩, ⟨41, (some 44), .un .not (.t 43), 0, (some (40, false))⟩, ⟨42, (some 45), .pick (.t 40) (.c (.bool true)) (.t 44), 0, none⟩, ⟨43, (some 46), .mv (.t 45), 0, none⟩, ⟨44, (some 47), .faddr 0 (.t 1), 0, (some (46, false))⟩, ⟨45, (some 48), .load none (.t 47), 0, (some (46, false))⟩, ⟨46, (some 49), .faddr 2 (.t 1), 0, (some (46, false))⟩, ⟨47, (some 50), .load none (.t 49), 0, (some (46, false))⟩, ⟨48, (some 51), .faddr 1 (.t 1), 0, (some (46, false))⟩, ⟨49, (some 52), .load none (.t 51), 0, (some (46, false))⟩, ⟨50, (some 53), .call 136 [.t 48, .t 50, .t 52], 2, (some (46, false))⟩, ⟨51, (some 54), .bin .neq (.t 53) (.c (.int .i64 (1))), 0, (some (46, false))⟩, ⟨52, (some 55), .pick (.t 46) (.c (.bool true)) (.t 54), 0, none⟩] [55])
 (.cond (.t 55)
 (.seq
 (.reg false [⟨0, (some 2), .mv (.c (.int .i64 (80))), 0, none⟩] [2])
 (.ret))
 (.skip)))
 (.seq
 (.reg false [⟨0, (some 2), .mv (.c (.int .i64 (0))), 0, none⟩] [2])
 (.ret)))

theorem ok88 : okF Tryz.prog 88 1 c88 [.tmp 2] = true := by kernel_rfl

/-- (*dauber/draw.state).secret -/
def c89 : C :=
 .seq
 (.reg false [⟨0, (some 2), .box 1 (.t 0), 0, none⟩, ⟨1, (some 4), .mv (.c (.int .i64 (0))), 0, none⟩, ⟨2, (some 5), .mv (.c (.bool false)), 0, none⟩] [1, 2])
 (.seq
 (.seq
 (.reg false [⟨0, (some 20), .load none (.t 2), 0, none⟩, ⟨1, (some 21), .nilc (.t 20), 0, none⟩, ⟨2, (some 22), .faddr 6 (.t 21), 0, none⟩, ⟨3, (some 23), .faddr 3 (.t 22), 0, none⟩, ⟨4, (some 24), .load none (.t 23), 0, none⟩, ⟨5, (some 25), .len none (.t 24), 0, none⟩, ⟨6, (some 26), .mv (.c (.int .i64 (0))), 0, none⟩] [1, 2, 24, 25, 26])
 (.blk 0
 (.loop [1, 2, 24, 25, 26]
 (.seq
 (.reg false [⟨0, (some 27), .bin .lss (.t 26) (.t 25), 0, none⟩] [1, 2, 24, 25, 26, 27])
 (.seq
 (.cond (.t 27)
 (.skip)
 (.exit 0))
 (.seq
 (.blk 1
 (.seq
 (.reg false [⟨0, (some 28), .iaddr none 4 (.t 24) (.t 26), 0, none⟩, ⟨1, (some 29), .load (some 4) (.t 28), 0, none⟩, ⟨2, (some 7), .alloc [.int .i64 (0), .int .i64 (0), .int .i64 (0), .nils] 4, 0, none⟩, ⟨3, none, .store 4 (.t 7) (.t 29), 0, none⟩] [1, 2, 7, 24, 25, 26])
 (.seq
 (.reg false [⟨0, (some 31), .load none (.t 2), 0, none⟩, ⟨1, (some 32), .load (some 4) (.t 7), 0, none⟩, ⟨2, (some 33), .call 129 [.t 31, .t 32], 2, none⟩, ⟨3, (some 30), .mv (.t 33), 0, none⟩, ⟨4, (some 34), .ext 0 (.t 30), 0, none⟩, ⟨5, (some 35), .ext 1 (.t 30), 0, none⟩, ⟨6, (some 8), .mv (.t 34), 0, none⟩, ⟨7, (some 9), .mv (.t 35), 0, none⟩] [1, 2, 7, 9, 24, 25, 26])
 (.seq
 (.reg false [⟨0, (some 36), .mv (.t 9), 0, none⟩, ⟨1, (some 37), .mv (.t 36), 0, none⟩, ⟨2, (some 38), .faddr 0 (.t 7), 0, (some (37, true))⟩, ⟨3, (some 39), .load none (.t 38), 0, (some (37, true))⟩, ⟨4, (some 40), .mv (.t 1), 0, (some (37, true))⟩, ⟨5, (some 41), .bin .eql (.t 39) (.t 40), 0, (some (37, true))⟩, ⟨6, (some 42), .pick (.t 37) (.t 41) (.c (.bool false)), 0, none⟩] [1, 2, 7, 24, 25, 26, 42])
 (.cond (.t 42)
 (.seq
 (.reg false [⟨0, (some 43), .faddr 3 (.t 7), 0, none⟩, ⟨1, (some 44), .load none (.t 43), 0, none⟩, ⟨2, (some 45), .iaddr none 1 (.t 44) (.c (.int .i64 (0))), 0, none⟩, ⟨3, (some 46), .load none (.t 45), 0, none⟩, ⟨4, (some 4), .mv (.t 46), 0, none⟩, ⟨5, (some 5), .mv (.c (.bool true)), 0, none⟩] [4, 5])
 (.ret))
 (.skip))))))
 (.reg false [⟨0, (some 47), .bin .add (.t 26) (.c (.int .i64 (1))), 0, none⟩, ⟨1, (some 26), .mv (.t 47), 0, none⟩] [1, 2, 24, 25, 26])))))))
 (.seq
 (.reg false [⟨0, (some 10), .alloc [.nils] 1, 0, none⟩, ⟨1, (some 11), .alloc [.nils] 1, 0, none⟩] [1, 2, 10, 11])
 (.seq
 (.seq
 (.reg false [⟨0, (some 48), .load none (.t 2), 0, none⟩, ⟨1, (some 49), .mv (.t 1), 0, none⟩, ⟨2, (some 50), .call 137 [.t 48, .t 49], 2, none⟩] [2, 10, 11, 50])
 (.blk 2
 (.rf (.t 50) [51, 52]
 (.seq
 (.reg false [⟨0, (some 12), .mv (.t 51), 0, none⟩] [2, 10, 11, 12, 52])
 (.reg false [⟨0, (some 13), .mv (.t 52), 0, none⟩] [2, 10, 11, 12, 13]))
 (.blk 3
 (.seq
 (.reg true [⟨0, (some 53), .load none (.t 10), 0, none⟩, ⟨1, (some 54), .len none (.t 53), 0, none⟩, ⟨2, (some 55), .load none (.t 2), 0, none⟩, ⟨3, (some 56), .nilc (.t 55), 0, none⟩, ⟨4, (some 57), .faddr 0 (.t 56), 0, none⟩, ⟨5, (some 58), .faddr 4 (.t 57), 0, none⟩, ⟨6, (some 59), .load none (.t 58), 0, none⟩, ⟨7, (some 60), .bin .leq (.t 54) (.t 59), 0, none⟩, ⟨8, (some 61), .mv (.t 60), 0, none⟩, ⟨10, (some 63), .mv (.t 12), 0, (some (61, true))⟩, ⟨9, (some 62), .load none (.t 10), 0, (some (61, true))⟩, ⟨11, (some 64), .call 138 [.t 62, .t 63], 2, (some (61, true))⟩, ⟨12, (some 65), .un .not (.t 64), 0, (some (61, true))⟩, ⟨13, (some 66), .pick (.t 61) (.t 65) (.c (.bool false)), 0, none⟩] [10, 11, 12, 13, 66])
 (.cond (.t 66)
 (.reg true [⟨1, (some 68), .mv (.t 12), 0, none⟩, ⟨5, (some 72), .mv (.t 13), 0, none⟩, ⟨0, (some 67), .load none (.t 10), 0, none⟩, ⟨4, (some 71), .loada none (.t 11) 11, 0, none⟩, ⟨2, (some 69), .bsl 1 1 [.int .i64 (0)] [(0, 1, .t 68)], 0, none⟩, ⟨3, (some 70), .appa [11] 1 8 (.t 67) (.t 69), 0, none⟩, ⟨6, (some 73), .bsl 1 1 [.int .i64 (0)] [(0, 1, .t 72)], 0, none⟩, ⟨7, (some 74), .app 1 8 (.t 71) (.t 73), 0, none⟩, ⟨8, none, .store 1 (.t 10) (.t 70), 0, none⟩, ⟨9, none, .store 1 (.t 11) (.t 74), 0, none⟩] [])
 (.skip)))))))
 (.seq
 (.seq
 (.reg true [⟨0, (some 75), .load none (.t 10), 0, none⟩, ⟨1, (some 76), .len none (.t 75), 0, none⟩, ⟨2, (some 77), .load none (.t 2), 0, none⟩, ⟨3, (some 78), .nilc (.t 77), 0, none⟩, ⟨4, (some 79), .faddr 0 (.t 78), 0, none⟩, ⟨5, (some 80), .faddr 4 (.t 79), 0, none⟩, ⟨6, (some 81), .load none (.t 80), 0, none⟩, ⟨7, (some 82), .bin .leq (.t 76) (.t 81), 0, none⟩] [2, 10, 11, 82])
 (.cond (.t 82)
 (.seq
 (.reg false [⟨0, (some 4), .mv (.c (.int .i64 (0))), 0, none⟩, ⟨1, (some 5), .mv (.c (.bool false)), 0, none⟩] [4, 5])
 (.ret))
 (.skip)))
 (.seq
 (.reg false [⟨0, (some 84), .load none (.t 2), 0, none⟩, ⟨1, (some 85), .nilc (.t 84), 0, none⟩, ⟨2, (some 86), .faddr 0 (.t 85), 0, none⟩, ⟨3, (some 87), .faddr 0 (.t 86), 0, none⟩, ⟨4, (some 88), .faddr 1 (.t 87), 0, none⟩, ⟨5, (some 89), .load none (.t 88), 0, none⟩, ⟨6, (some 90), .call 97 [.t 89], 2, none⟩, ⟨7, (some 83), .mv (.t 90), 0, none⟩, ⟨8, (some 91), .ext 0 (.t 83), 0, none⟩, ⟨9, (some 92), .ext 1 (.t 83), 0, none⟩, ⟨10, (some 14), .mv (.t 91), 0, none⟩, ⟨11, (some 15), .mv (.t 92), 0, none⟩] [10, 11, 14])
 (.seq
 (.reg false [⟨0, (some 94), .mv (.t 14), 0, none⟩, ⟨1, (some 95), .load none (.t 10), 0, none⟩, ⟨2, (some 96), .load none (.t 11), 0, none⟩, ⟨3, (some 97), .call 98 [.t 94, .t 95, .t 96], 2, none⟩, ⟨4, (some 93), .mv (.t 97), 0, none⟩, ⟨5, (some 98), .ext 0 (.t 93), 0, none⟩, ⟨6, (some 99), .ext 1 (.t 93), 0, none⟩, ⟨7, (some 16), .mv (.t 98), 0, none⟩, ⟨8, (some 17), .mv (.t 99), 0, none⟩] [14, 16])
 (.seq
 (.reg false [⟨0, (some 101), .mv (.t 14), 0, none⟩, ⟨1, (some 102), .mv (.t 16), 0, none⟩, ⟨2, (some 103), .call 139 [.t 101, .t 102, .c (.int .i64 (0))], 2, none⟩, ⟨3, (some 100), .mv (.t 103), 0, none⟩, ⟨4, (some 104), .ext 0 (.t 100), 0, none⟩, ⟨5, (some 105), .ext 1 (.t 100), 0, none⟩, ⟨6, (some 18), .mv (.t 104), 0, none⟩, ⟨7, (some 19), .mv (.t 105), 0, none⟩] [18])
 (.seq
 (.reg false [⟨0, (some 106), .mv (.t 18), 0, none⟩, ⟨1, (some 4), .mv (.t 106), 0, none⟩, ⟨2, (some 5), .mv (.c (.bool true)), 0, none⟩] [4, 5])
 (.ret)))))))))

theorem ok89 : okF Tryz.prog 89 2 c89 [.tmp 4, .tmp 5] = true := by kernel_rfl

/-- (dauber/share.Group).below -/
def c91 : C :=
 .seq
 (.reg false [⟨0, (some 1), .box 3 (.t 0), 0, none⟩, ⟨1, (some 2), .mv (.c (.int .i64 (0))), 0, none⟩] [1])
 (.seq
 (.reg false [⟨0, (some 3), .faddr 1 (.t 1), 0, none⟩, ⟨1, (some 4), .load none (.t 3), 0, none⟩, ⟨2, (some 2), .mv (.t 4), 0, none⟩] [2])
 (.ret))

theorem ok91 : okF Tryz.prog 91 1 c91 [.tmp 2] = true := by kernel_rfl

/-- (dauber/share.modulus).times -/
def c93 : C :=
 .seq
 (.reg false [⟨0, (some 6), .mv (.c (.int .i64 (0))), 0, none⟩] [0, 1, 2])
 (.seq
 (.reg false [⟨0, (some 7), .mv (.t 1), 0, none⟩, ⟨1, (some 8), .mv (.t 2), 0, none⟩, ⟨2, (some 9), .bin .mul (.t 7) (.t 8), 0, none⟩, ⟨3, (some 10), .mv (.t 0), 0, none⟩, ⟨4, (some 11), .bin .rem (.t 9) (.t 10), 0, none⟩, ⟨5, (some 6), .mv (.t 11), 0, none⟩] [6])
 (.ret))

theorem ok93 : okF Tryz.prog 93 3 c93 [.tmp 6] = true := by kernel_rfl

/-- (dauber/share.modulus).plus -/
def c95 : C :=
 .seq
 (.reg false [⟨0, (some 6), .mv (.c (.int .i64 (0))), 0, none⟩] [0, 1, 2])
 (.seq
 (.reg false [⟨0, (some 7), .mv (.t 1), 0, none⟩, ⟨1, (some 8), .mv (.t 2), 0, none⟩, ⟨2, (some 9), .bin .add (.t 7) (.t 8), 0, none⟩, ⟨3, (some 10), .mv (.t 0), 0, none⟩, ⟨4, (some 11), .bin .rem (.t 9) (.t 10), 0, none⟩, ⟨5, (some 6), .mv (.t 11), 0, none⟩] [6])
 (.ret))

theorem ok95 : okF Tryz.prog 95 3 c95 [.tmp 6] = true := by kernel_rfl

/-- dauber/field.New -/
def c97 : C :=
 .seq
 (.reg false [⟨0, (some 2), .mv (.c (.nilp)), 0, none⟩, ⟨1, (some 3), .mv (.c (.int .i64 (0))), 0, none⟩] [0])
 (.seq
 (.seq
 (.reg false [⟨0, (some 9), .mv (.t 0), 0, none⟩, ⟨1, (some 10), .bin .lss (.t 9) (.c (.int .i64 (2))), 0, none⟩, ⟨2, (some 11), .mv (.t 10), 0, none⟩, ⟨3, (some 12), .mv (.t 0), 0, (some (11, false))⟩, ⟨4, (some 13), .bin .gtr (.t 12) (.c (.int .i64 (65536))), 0, (some (11, false))⟩, ⟨5, (some 14), .pick (.t 11) (.c (.bool true)) (.t 13), 0, none⟩] [0, 14])
 (.cond (.t 14)
 (.seq
 (.reg false [⟨0, (some 2), .mv (.c (.nilp)), 0, none⟩, ⟨1, (some 3), .mv (.c (.int .i64 (20))), 0, none⟩] [2, 3])
 (.ret))
 (.skip)))
 (.seq
 (.reg false [⟨0, (some 15), .mv (.t 0), 0, none⟩, ⟨1, (some 16), .call 142 [.t 15], 2, none⟩, ⟨2, (some 4), .mv (.t 16), 0, none⟩] [0, 4])
 (.seq
 (.seq
 (.reg false [⟨0, (some 17), .mv (.t 4), 0, none⟩, ⟨1, (some 18), .len none (.t 17), 0, none⟩, ⟨2, (some 19), .bin .gtr (.t 18) (.c (.int .i64 (1))), 0, none⟩] [0, 4, 19])
 (.cond (.t 19)
 (.seq
 (.reg false [⟨0, (some 2), .mv (.c (.nilp)), 0, none⟩, ⟨1, (some 3), .mv (.c (.int .i64 (20))), 0, none⟩] [2, 3])
 (.ret))
 (.skip)))
 (.seq
 (.reg false [⟨0, (some 20), .mv (.t 0), 0, none⟩, ⟨1, (some 21), .mv (.t 4), 0, none⟩, ⟨2, (some 22), .iaddr none 1 (.t 21) (.c (.int .i64 (0))), 0, none⟩, ⟨3, (some 23), .load none (.t 22), 0, none⟩, ⟨4, (some 24), .build [.nili, .int .i64 (0), .int .i64 (0), .int .i64 (0), .nils, .int .i64 (0)] [(1, 1, .t 20), (2, 1, .t 23)], 0, none⟩, ⟨5, (some 25), .box 6 (.t 24), 0, none⟩, ⟨6, (some 5), .mv (.t 25), 0, none⟩] [0, 5])
 (.seq
 (.seq
 (.reg false [⟨0, (some 26), .mv (.t 0), 0, none⟩, ⟨1, (some 6), .mv (.t 26), 0, none⟩] [0, 5, 6])
 (.blk 0
 (.loop [0, 5, 6]
 (.seq
 (.seq
 (.reg false [⟨0, (some 27), .mv (.t 6), 0, none⟩, ⟨1, (some 28), .bin .gtr (.t 27) (.c (.int .i64 (1))), 0, none⟩] [0, 5, 6, 28])
 (.cond (.t 28)
 (.skip)
 (.exit 0)))
 (.seq
 (.blk 1
 (.reg false [⟨0, (some 35), .mv (.t 5), 0, none⟩, ⟨1, (some 36), .nilc (.t 35), 0, none⟩, ⟨2, (some 37), .faddr 3 (.t 36), 0, none⟩, ⟨3, (some 38), .load none (.t 37), 0, none⟩, ⟨4, (some 39), .bin .add (.t 38) (.c (.int .i64 (1))), 0, none⟩, ⟨5, (some 40), .nilc (.t 35), 0, none⟩, ⟨6, (some 41), .faddr 3 (.t 40), 0, none⟩, ⟨7, none, .store 1 (.t 41) (.t 39), 0, none⟩] [0, 5, 6]))
 (.reg false [⟨0, (some 29), .mv (.t 6), 0, none⟩, ⟨1, (some 30), .mv (.t 5), 0, none⟩, ⟨2, (some 31), .nilc (.t 30), 0, none⟩, ⟨3, (some 32), .faddr 2 (.t 31), 0, none⟩, ⟨4, (some 33), .load none (.t 32), 0, none⟩, ⟨5, (some 34), .bin .quo (.t 29) (.t 33), 0, none⟩, ⟨6, (some 6), .mv (.t 34), 0, none⟩] [0, 5, 6]))))))
 (.seq
 (.reg false [⟨0, (some 42), .mv (.t 5), 0, none⟩, ⟨1, (some 43), .nilc (.t 42), 0, none⟩, ⟨2, (some 44), .faddr 2 (.t 43), 0, none⟩, ⟨3, (some 45), .load none (.t 44), 0, none⟩, ⟨4, (some 46), .build [.int .i64 (0)] [(0, 1, .t 45)], 0, none⟩, ⟨5, (some 7), .alloc [.int .i64 (0)] 1, 0, none⟩, ⟨6, none, .store 1 (.t 7) (.t 46), 0, none⟩] [0, 5, 7])
 (.seq
 (.seq
 (.reg false [⟨0, (some 47), .mv (.t 5), 0, none⟩, ⟨1, (some 48), .nilc (.t 47), 0, none⟩, ⟨2, (some 49), .faddr 3 (.t 48), 0, none⟩, ⟨3, (some 50), .load none (.t 49), 0, none⟩, ⟨4, (some 51), .bin .eql (.t 50) (.c (.int .i64 (1))), 0, none⟩] [0, 5, 7, 51])
 (.cond (.t 51)
 (.seq
 (.reg false [⟨0, (some 52), .mv (.t 5), 0, none⟩, ⟨1, (some 53), .mv (.t 5), 0, none⟩, ⟨2, (some 54), .load (some 1) (.t 7), 0, none⟩, ⟨3, (some 55), .mkif 213 (.t 54), 0, none⟩, ⟨4, (some 56), .bsl 1 2 [.int .i64 (0), .int .i64 (0)] [(0, 1, .c (.int .i64 (0))), (1, 1, .c (.int .i64 (1)))], 0, none⟩, ⟨5, (some 57), .nilc (.t 52), 0, none⟩, ⟨6, (some 58), .faddr 0 (.t 57), 0, none⟩, ⟨7, none, .store 1 (.t 58) (.t 55), 0, none⟩, ⟨8, (some 59), .nilc (.t 53), 0, none⟩, ⟨9, (some 60), .faddr 4 (.t 59), 0, none⟩, ⟨10, none, .store 1 (.t 60) (.t 56), 0, none⟩] [5, 7])
 (.seq
 (.reg false [⟨0, (some 61), .mv (.t 5), 0, none⟩, ⟨1, (some 62), .mv (.t 5), 0, none⟩, ⟨2, (some 63), .load (some 1) (.t 7), 0, none⟩, ⟨3, (some 64), .mkif 213 (.t 63), 0, none⟩, ⟨4, (some 65), .call 143 [.t 62, .t 64], 2, none⟩, ⟨5, (some 66), .nilc (.t 61), 0, none⟩, ⟨6, (some 67), .faddr 5 (.t 66), 0, none⟩, ⟨7, none, .store 1 (.t 67) (.t 65), 0, none⟩] [5])
 (.seq
 (.reg false [⟨0, (some 68), .mv (.t 5), 0, none⟩, ⟨1, (some 2), .mv (.t 68), 0, none⟩, ⟨2, (some 3), .mv (.c (.int .i64 (0))), 0, none⟩] [2, 3])
 (.ret))))
 (.skip)))
 (.seq
 (.reg true [⟨0, (some 69), .mv (.t 5), 0, none⟩, ⟨1, (some 70), .mv (.t 5), 0, none⟩, ⟨2, (some 71), .nilc (.t 70), 0, none⟩, ⟨3, (some 72), .faddr 2 (.t 71), 0, none⟩, ⟨5, (some 74), .mv (.t 5), 0, none⟩, ⟨6, (some 75), .nilc (.t 74), 0, none⟩, ⟨7, (some 76), .faddr 3 (.t 75), 0, none⟩, ⟨9, (some 78), .mv (.t 0), 0, none⟩, ⟨4, (some 73), .load none (.t 72), 0, none⟩, ⟨8, (some 77), .load none (.t 76), 0, none⟩, ⟨10, (some 79), .call 144 [.t 73, .t 77, .t 78], 2, none⟩, ⟨11, (some 80), .nilc (.t 69), 0, none⟩, ⟨12, (some 81), .faddr 4 (.t 80), 0, none⟩, ⟨13, none, .store 1 (.t 81) (.t 79), 0, none⟩] [0, 5, 7])
 (.seq
 (.reg true [⟨1, (some 83), .mv (.t 5), 0, none⟩, ⟨2, (some 84), .nilc (.t 83), 0, none⟩, ⟨3, (some 85), .faddr 4 (.t 84), 0, none⟩, ⟨5, (some 87), .mv (.t 0), 0, none⟩, ⟨0, (some 82), .load (some 1) (.t 7), 0, none⟩, ⟨4, (some 86), .load none (.t 85), 0, none⟩, ⟨6, (some 88), .build [.int .i64 (0), .nils, .int .i64 (0)] [(0, 1, .t 82), (1, 1, .t 86), (2, 1, .t 87)], 0, none⟩, ⟨7, (some 8), .alloc [.int .i64 (0), .nils, .int .i64 (0)] 3, 0, none⟩, ⟨8, none, .store 3 (.t 8) (.t 88), 0, none⟩] [5, 8])
 (.seq
 (.reg false [⟨0, (some 89), .mv (.t 5), 0, none⟩, ⟨1, (some 90), .mv (.t 5), 0, none⟩, ⟨2, (some 91), .load (some 3) (.t 8), 0, none⟩, ⟨3, (some 92), .mkif 217 (.t 91), 0, none⟩, ⟨4, (some 93), .call 143 [.t 90, .t 92], 2, none⟩, ⟨5, (some 94), .nilc (.t 89), 0, none⟩, ⟨6, (some 95), .faddr 5 (.t 94), 0, none⟩, ⟨7, none, .store 1 (.t 95) (.t 93), 0, none⟩] [5, 8])
 (.seq
 (.reg true [⟨0, (some 96), .mv (.t 5), 0, none⟩, ⟨2, (some 98), .mv (.t 5), 0, none⟩, ⟨3, (some 99), .nilc (.t 98), 0, none⟩, ⟨4, (some 100), .faddr 5 (.t 99), 0, none⟩, ⟨1, (some 97), .load (some 3) (.t 8), 0, none⟩, ⟨5, (some 101), .load none (.t 100), 0, none⟩, ⟨6, (some 102), .call 145 [.t 97, .t 101], 2, none⟩, ⟨7, (some 103), .mkif 218 (.t 102), 0, none⟩, ⟨8, (some 104), .nilc (.t 96), 0, none⟩, ⟨9, (some 105), .faddr 0 (.t 104), 0, none⟩, ⟨10, none, .store 1 (.t 105) (.t 103), 0, none⟩] [5])
 (.seq
 (.reg false [⟨0, (some 106), .mv (.t 5), 0, none⟩, ⟨1, (some 2), .mv (.t 106), 0, none⟩, ⟨2, (some 3), .mv (.c (.int .i64 (0))), 0, none⟩] [2, 3])
 (.ret)))))))))))))

theorem ok97 : okF Tryz.prog 97 1 c97 [.tmp 2, .tmp 3] = true := by kernel_rfl

/-- (*dauber/field.Field).Through -/
def c98 : C :=
 .seq
 (.reg false [⟨0, (some 6), .mv (.c (.nils)), 0, none⟩, ⟨1, (some 7), .mv (.c (.int .i64 (0))), 0, none⟩] [0, 1, 2])
 (.seq
 (.seq
 (.reg false [⟨0, (some 8), .mv (.t 0), 0, none⟩, ⟨1, (some 9), .eqn 0 false (.t 8) (.c (.nilp)), 0, none⟩] [0, 1, 2, 9])
 (.cond (.t 9)
 (.seq
 (.reg false [⟨0, (some 6), .mv (.c (.nils)), 0, none⟩, ⟨1, (some 7), .mv (.c (.int .i64 (3))), 0, none⟩] [6, 7])
 (.ret))
 (.skip)))
 (.seq
 (.seq
 (.reg false [⟨0, (some 10), .mv (.t 1), 0, none⟩, ⟨1, (some 11), .len none (.t 10), 0, none⟩, ⟨2, (some 12), .mv (.t 2), 0, none⟩, ⟨3, (some 13), .len none (.t 12), 0, none⟩, ⟨4, (some 14), .bin .neq (.t 11) (.t 13), 0, none⟩] [0, 1, 2, 14])
 (.cond (.t 14)
 (.seq
 (.reg false [⟨0, (some 6), .mv (.c (.nils)), 0, none⟩, ⟨1, (some 7), .mv (.c (.int .i64 (7))), 0, none⟩] [6, 7])
 (.ret))
 (.skip)))
 (.seq
 (.seq
 (.reg false [⟨0, (some 15), .mv (.t 1), 0, none⟩, ⟨1, (some 16), .len none (.t 15), 0, none⟩, ⟨2, (some 17), .bin .gtr (.t 16) (.c (.int .i64 (200))), 0, none⟩] [0, 1, 2, 17])
 (.cond (.t 17)
 (.seq
 (.reg false [⟨0, (some 6), .mv (.c (.nils)), 0, none⟩, ⟨1, (some 7), .mv (.c (.int .i64 (2))), 0, none⟩] [6, 7])
 (.ret))
 (.skip)))
 (.seq
 (.seq
 (.reg false [⟨0, (some 18), .mv (.t 0), 0, none⟩, ⟨1, (some 19), .mv (.t 1), 0, none⟩, ⟨2, (some 20), .call 146 [.t 18, .t 19], 2, none⟩, ⟨3, (some 21), .un .not (.t 20), 0, none⟩, ⟨4, (some 22), .mv (.t 21), 0, none⟩, ⟨5, (some 23), .mv (.t 0), 0, (some (22, false))⟩, ⟨6, (some 24), .mv (.t 2), 0, (some (22, false))⟩, ⟨7, (some 25), .call 146 [.t 23, .t 24], 2, (some (22, false))⟩, ⟨8, (some 26), .un .not (.t 25), 0, (some (22, false))⟩, ⟨9, (some 27), .pick (.t 22) (.c (.bool true)) (.t 26), 0, none⟩, ⟨10, (some 28), .mv (.t 27), 0, none⟩, ⟨11, (some 29), .mv (.t 1), 0, (some (28, false))⟩, ⟨12, (some 30), .call 147 [.t 29], 2, (some (28, false))⟩, ⟨13, (some 31), .un .not (.t 30), 0, (some (28, false))⟩, ⟨14, (some 32), .pick (.t 28) (.c (.bool true)) (.t 31), 0, none⟩] [0, 1, 2, 32])
 (.cond (.t 32)
 (.seq
 (.reg false [⟨0, (some 6), .mv (.c (.nils)), 0, none⟩, ⟨1, (some 7), .mv (.c (.int .i64 (1))), 0, none⟩] [6, 7])
 (.ret))
 (.skip)))
 (.seq
 (.reg false [⟨0, (some 33), .mv (.t 0), 0, none⟩, ⟨1, (some 34), .mv (.t 1), 0, none⟩, ⟨2, (some 35), .mv (.t 2), 0, none⟩, ⟨3, (some 36), .call 148 [.t 33, .t 34, .t 35], 2, none⟩, ⟨4, (some 6), .mv (.t 36), 0, none⟩, ⟨5, (some 7), .mv (.c (.int .i64 (0))), 0, none⟩] [6, 7])
 (.ret))))))

theorem ok98 : okF Tryz.prog 98 3 c98 [.tmp 6, .tmp 7] = true := by kernel_rfl

/-- dauber/share.Shares -/
def c105 : C :=
 .seq
 (.reg false [⟨0, (some 3), .box 3 (.t 0), 0, none⟩, ⟨1, (some 6), .mv (.c (.nils)), 0, none⟩, ⟨2, (some 7), .mv (.c (.int .i64 (0))), 0, none⟩] [1, 2, 3])
 (.seq
 (.seq
 (.reg false [⟨0, (some 11), .load (some 3) (.t 3), 0, none⟩, ⟨1, (some 12), .mv (.t 1), 0, none⟩, ⟨2, (some 13), .call 157 [.t 11, .t 12], 2, none⟩, ⟨3, (some 8), .mv (.t 13), 0, none⟩] [1, 2, 3, 8])
 (.seq
 (.reg false [⟨0, (some 14), .mv (.t 8), 0, none⟩, ⟨1, (some 15), .bin .neq (.t 14) (.c (.int .i64 (0))), 0, none⟩] [1, 2, 3, 8, 15])
 (.cond (.t 15)
 (.seq
 (.reg false [⟨0, (some 16), .mv (.t 8), 0, none⟩, ⟨1, (some 6), .mv (.c (.nils)), 0, none⟩, ⟨2, (some 7), .mv (.t 16), 0, none⟩] [6, 7])
 (.ret))
 (.skip))))
 (.seq
 (.seq
 (.reg false [⟨0, (some 17), .mv (.t 2), 0, none⟩, ⟨1, (some 18), .bin .lss (.t 17) (.c (.int .i64 (1))), 0, none⟩, ⟨2, (some 19), .mv (.t 18), 0, none⟩, ⟨3, (some 20), .mv (.t 2), 0, (some (19, false))⟩, ⟨4, (some 21), .bin .gtr (.t 20) (.c (.int .i64 (64))), 0, (some (19, false))⟩, ⟨5, (some 22), .pick (.t 19) (.c (.bool true)) (.t 21), 0, none⟩, ⟨6, (some 23), .mv (.t 22), 0, none⟩, ⟨7, (some 24), .mv (.t 2), 0, (some (23, false))⟩, ⟨8, (some 25), .faddr 1 (.t 3), 0, (some (23, false))⟩, ⟨9, (some 26), .load none (.t 25), 0, (some (23, false))⟩, ⟨10, (some 27), .bin .geq (.t 24) (.t 26), 0, (some (23, false))⟩, ⟨11, (some 28), .pick (.t 23) (.c (.bool true)) (.t 27), 0, none⟩] [1, 2, 3, 28])
 (.cond (.t 28)
 (.seq
 (.reg false [⟨0, (some 6), .mv (.c (.nils)), 0, none⟩, ⟨1, (some 7), .mv (.c (.int .i64 (1))), 0, none⟩] [6, 7])
 (.ret))
 (.skip)))
 (.seq
 (.reg false [⟨0, (some 9), .nilo 1, 0, none⟩] [1, 2, 3, 9])
 (.seq
 (.seq
 (.reg false [⟨0, (some 29), .mv (.t 2), 0, none⟩, ⟨1, (some 30), .mv (.c (.int .i64 (0))), 0, none⟩] [1, 3, 9, 29, 30])
 (.blk 0
 (.loop [1, 3, 9, 29, 30]
 (.seq
 (.reg false [⟨0, (some 31), .bin .lss (.t 30) (.t 29), 0, none⟩] [1, 3, 9, 29, 30, 31])
 (.seq
 (.cond (.t 31)
 (.skip)
 (.exit 0))
 (.seq
 (.blk 1
 (.seq
 (.reg false [⟨0, (some 32), .mv (.t 30), 0, none⟩, ⟨1, (some 10), .mv (.t 32), 0, none⟩] [1, 3, 9, 10, 29, 30])
 (.reg false [⟨0, (some 33), .mv (.t 9), 0, none⟩, ⟨1, (some 34), .load (some 3) (.t 3), 0, none⟩, ⟨2, (some 35), .mv (.t 1), 0, none⟩, ⟨3, (some 36), .mv (.t 10), 0, none⟩, ⟨4, (some 37), .bin .add (.t 36) (.c (.int .i64 (1))), 0, none⟩, ⟨5, (some 38), .call 158 [.t 34, .t 35, .t 37], 2, none⟩, ⟨6, (some 39), .bsl 1 1 [.int .i64 (0)] [(0, 1, .t 38)], 0, none⟩, ⟨7, (some 40), .app 1 8 (.t 33) (.t 39), 0, none⟩, ⟨8, (some 9), .mv (.t 40), 0, none⟩] [1, 3, 9, 29, 30])))
 (.reg false [⟨0, (some 41), .bin .add (.t 30) (.c (.int .i64 (1))), 0, none⟩, ⟨1, (some 30), .mv (.t 41), 0, none⟩] [1, 3, 9, 29, 30])))))))
 (.seq
 (.reg false [⟨0, (some 42), .mv (.t 9), 0, none⟩, ⟨1, (some 6), .mv (.t 42), 0, none⟩, ⟨2, (some 7), .mv (.c (.int .i64 (0))), 0, none⟩] [6, 7])
 (.ret))))))

theorem ok105 : okF Tryz.prog 105 3 c105 [.tmp 6, .tmp 7] = true := by kernel_rfl

/-- slices.ContainsFunc[[]dauber/draw.Line,dauber/draw.Line] -/
def c107 : C :=
 .seq
 (.reg false [⟨0, (some 4), .mv (.c (.bool false)), 0, none⟩] [0, 1])
 (.seq
 (.reg false [⟨0, (some 5), .mv (.t 0), 0, none⟩, ⟨1, (some 6), .mv (.t 1), 0, none⟩, ⟨2, (some 7), .call 161 [.t 5, .t 6], 2, none⟩, ⟨3, (some 8), .bin .geq (.t 7) (.c (.int .i64 (0))), 0, none⟩, ⟨4, (some 4), .mv (.t 8), 0, none⟩] [4])
 (.ret))

theorem ok107 : okF Tryz.prog 107 2 c107 [.tmp 4] = true := by kernel_rfl

/-- dauber/draw.checkBoard$1 -/
def c108 : C :=
 .seq
 (.reg false [⟨0, (some 1), .box 4 (.t 0), 0, none⟩, ⟨1, (some 2), .mv (.c (.bool false)), 0, none⟩] [1])
 (.seq
 (.reg false [⟨0, (some 3), .faddr 3 (.t 1), 0, none⟩, ⟨1, (some 4), .load none (.t 3), 0, none⟩, ⟨2, (some 5), .len none (.t 4), 0, none⟩, ⟨3, (some 6), .bin .gtr (.t 5) (.c (.int .i64 (64))), 0, none⟩, ⟨4, (some 2), .mv (.t 6), 0, none⟩] [2])
 (.ret))

theorem ok108 : okF Tryz.prog 108 1 c108 [.tmp 2] = true := by kernel_rfl

/-- slices.IndexFunc[[][]int64,[]int64] -/
def c109 : C :=
 .seq
 (.reg false [⟨0, (some 4), .mv (.c (.int .i64 (0))), 0, none⟩] [0, 1])
 (.seq
 (.seq
 (.reg false [⟨0, (some 6), .mv (.t 0), 0, none⟩, ⟨1, (some 7), .len none (.t 6), 0, none⟩, ⟨2, (some 8), .mv (.c (.int .i64 (0))), 0, none⟩] [0, 1, 7, 8])
 (.blk 0
 (.loop [0, 1, 7, 8]
 (.seq
 (.reg false [⟨0, (some 9), .bin .lss (.t 8) (.t 7), 0, none⟩] [0, 1, 7, 8, 9])
 (.seq
 (.cond (.t 9)
 (.skip)
 (.exit 0))
 (.seq
 (.blk 1
 (.seq
 (.reg false [⟨0, (some 10), .mv (.t 8), 0, none⟩, ⟨1, (some 5), .mv (.t 10), 0, none⟩] [0, 1, 5, 7, 8])
 (.seq
 (.reg false [⟨0, (some 11), .mv (.t 1), 0, none⟩, ⟨1, (some 12), .mv (.t 0), 0, none⟩, ⟨2, (some 13), .mv (.t 5), 0, none⟩, ⟨3, (some 14), .iaddr none 1 (.t 12) (.t 13), 0, none⟩, ⟨4, (some 15), .load none (.t 14), 0, none⟩, ⟨5, (some 16), .callv (.t 11) [.t 15], 2, none⟩] [0, 1, 5, 7, 8, 16])
 (.cond (.t 16)
 (.seq
 (.reg false [⟨0, (some 17), .mv (.t 5), 0, none⟩, ⟨1, (some 4), .mv (.t 17), 0, none⟩] [4])
 (.ret))
 (.skip)))))
 (.reg false [⟨0, (some 18), .bin .add (.t 8) (.c (.int .i64 (1))), 0, none⟩, ⟨1, (some 8), .mv (.t 18), 0, none⟩] [0, 1, 7, 8])))))))
 (.seq
 (.reg false [⟨0, (some 4), .mv (.c (.int .i64 (-1))), 0, none⟩] [4])
 (.ret)))

theorem ok109 : okF Tryz.prog 109 2 c109 [.tmp 4] = true := by kernel_rfl

/-- slices.ContainsFunc[[]int64,int64] -/
def c110 : C :=
 .seq
 (.reg false [⟨0, (some 4), .mv (.c (.bool false)), 0, none⟩] [0, 1])
 (.seq
 (.reg false [⟨0, (some 5), .mv (.t 0), 0, none⟩, ⟨1, (some 6), .mv (.t 1), 0, none⟩, ⟨2, (some 7), .call 162 [.t 5, .t 6], 2, none⟩, ⟨3, (some 8), .bin .geq (.t 7) (.c (.int .i64 (0))), 0, none⟩, ⟨4, (some 4), .mv (.t 8), 0, none⟩] [4])
 (.ret))

theorem ok110 : okF Tryz.prog 110 2 c110 [.tmp 4] = true := by kernel_rfl

/-- dauber/draw.areSecrets$1 -/
def c111 : C :=
 .seq
 (.reg false [⟨0, (some 3), .mv (.c (.bool false)), 0, none⟩] [0, 1])
 (.seq
 (.reg false [⟨0, (some 4), .mv (.t 0), 0, none⟩, ⟨1, (some 5), .bin .lss (.t 4) (.c (.int .i64 (0))), 0, none⟩, ⟨2, (some 6), .mv (.t 5), 0, none⟩, ⟨3, (some 7), .mv (.t 0), 0, (some (6, false))⟩, ⟨4, (some 8), .faddr 0 (.t 1), 0, (some (6, false))⟩, ⟨5, (some 9), .faddr 1 (.t 8), 0, (some (6, false))⟩, ⟨6, (some 10), .load none (.t 9), 0, (some (6, false))⟩, ⟨7, (some 11), .bin .geq (.t 7) (.t 10), 0, (some (6, false))⟩, ⟨8, (some 12), .pick (.t 6) (.c (.bool true)) (.t 11), 0, none⟩, ⟨9, (some 3), .mv (.t 12), 0, none⟩] [3])
 (.ret))

theorem ok111 : okF Tryz.prog 111 2 c111 [.tmp 3] = true := by kernel_rfl

/-- slices.Repeat[[]int64,int64] -/
def c112 : C :=
 .seq
 (.reg false [⟨0, (some 4), .mv (.c (.nils)), 0, none⟩] [0, 1])
 (.seq
 (.seq
 (.reg false [⟨0, (some 9), .mv (.t 1), 0, none⟩, ⟨1, (some 10), .bin .lss (.t 9) (.c (.int .i64 (0))), 0, none⟩] [0, 1, 10])
 (.cond (.t 10)
 (.bad)
 (.skip)))
 (.seq
 (.reg false [⟨0, (some 13), .mv (.t 0), 0, none⟩, ⟨1, (some 14), .len none (.t 13), 0, none⟩, ⟨2, (some 15), .cvt .u64 (.t 14), 0, none⟩, ⟨3, (some 16), .mv (.t 1), 0, none⟩, ⟨4, (some 17), .cvt .u64 (.t 16), 0, none⟩, ⟨5, (some 18), .call 163 [.t 15, .t 17], 2, none⟩, ⟨6, (some 12), .mv (.t 18), 0, none⟩, ⟨7, (some 19), .ext 0 (.t 12), 0, none⟩, ⟨8, (some 20), .ext 1 (.t 12), 0, none⟩, ⟨9, (some 5), .mv (.t 19), 0, none⟩, ⟨10, (some 6), .mv (.t 20), 0, none⟩] [0, 5, 6])
 (.seq
 (.seq
 (.reg false [⟨0, (some 21), .mv (.t 5), 0, none⟩, ⟨1, (some 22), .bin .gtr (.t 21) (.c (.int .u64 (0))), 0, none⟩, ⟨2, (some 23), .mv (.t 22), 0, none⟩, ⟨3, (some 24), .mv (.t 6), 0, (some (23, false))⟩, ⟨4, (some 25), .bin .gtr (.t 24) (.c (.int .u64 (9223372036854775807))), 0, (some (23, false))⟩, ⟨5, (some 26), .pick (.t 23) (.c (.bool true)) (.t 25), 0, none⟩] [0, 6, 26])
 (.cond (.t 26)
 (.bad)
 (.skip)))
 (.seq
 (.reg false [⟨0, (some 28), .mv (.t 6), 0, none⟩, ⟨1, (some 29), .cvt .i64 (.t 28), 0, none⟩, ⟨2, (some 30), .mksl 1 8 [.int .i64 (0)] (.t 29) (.t 29), 0, none⟩, ⟨3, (some 7), .mv (.t 30), 0, none⟩] [0, 7])
 (.seq
 (.reg false [⟨0, (some 31), .mv (.t 7), 0, none⟩, ⟨1, (some 32), .mv (.t 0), 0, none⟩, ⟨2, (some 33), .cpy 1 (.t 31) (.t 32), 0, none⟩, ⟨3, (some 8), .mv (.t 33), 0, none⟩] [7, 8])
 (.seq
 (.blk 0
 (.loop [7, 8]
 (.seq
 (.seq
 (.reg false [⟨0, (some 34), .mv (.t 8), 0, none⟩, ⟨1, (some 35), .mv (.t 7), 0, none⟩, ⟨2, (some 36), .len none (.t 35), 0, none⟩, ⟨3, (some 37), .bin .lss (.t 34) (.t 36), 0, none⟩] [7, 8, 37])
 (.cond (.t 37)
 (.skip)
 (.exit 0)))
 (.blk 1
 (.reg true [⟨0, (some 38), .mv (.t 8), 0, none⟩, ⟨1, (some 39), .mv (.t 7), 0, none⟩, ⟨2, (some 40), .mv (.t 8), 0, none⟩, ⟨4, (some 42), .mv (.t 7), 0, none⟩, ⟨5, (some 43), .mv (.t 8), 0, none⟩, ⟨3, (some 41), .slc none 1 (.t 39) (some (.t 40)) none none, 0, none⟩, ⟨6, (some 44), .slc none 1 (.t 42) none (some (.t 43)) none, 0, none⟩, ⟨7, (some 45), .cpy 1 (.t 41) (.t 44), 0, none⟩, ⟨8, (some 46), .bin .add (.t 38) (.t 45), 0, none⟩, ⟨9, (some 8), .mv (.t 46), 0, none⟩] [7, 8])))))
 (.seq
 (.reg false [⟨0, (some 47), .mv (.t 7), 0, none⟩, ⟨1, (some 4), .mv (.t 47), 0, none⟩] [4])
 (.ret))))))))

theorem ok112 : okF Tryz.prog 112 2 c112 [.tmp 4] = true := by kernel_rfl

/-- slices.Contains[[][2]int,[2]int] -/
def c113 : C :=
 .seq
 (.reg false [⟨0, (some 3), .box 2 (.t 1), 0, none⟩, ⟨1, (some 4), .mv (.c (.bool false)), 0, none⟩] [0, 3])
 (.seq
 (.reg false [⟨0, (some 5), .mv (.t 0), 0, none⟩, ⟨1, (some 6), .load (some 2) (.t 3), 0, none⟩, ⟨2, (some 7), .call 164 [.t 5, .t 6], 2, none⟩, ⟨3, (some 8), .bin .geq (.t 7) (.c (.int .i64 (0))), 0, none⟩, ⟨4, (some 4), .mv (.t 8), 0, none⟩] [4])
 (.ret))

theorem ok113 : okF Tryz.prog 113 2 c113 [.tmp 4] = true := by kernel_rfl

/-- (dauber/draw.Config).counts -/
def c114 : C :=
 .seq
 (.reg false [⟨0, (some 5), .box 6 (.t 0), 0, none⟩, ⟨1, (some 6), .box 4 (.t 1), 0, none⟩, ⟨2, (some 10), .mv (.c (.bool false)), 0, none⟩] [2, 3, 4, 5, 6])
 (.seq
 (.reg false [⟨0, (some 11), .faddr 1 (.t 6), 0, none⟩, ⟨1, (some 12), .load none (.t 11), 0, none⟩, ⟨2, (some 13), .mv (.t 2), 0, none⟩, ⟨3, (some 14), .bin .eql (.t 12) (.t 13), 0, none⟩, ⟨4, (some 15), .mv (.t 14), 0, none⟩, ⟨5, (some 16), .load (some 6) (.t 5), 0, (some (15, true))⟩, ⟨6, (some 17), .faddr 0 (.t 6), 0, (some (15, true))⟩, ⟨7, (some 18), .load none (.t 17), 0, (some (15, true))⟩, ⟨8, (some 19), .call 65 [.t 16, .t 18], 2, (some (15, true))⟩, ⟨9, (some 20), .pick (.t 15) (.t 19) (.c (.bool false)), 0, none⟩, ⟨10, (some 21), .mv (.t 20), 0, none⟩, ⟨11, (some 22), .faddr 3 (.t 6), 0, (some (21, true))⟩, ⟨12, (some 23), .load none (.t 22), 0, (some (21, true))⟩, ⟨13, (some 24), .len none (.t 23), 0, (some (21, true))⟩, ⟨14, (some 25), .mv (.t 3), 0, (some (21, true))⟩, ⟨15, (some 26), .bin .eql (.t 24) (.t 25), 0, (some (21, true))⟩, ⟨16, (some 27), .pick (.t 21) (.t 26) (.c (.bool false)), 0, none⟩, ⟨17, (some 28), .mv (.t 27), 0, none⟩, ⟨18, (some 29), .mv (.t 4), 0, (some (28, true))⟩, ⟨19, (some 30), .un .not (.t 29), 0, (some (28, true))⟩, ⟨20, (some 31), .mv (.t 30), 0, (some (28, true))⟩, ⟨21, (some 32), .load (some 6) (.t 5), 0, (some (31, false))⟩, ⟨22, (some 33), .faddr 2 (.t 6), 0, (some (31, false))⟩, ⟨23, (some 34), .load none (.t 33), 0, (some (31, false))⟩, ⟨24, (some 35), .call 65 [.t 32, .t 34], 2, (some (31, false))⟩, ⟨25, (some 36), .mv (.t 35), 0, (some (31, false))⟩, ⟨26, (some 37), .faddr 2 (.t 6), 0, (some (36, true))⟩, ⟨27, (some 38), .load none (.t 37), 0, (some (36, true))⟩, ⟨28, (some 39), .faddr 0 (.t 6), 0, (some (36, true))⟩, ⟨29, (some 40), .load none (.t 39), 0, (some (36, true))⟩, ⟨30, (some 41), .bin .neq (.t 38) (.t 40), 0, (some (36, true))⟩, ⟨31, (some 42), .pick (.t 36) (.t 41) (.c (.bool false)), 0, (some (31, false))⟩, ⟨32, (some 43), .pick (.t 31) (.c (.bool true)) (.t 42), 0, (some (28, true))⟩, ⟨33, (some 44), .pick (.t 28) (.t 43) (.c (.bool false)), 0, none⟩, ⟨34, (some 10), .mv (.t 44), 0, none⟩] [10])
 (.ret))

theorem ok114 : okF Tryz.prog 114 5 c114 [.tmp 10] = true := by kernel_rfl

/-- dauber/draw.read$1 -/
def c115 : C :=
 .seq
 (.reg false [⟨0, (some 3), .mv (.c (.bool false)), 0, none⟩] [0, 1])
 (.seq
 (.reg false [⟨0, (some 4), .faddr 0 (.t 1), 0, none⟩, ⟨1, (some 5), .load (some 3) (.t 4), 0, none⟩, ⟨2, (some 6), .mv (.t 0), 0, none⟩, ⟨3, (some 7), .call 116 [.t 5, .t 6], 2, none⟩, ⟨4, (some 8), .un .not (.t 7), 0, none⟩, ⟨5, (some 3), .mv (.t 8), 0, none⟩] [3])
 (.ret))

theorem ok115 : okF Tryz.prog 115 2 c115 [.tmp 3] = true := by kernel_rfl

/-- (dauber/share.Group).Has -/
def c116 : C :=
 .seq
 (.reg false [⟨0, (some 2), .box 3 (.t 0), 0, none⟩, ⟨1, (some 4), .mv (.c (.bool false)), 0, none⟩] [1, 2])
 (.seq
 (.reg false [⟨0, (some 5), .load (some 3) (.t 2), 0, none⟩, ⟨1, (some 6), .call 88 [.t 5], 2, none⟩, ⟨2, (some 7), .bin .eql (.t 6) (.c (.int .i64 (0))), 0, none⟩, ⟨3, (some 8), .mv (.t 7), 0, none⟩, ⟨4, (some 9), .load (some 3) (.t 2), 0, (some (8, true))⟩, ⟨5, (some 10), .mv (.t 1), 0, (some (8, true))⟩, ⟨6, (some 11), .bsl 1 1 [.int .i64 (0)] [(0, 1, .t 10)], 0, (some (8, true))⟩, ⟨7, (some 12), .call 165 [.t 9, .t 11], 2, (some (8, true))⟩, ⟨8, (some 13), .pick (.t 8) (.t 12) (.c (.bool false)), 0, none⟩, ⟨9, (some 4), .mv (.t 13), 0, none⟩] [4])
 (.ret))

theorem ok116 : okF Tryz.prog 116 2 c116 [.tmp 4] = true := by kernel_rfl

/-- (*dauber/draw.state).post$1 -/
def c117 : C :=
 .reg false [⟨0, (some 8), .load none (.t 3), 0, none⟩, ⟨1, (some 9), .load none (.t 4), 0, none⟩, ⟨2, (some 10), .mv (.t 0), 0, none⟩, ⟨3, (some 11), .mv (.t 1), 0, none⟩, ⟨4, (some 12), .mv (.t 2), 0, none⟩, ⟨5, (some 13), .build [.int .i64 (0), .int .i64 (0), .int .i64 (0), .nils] [(0, 1, .t 9), (1, 1, .t 10), (2, 1, .t 11), (3, 1, .t 12)], 0, none⟩, ⟨6, (some 14), .bsl 4 1 [.int .i64 (0), .int .i64 (0), .int .i64 (0), .nils] [(0, 4, .t 13)], 0, none⟩, ⟨7, (some 15), .app 4 48 (.t 8) (.t 14), 0, none⟩, ⟨8, none, .store 1 (.t 3) (.t 15), 0, none⟩] []

theorem ok117 : okF Tryz.prog 117 5 c117 [] = true := by kernel_rfl

/-- (*dauber/draw.state).post$2 -/
def c118 : C :=
 .seq
 (.reg false [⟨0, (some 3), .mv (.c (.bool false)), 0, none⟩] [0, 1])
 (.seq
 (.reg false [⟨0, (some 4), .mv (.t 0), 0, none⟩, ⟨1, (some 5), .load none (.t 1), 0, none⟩, ⟨2, (some 6), .bin .neq (.t 4) (.t 5), 0, none⟩, ⟨3, (some 3), .mv (.t 6), 0, none⟩] [3])
 (.ret))

theorem ok118 : okF Tryz.prog 118 2 c118 [.tmp 3] = true := by kernel_rfl

/-- dauber/share.Commit -/
def c119 : C :=
 .seq
 (.reg false [⟨0, (some 2), .box 3 (.t 0), 0, none⟩, ⟨1, (some 4), .mv (.c (.nils)), 0, none⟩, ⟨2, (some 5), .mv (.c (.int .i64 (0))), 0, none⟩] [1, 2])
 (.seq
 (.seq
 (.reg false [⟨0, (some 10), .load (some 3) (.t 2), 0, none⟩, ⟨1, (some 11), .mv (.t 1), 0, none⟩, ⟨2, (some 12), .call 157 [.t 10, .t 11], 2, none⟩, ⟨3, (some 6), .mv (.t 12), 0, none⟩] [1, 2, 6])
 (.seq
 (.reg false [⟨0, (some 13), .mv (.t 6), 0, none⟩, ⟨1, (some 14), .bin .neq (.t 13) (.c (.int .i64 (0))), 0, none⟩] [1, 2, 6, 14])
 (.cond (.t 14)
 (.seq
 (.reg false [⟨0, (some 15), .mv (.t 6), 0, none⟩, ⟨1, (some 4), .mv (.c (.nils)), 0, none⟩, ⟨2, (some 5), .mv (.t 15), 0, none⟩] [4, 5])
 (.ret))
 (.skip))))
 (.seq
 (.reg false [⟨0, (some 7), .nilo 1, 0, none⟩] [1, 2, 7])
 (.seq
 (.seq
 (.reg false [⟨0, (some 16), .mv (.t 1), 0, none⟩, ⟨1, (some 17), .len none (.t 16), 0, none⟩, ⟨2, (some 18), .mv (.c (.int .i64 (0))), 0, none⟩] [2, 7, 16, 17, 18])
 (.blk 0
 (.loop [2, 7, 16, 17, 18]
 (.seq
 (.reg false [⟨0, (some 19), .bin .lss (.t 18) (.t 17), 0, none⟩] [2, 7, 16, 17, 18, 19])
 (.seq
 (.cond (.t 19)
 (.skip)
 (.exit 0))
 (.seq
 (.blk 1
 (.seq
 (.reg false [⟨0, (some 20), .iaddr none 1 (.t 16) (.t 18), 0, none⟩, ⟨1, (some 21), .load none (.t 20), 0, none⟩, ⟨2, (some 9), .mv (.t 21), 0, none⟩] [2, 7, 9, 16, 17, 18])
 (.reg false [⟨0, (some 22), .mv (.t 7), 0, none⟩, ⟨1, (some 23), .load (some 3) (.t 2), 0, none⟩, ⟨2, (some 24), .mv (.t 9), 0, none⟩, ⟨3, (some 25), .call 166 [.t 23, .t 24], 2, none⟩, ⟨4, (some 26), .bsl 1 1 [.int .i64 (0)] [(0, 1, .t 25)], 0, none⟩, ⟨5, (some 27), .app 1 8 (.t 22) (.t 26), 0, none⟩, ⟨6, (some 7), .mv (.t 27), 0, none⟩] [2, 7, 16, 17, 18])))
 (.reg false [⟨0, (some 28), .bin .add (.t 18) (.c (.int .i64 (1))), 0, none⟩, ⟨1, (some 18), .mv (.t 28), 0, none⟩] [2, 7, 16, 17, 18])))))))
 (.seq
 (.reg false [⟨0, (some 29), .mv (.t 7), 0, none⟩, ⟨1, (some 4), .mv (.t 29), 0, none⟩, ⟨2, (some 5), .mv (.c (.int .i64 (0))), 0, none⟩] [4, 5])
 (.ret)))))

theorem ok119 : okF Tryz.prog 119 2 c119 [.tmp 4, .tmp 5] = true := by kernel_rfl

/-- (*dauber/draw.state).answer -/
def c120 : C :=
 .seq
 (.reg false [⟨0, (some 6), .mv (.c (.int .i64 (0))), 0, none⟩, ⟨1, (some 7), .mv (.c (.bool false)), 0, none⟩] [0, 1, 2])
 (.seq
 (.reg false [⟨0, (some 10), .mv (.t 0), 0, none⟩, ⟨1, (some 11), .mv (.t 1), 0, none⟩, ⟨2, (some 12), .mv (.t 2), 0, none⟩, ⟨3, (some 13), .nilc (.t 10), 0, none⟩, ⟨4, (some 14), .faddr 333 (.t 13), 0, none⟩, ⟨5, (some 15), .iaddr (some 17) 17 (.t 14) (.t 11), 0, none⟩, ⟨6, (some 16), .iaddr (some 17) 1 (.t 15) (.t 12), 0, none⟩, ⟨7, (some 17), .load none (.t 16), 0, none⟩, ⟨8, (some 8), .mv (.t 17), 0, none⟩] [0, 1, 2, 8])
 (.seq
 (.seq
 (.reg false [⟨0, (some 18), .mv (.t 8), 0, none⟩, ⟨1, (some 19), .bin .lss (.t 18) (.c (.int .i64 (0))), 0, none⟩] [0, 1, 2, 8, 19])
 (.cond (.t 19)
 (.seq
 (.reg false [⟨0, (some 6), .mv (.c (.int .i64 (0))), 0, none⟩, ⟨1, (some 7), .mv (.c (.bool false)), 0, none⟩] [6, 7])
 (.ret))
 (.skip)))
 (.seq
 (.reg false [⟨0, (some 20), .mv (.t 0), 0, none⟩, ⟨1, (some 21), .nilc (.t 20), 0, none⟩, ⟨2, (some 22), .faddr 6 (.t 21), 0, none⟩, ⟨3, (some 23), .faddr 2 (.t 22), 0, none⟩, ⟨4, (some 24), .load none (.t 23), 0, none⟩, ⟨5, (some 25), .mv (.t 8), 0, none⟩, ⟨6, (some 26), .iaddr none 4 (.t 24) (.t 25), 0, none⟩, ⟨7, (some 27), .faddr 3 (.t 26), 0, none⟩, ⟨8, (some 28), .load none (.t 27), 0, none⟩, ⟨9, (some 29), .iaddr none 1 (.t 28) (.c (.int .i64 (0))), 0, none⟩, ⟨10, (some 30), .load none (.t 29), 0, none⟩, ⟨11, (some 9), .mv (.t 30), 0, none⟩] [0, 1, 2, 9])
 (.seq
 (.reg false [⟨0, (some 31), .mv (.t 9), 0, none⟩, ⟨1, (some 32), .mv (.t 0), 0, none⟩, ⟨2, (some 33), .mv (.t 1), 0, none⟩, ⟨3, (some 34), .mv (.t 2), 0, none⟩, ⟨4, (some 35), .mv (.t 9), 0, none⟩, ⟨5, (some 36), .call 81 [.t 32, .t 33, .t 34, .t 35], 2, none⟩, ⟨6, (some 6), .mv (.t 31), 0, none⟩, ⟨7, (some 7), .mv (.t 36), 0, none⟩] [6, 7])
 (.ret)))))

theorem ok120 : okF Tryz.prog 120 3 c120 [.tmp 6, .tmp 7] = true := by kernel_rfl

/-- slices.Collect[int] -/
def c124 : C :=
 .seq
 (.reg false [⟨0, (some 2), .mv (.c (.nils)), 0, none⟩] [0])
 (.seq
 (.reg false [⟨0, (some 3), .mv (.t 0), 0, none⟩, ⟨1, (some 4), .call 168 [.c (.nils), .t 3], 2, none⟩, ⟨2, (some 2), .mv (.t 4), 0, none⟩] [2])
 (.ret))

theorem ok124 : okF Tryz.prog 124 1 c124 [.tmp 2] = true := by kernel_rfl

/-- dauber/draw.listed$1 -/
def c125 : C :=
 .seq
 (.reg false [⟨0, (some 4), .mv (.c (.bool false)), 0, none⟩] [0, 1, 2])
 (.seq
 (.reg false [⟨0, (some 5), .load none (.t 1), 0, none⟩, ⟨1, (some 6), .load none (.t 2), 0, none⟩, ⟨2, (some 7), .mv (.t 0), 0, none⟩, ⟨3, (some 8), .callv (.t 5) [.t 6, .t 7], 2, none⟩, ⟨4, (some 4), .mv (.t 8), 0, none⟩] [4])
 (.ret))

theorem ok125 : okF Tryz.prog 125 3 c125 [.tmp 4] = true := by kernel_rfl

/-- (*dauber/draw.state).halls$1 -/
def c126 : C :=
 .seq
 (.reg false [⟨0, (some 4), .mv (.c (.int .i64 (1))), 0, none⟩] [0, 1, 2, 4])
 (.blk 0
 (.loop [0, 1, 2, 4]
 (.seq
 (.seq
 (.reg false [⟨0, (some 5), .mv (.t 4), 0, none⟩, ⟨1, (some 6), .load none (.t 1), 0, none⟩, ⟨2, (some 7), .nilc (.t 6), 0, none⟩, ⟨3, (some 8), .faddr 0 (.t 7), 0, none⟩, ⟨4, (some 9), .faddr 3 (.t 8), 0, none⟩, ⟨5, (some 10), .load none (.t 9), 0, none⟩, ⟨6, (some 11), .bin .leq (.t 5) (.t 10), 0, none⟩] [0, 1, 2, 4, 11])
 (.cond (.t 11)
 (.skip)
 (.exit 0)))
 (.seq
 (.blk 1
 (.seq
 (.reg false [⟨0, (some 14), .load none (.t 2), 0, none⟩, ⟨1, (some 15), .mv (.t 4), 0, none⟩, ⟨2, (some 16), .callv (.t 14) [.t 15], 2, none⟩, ⟨3, (some 17), .mv (.t 16), 0, none⟩, ⟨4, (some 18), .mv (.t 0), 0, (some (17, true))⟩, ⟨5, (some 19), .mv (.t 4), 0, (some (17, true))⟩, ⟨6, (some 20), .callv (.t 18) [.t 19], 2, (some (17, true))⟩, ⟨7, (some 21), .un .not (.t 20), 0, (some (17, true))⟩, ⟨8, (some 22), .pick (.t 17) (.t 21) (.c (.bool false)), 0, none⟩] [0, 1, 2, 4, 22])
 (.cond (.t 22)
 (.ret)
 (.skip))))
 (.reg false [⟨0, (some 12), .mv (.t 4), 0, none⟩, ⟨1, (some 13), .bin .add (.t 12) (.c (.int .i64 (1))), 0, none⟩, ⟨2, (some 4), .mv (.t 13), 0, none⟩] [0, 1, 2, 4])))))

theorem ok126 : okF Tryz.prog 126 3 c126 [] = true := by kernel_rfl

/-- slices.Equal[[]int64,int64] -/
def c127 : C :=
 .seq
 (.reg false [⟨0, (some 4), .mv (.c (.bool false)), 0, none⟩] [0, 1])
 (.seq
 (.seq
 (.reg false [⟨0, (some 6), .mv (.t 0), 0, none⟩, ⟨1, (some 7), .len none (.t 6), 0, none⟩, ⟨2, (some 8), .mv (.t 1), 0, none⟩, ⟨3, (some 9), .len none (.t 8), 0, none⟩, ⟨4, (some 10), .bin .neq (.t 7) (.t 9), 0, none⟩] [0, 1, 10])
 (.cond (.t 10)
 (.seq
 (.reg false [⟨0, (some 4), .mv (.c (.bool false)), 0, none⟩] [4])
 (.ret))
 (.skip)))
 (.seq
 (.seq
 (.reg false [⟨0, (some 11), .mv (.t 0), 0, none⟩, ⟨1, (some 12), .len none (.t 11), 0, none⟩, ⟨2, (some 13), .mv (.c (.int .i64 (0))), 0, none⟩] [0, 1, 12, 13])
 (.blk 0
 (.loop [0, 1, 12, 13]
 (.seq
 (.reg false [⟨0, (some 14), .bin .lss (.t 13) (.t 12), 0, none⟩] [0, 1, 12, 13, 14])
 (.seq
 (.cond (.t 14)
 (.skip)
 (.exit 0))
 (.seq
 (.blk 1
 (.seq
 (.reg false [⟨0, (some 15), .mv (.t 13), 0, none⟩, ⟨1, (some 5), .mv (.t 15), 0, none⟩] [0, 1, 5, 12, 13])
 (.seq
 (.reg true [⟨0, (some 16), .mv (.t 0), 0, none⟩, ⟨1, (some 17), .mv (.t 5), 0, none⟩, ⟨2, (some 18), .iaddr none 1 (.t 16) (.t 17), 0, none⟩, ⟨4, (some 20), .mv (.t 1), 0, none⟩, ⟨5, (some 21), .mv (.t 5), 0, none⟩, ⟨6, (some 22), .iaddr none 1 (.t 20) (.t 21), 0, none⟩, ⟨3, (some 19), .load none (.t 18), 0, none⟩, ⟨7, (some 23), .load none (.t 22), 0, none⟩, ⟨8, (some 24), .bin .neq (.t 19) (.t 23), 0, none⟩] [0, 1, 12, 13, 24])
 (.cond (.t 24)
 (.seq
 (.reg false [⟨0, (some 4), .mv (.c (.bool false)), 0, none⟩] [4])
 (.ret))
 (.skip)))))
 (.reg false [⟨0, (some 25), .bin .add (.t 13) (.c (.int .i64 (1))), 0, none⟩, ⟨1, (some 13), .mv (.t 25), 0, none⟩] [0, 1, 12, 13])))))))
 (.seq
 (.reg false [⟨0, (some 4), .mv (.c (.bool true)), 0, none⟩] [4])
 (.ret))))

theorem ok127 : okF Tryz.prog 127 2 c127 [.tmp 4] = true := by kernel_rfl

/-- dauber/share.Fits -/
def c128 : C :=
 .seq
 (.reg false [⟨0, (some 4), .box 3 (.t 0), 0, none⟩, ⟨1, (some 8), .mv (.c (.bool false)), 0, none⟩] [1, 2, 3, 4])
 (.seq
 (.seq
 (.reg false [⟨0, (some 11), .load (some 3) (.t 4), 0, none⟩, ⟨1, (some 12), .call 88 [.t 11], 2, none⟩, ⟨2, (some 13), .bin .neq (.t 12) (.c (.int .i64 (0))), 0, none⟩, ⟨3, (some 14), .mv (.t 13), 0, none⟩, ⟨4, (some 15), .mv (.t 1), 0, (some (14, false))⟩, ⟨5, (some 16), .len none (.t 15), 0, (some (14, false))⟩, ⟨6, (some 17), .bin .lss (.t 16) (.c (.int .i64 (1))), 0, (some (14, false))⟩, ⟨7, (some 18), .pick (.t 14) (.c (.bool true)) (.t 17), 0, none⟩, ⟨8, (some 19), .mv (.t 18), 0, none⟩, ⟨9, (some 20), .mv (.t 1), 0, (some (19, false))⟩, ⟨10, (some 21), .len none (.t 20), 0, (some (19, false))⟩, ⟨11, (some 22), .bin .gtr (.t 21) (.c (.int .i64 (16))), 0, (some (19, false))⟩, ⟨12, (some 23), .pick (.t 19) (.c (.bool true)) (.t 22), 0, none⟩, ⟨13, (some 24), .mv (.t 23), 0, none⟩, ⟨14, (some 25), .load (some 3) (.t 4), 0, (some (24, false))⟩, ⟨15, (some 26), .mv (.t 1), 0, (some (24, false))⟩, ⟨16, (some 27), .call 165 [.t 25, .t 26], 2, (some (24, false))⟩, ⟨17, (some 28), .un .not (.t 27), 0, (some (24, false))⟩, ⟨18, (some 29), .pick (.t 24) (.c (.bool true)) (.t 28), 0, none⟩] [1, 2, 3, 4, 29])
 (.cond (.t 29)
 (.seq
 (.reg false [⟨0, (some 8), .mv (.c (.bool false)), 0, none⟩] [8])
 (.ret))
 (.skip)))
 (.seq
 (.seq
 (.reg false [⟨0, (some 30), .faddr 1 (.t 4), 0, none⟩, ⟨1, (some 31), .load none (.t 30), 0, none⟩, ⟨2, (some 32), .bin .sub (.t 31) (.c (.int .i64 (1))), 0, none⟩, ⟨3, (some 33), .mn [.c (.int .i64 (64)), .t 32], 0, none⟩, ⟨4, (some 34), .mv (.t 2), 0, none⟩, ⟨5, (some 35), .bsl 1 1 [.int .i64 (0)] [(0, 1, .t 34)], 0, none⟩, ⟨6, (some 36), .call 134 [.c (.int .i64 (1)), .t 33, .t 35], 2, none⟩, ⟨7, (some 37), .un .not (.t 36), 0, none⟩, ⟨8, (some 38), .mv (.t 37), 0, none⟩, ⟨9, (some 39), .load (some 3) (.t 4), 0, (some (38, false))⟩, ⟨10, (some 40), .mv (.t 3), 0, (some (38, false))⟩, ⟨11, (some 41), .bsl 1 1 [.int .i64 (0)] [(0, 1, .t 40)], 0, (some (38, false))⟩, ⟨12, (some 42), .call 140 [.t 39, .t 41], 2, (some (38, false))⟩, ⟨13, (some 43), .un .not (.t 42), 0, (some (38, false))⟩, ⟨14, (some 44), .pick (.t 38) (.c (.bool true)) (.t 43), 0, none⟩] [1, 2, 3, 4, 44])
 (.cond (.t 44)
 (.seq
 (.reg false [⟨0, (some 8), .mv (.c (.bool false)), 0, none⟩] [8])
 (.ret))
 (.skip)))
 (.seq
 (.reg false [⟨0, (some 9), .mv (.c (.int .i64 (1))), 0, none⟩] [1, 2, 3, 4, 9])
 (.seq
 (.seq
 (.reg false [⟨0, (some 45), .mv (.t 1), 0, none⟩, ⟨1, (some 46), .len none (.t 45), 0, none⟩, ⟨2, (some 47), .bin .sub (.t 46) (.c (.int .i64 (1))), 0, none⟩, ⟨3, (some 10), .mv (.t 47), 0, none⟩] [1, 2, 3, 4, 9, 10])
 (.blk 0
 (.loop [1, 2, 3, 4, 9, 10]
 (.seq
 (.seq
 (.reg false [⟨0, (some 48), .mv (.t 10), 0, none⟩, ⟨1, (some 49), .bin .geq (.t 48) (.c (.int .i64 (0))), 0, none⟩] [1, 2, 3, 4, 9, 10, 49])
 (.cond (.t 49)
 (.skip)
 (.exit 0)))
 (.seq
 (.blk 1
 (.reg true [⟨4, (some 56), .mv (.t 9), 0, none⟩, ⟨5, (some 57), .mv (.t 2), 0, none⟩, ⟨7, (some 59), .mv (.t 1), 0, none⟩, ⟨8, (some 60), .mv (.t 10), 0, none⟩, ⟨9, (some 61), .iaddr none 1 (.t 59) (.t 60), 0, none⟩, ⟨0, (some 52), .load (some 3) (.t 4), 0, none⟩, ⟨2, (some 54), .load (some 3) (.t 4), 0, none⟩, ⟨10, (some 62), .load none (.t 61), 0, none⟩, ⟨1, (some 53), .call 169 [.t 52], 1, none⟩, ⟨3, (some 55), .call 169 [.t 54], 1, none⟩, ⟨6, (some 58), .call 136 [.t 55, .t 56, .t 57], 1, none⟩, ⟨11, (some 63), .call 93 [.t 53, .t 58, .t 62], 1, none⟩, ⟨12, (some 9), .mv (.t 63), 0, none⟩] [1, 2, 3, 4, 9, 10]))
 (.reg false [⟨0, (some 50), .mv (.t 10), 0, none⟩, ⟨1, (some 51), .bin .sub (.t 50) (.c (.int .i64 (1))), 0, none⟩, ⟨2, (some 10), .mv (.t 51), 0, none⟩] [1, 2, 3, 4, 9, 10]))))))
 (.seq
 (.reg false [⟨0, (some 64), .mv (.t 9), 0, none⟩, ⟨1, (some 65), .load (some 3) (.t 4), 0, none⟩, ⟨2, (some 66), .mv (.t 3), 0, none⟩, ⟨3, (some 67), .call 166 [.t 65, .t 66], 2, none⟩, ⟨4, (some 68), .bin .eql (.t 64) (.t 67), 0, none⟩, ⟨5, (some 8), .mv (.t 68), 0, none⟩] [8])
 (.ret))))))

theorem ok128 : okF Tryz.prog 128 4 c128 [.tmp 8] = true := by kernel_rfl

/-- (*dauber/draw.state).reveal -/
def c129 : C :=
 .seq
 (.reg false [⟨0, (some 3), .box 4 (.t 1), 0, none⟩, ⟨1, (some 4), .mv (.c (.bool false)), 0, none⟩, ⟨2, (some 5), .mv (.c (.bool false)), 0, none⟩] [0, 3])
 (.seq
 (.seq
 (.reg true [⟨0, (some 8), .mv (.t 0), 0, none⟩, ⟨1, (some 9), .nilc (.t 8), 0, none⟩, ⟨2, (some 10), .faddr 0 (.t 9), 0, none⟩, ⟨5, (some 13), .mv (.t 0), 0, none⟩, ⟨6, (some 14), .nilc (.t 13), 0, none⟩, ⟨7, (some 15), .faddr 0 (.t 14), 0, none⟩, ⟨8, (some 16), .faddr 4 (.t 15), 0, none⟩, ⟨3, (some 11), .load (some 6) (.t 10), 0, none⟩, ⟨4, (some 12), .load (some 4) (.t 3), 0, none⟩, ⟨9, (some 17), .load none (.t 16), 0, none⟩, ⟨10, (some 18), .bin .add (.t 17) (.c (.int .i64 (1))), 0, none⟩, ⟨11, (some 19), .call 114 [.t 11, .t 12, .c (.int .i64 (4)), .t 18, .c (.bool false)], 2, none⟩, ⟨12, (some 20), .un .not (.t 19), 0, none⟩, ⟨13, (some 21), .mv (.t 20), 0, none⟩, ⟨14, (some 22), .mv (.t 0), 0, (some (21, false))⟩, ⟨15, (some 23), .faddr 0 (.t 3), 0, (some (21, false))⟩, ⟨16, (some 24), .load none (.t 23), 0, (some (21, false))⟩, ⟨17, (some 25), .call 79 [.t 22, .t 24], 2, (some (21, false))⟩, ⟨18, (some 26), .un .not (.t 25), 0, (some (21, false))⟩, ⟨19, (some 27), .pick (.t 21) (.c (.bool true)) (.t 26), 0, none⟩] [0, 3, 27])
 (.cond (.t 27)
 (.seq
 (.reg false [⟨0, (some 4), .mv (.c (.bool false)), 0, none⟩, ⟨1, (some 5), .mv (.c (.bool false)), 0, none⟩] [4, 5])
 (.ret))
 (.skip)))
 (.seq
 (.reg true [⟨0, (some 29), .mv (.t 0), 0, none⟩, ⟨1, (some 30), .nilc (.t 29), 0, none⟩, ⟨2, (some 31), .faddr 0 (.t 30), 0, none⟩, ⟨3, (some 32), .faddr 0 (.t 31), 0, none⟩, ⟨5, (some 34), .faddr 3 (.t 3), 0, none⟩, ⟨4, (some 33), .load (some 3) (.t 32), 0, none⟩, ⟨6, (some 35), .load none (.t 34), 0, none⟩, ⟨7, (some 36), .call 119 [.t 33, .t 35], 2, none⟩, ⟨8, (some 28), .mv (.t 36), 0, none⟩, ⟨9, (some 37), .ext 0 (.t 28), 0, none⟩, ⟨10, (some 38), .ext 1 (.t 28), 0, none⟩, ⟨11, (some 6), .mv (.t 37), 0, none⟩, ⟨12, (some 7), .mv (.t 38), 0, none⟩] [0, 3, 6, 7])
 (.seq
 (.reg true [⟨0, (some 39), .mv (.t 7), 0, none⟩, ⟨1, (some 40), .bin .eql (.t 39) (.c (.int .i64 (0))), 0, none⟩, ⟨2, (some 41), .mv (.t 40), 0, none⟩, ⟨3, (some 42), .mv (.t 6), 0, (some (41, true))⟩, ⟨4, (some 43), .mv (.t 0), 0, (some (41, true))⟩, ⟨5, (some 44), .faddr 0 (.t 3), 0, (some (41, true))⟩, ⟨7, (some 46), .nilc (.t 43), 0, (some (41, true))⟩, ⟨8, (some 47), .faddr 27 (.t 46), 0, (some (41, true))⟩, ⟨6, (some 45), .load none (.t 44), 0, (some (41, true))⟩, ⟨9, (some 48), .iaddr (some 17) 1 (.t 47) (.t 45), 0, (some (41, true))⟩, ⟨10, (some 49), .load none (.t 48), 0, (some (41, true))⟩, ⟨11, (some 50), .call 127 [.t 42, .t 49], 2, (some (41, true))⟩, ⟨12, (some 51), .pick (.t 41) (.t 50) (.c (.bool false)), 0, none⟩, ⟨13, (some 4), .mv (.c (.bool true)), 0, none⟩, ⟨14, (some 5), .mv (.t 51), 0, none⟩] [4, 5])
 (.ret))))

theorem ok129 : okF Tryz.prog 129 2 c129 [.tmp 4, .tmp 5] = true := by kernel_rfl

/-- (*dauber/draw.state).open -/
def c130 : C :=
 .seq
 (.reg false [⟨0, (some 3), .box 4 (.t 1), 0, none⟩, ⟨1, (some 4), .mv (.c (.bool false)), 0, none⟩, ⟨2, (some 5), .mv (.c (.bool false)), 0, none⟩] [0, 3])
 (.seq
 (.seq
 (.reg true [⟨0, (some 6), .mv (.t 0), 0, none⟩, ⟨1, (some 7), .nilc (.t 6), 0, none⟩, ⟨2, (some 8), .faddr 0 (.t 7), 0, none⟩, ⟨3, (some 9), .load (some 6) (.t 8), 0, none⟩, ⟨4, (some 10), .load (some 4) (.t 3), 0, none⟩, ⟨5, (some 11), .call 114 [.t 9, .t 10, .c (.int .i64 (5)), .c (.int .i64 (1)), .c (.bool true)], 2, none⟩, ⟨6, (some 12), .un .not (.t 11), 0, none⟩, ⟨7, (some 13), .mv (.t 12), 0, none⟩, ⟨8, (some 14), .mv (.t 0), 0, (some (13, false))⟩, ⟨9, (some 15), .faddr 2 (.t 3), 0, (some (13, false))⟩, ⟨10, (some 16), .load none (.t 15), 0, (some (13, false))⟩, ⟨11, (some 17), .call 74 [.t 14, .t 16], 2, (some (13, false))⟩, ⟨12, (some 18), .un .not (.t 17), 0, (some (13, false))⟩, ⟨13, (some 19), .pick (.t 13) (.c (.bool true)) (.t 18), 0, none⟩] [0, 3, 19])
 (.cond (.t 19)
 (.seq
 (.reg false [⟨0, (some 4), .mv (.c (.bool false)), 0, none⟩, ⟨1, (some 5), .mv (.c (.bool false)), 0, none⟩] [4, 5])
 (.ret))
 (.skip)))
 (.seq
 (.reg true [⟨0, (some 20), .mv (.t 0), 0, none⟩, ⟨1, (some 21), .faddr 2 (.t 3), 0, none⟩, ⟨3, (some 23), .faddr 0 (.t 3), 0, none⟩, ⟨5, (some 25), .faddr 3 (.t 3), 0, none⟩, ⟨2, (some 22), .load none (.t 21), 0, none⟩, ⟨4, (some 24), .load none (.t 23), 0, none⟩, ⟨6, (some 26), .load none (.t 25), 0, none⟩, ⟨7, (some 27), .iaddr none 1 (.t 26) (.c (.int .i64 (0))), 0, none⟩, ⟨8, (some 28), .load none (.t 27), 0, none⟩, ⟨9, (some 29), .call 81 [.t 20, .t 22, .t 24, .t 28], 2, none⟩, ⟨10, (some 4), .mv (.c (.bool true)), 0, none⟩, ⟨11, (some 5), .mv (.t 29), 0, none⟩] [4, 5])
 (.ret)))

theorem ok130 : okF Tryz.prog 130 2 c130 [.tmp 4, .tmp 5] = true := by kernel_rfl

/-- dauber/share.in -/
def c134 : C :=
 .seq
 (.reg false [⟨0, (some 3), .box 1 (.t 0), 0, none⟩, ⟨1, (some 4), .box 1 (.t 1), 0, none⟩, ⟨2, (some 6), .mv (.c (.bool false)), 0, none⟩] [2, 3, 4])
 (.seq
 (.reg false [⟨0, (some 7), .mv (.t 2), 0, none⟩, ⟨1, (some 8), .mkfn (.func 171) [] [.t 3, .t 4], 0, none⟩, ⟨2, (some 9), .call 110 [.t 7, .t 8], 2, none⟩, ⟨3, (some 10), .un .not (.t 9), 0, none⟩, ⟨4, (some 6), .mv (.t 10), 0, none⟩] [6])
 (.ret))

theorem ok134 : okF Tryz.prog 134 3 c134 [.tmp 6] = true := by kernel_rfl

/-- dauber/share.isPrime -/
def c135 : C :=
 .seq
 (.reg false [⟨0, (some 2), .mv (.c (.bool false)), 0, none⟩] [0])
 (.seq
 (.seq
 (.reg false [⟨0, (some 3), .mv (.c (.int .i64 (2))), 0, none⟩] [0, 3])
 (.blk 0
 (.loop [0, 3]
 (.seq
 (.seq
 (.reg false [⟨0, (some 4), .mv (.t 3), 0, none⟩, ⟨1, (some 5), .mv (.t 3), 0, none⟩, ⟨2, (some 6), .bin .mul (.t 4) (.t 5), 0, none⟩, ⟨3, (some 7), .mv (.t 0), 0, none⟩, ⟨4, (some 8), .bin .leq (.t 6) (.t 7), 0, none⟩] [0, 3, 8])
 (.cond (.t 8)
 (.skip)
 (.exit 0)))
 (.seq
 (.blk 1
 (.seq
 (.reg false [⟨0, (some 11), .mv (.t 0), 0, none⟩, ⟨1, (some 12), .mv (.t 3), 0, none⟩, ⟨2, (some 13), .bin .rem (.t 11) (.t 12), 0, none⟩, ⟨3, (some 14), .bin .eql (.t 13) (.c (.int .i64 (0))), 0, none⟩] [0, 3, 14])
 (.cond (.t 14)
 (.seq
 (.reg false [⟨0, (some 2), .mv (.c (.bool false)), 0, none⟩] [2])
 (.ret))
 (.skip))))
 (.reg false [⟨0, (some 9), .mv (.t 3), 0, none⟩, ⟨1, (some 10), .bin .add (.t 9) (.c (.int .i64 (1))), 0, none⟩, ⟨2, (some 3), .mv (.t 10), 0, none⟩] [0, 3]))))))
 (.seq
 (.reg false [⟨0, (some 15), .mv (.t 0), 0, none⟩, ⟨1, (some 16), .bin .gtr (.t 15) (.c (.int .i64 (1))), 0, none⟩, ⟨2, (some 2), .mv (.t 16), 0, none⟩] [2])
 (.ret)))

theorem ok135 : okF Tryz.prog 135 1 c135 [.tmp 2] = true := by kernel_rfl

/-- (dauber/share.modulus).power -/
def c136 : C :=
 .seq
 (.reg false [⟨0, (some 3), .box 1 (.t 0), 0, none⟩, ⟨1, (some 6), .mv (.c (.int .i64 (0))), 0, none⟩] [1, 2, 3])
 (.seq
 (.reg false [⟨0, (some 7), .alloc [.nilf] 1, 0, none⟩, ⟨1, none, .store 1 (.t 7) (.c (.clo (.func 93) [] [])), 0, none⟩] [1, 2, 3, 7])
 (.seq
 (.reg false [⟨0, (some 8), .mkfn (.func 173) [] [.t 7, .t 3], 0, none⟩, ⟨1, (some 9), .mv (.t 1), 0, none⟩, ⟨2, (some 10), .load none (.t 3), 0, none⟩, ⟨3, (some 11), .bin .rem (.t 9) (.t 10), 0, none⟩, ⟨4, (some 12), .mv (.t 2), 0, none⟩, ⟨5, (some 13), .call 172 [.t 8, .c (.int .i64 (1)), .t 11, .t 12], 2, none⟩, ⟨6, (some 6), .mv (.t 13), 0, none⟩] [6])
 (.ret)))

theorem ok136 : okF Tryz.prog 136 3 c136 [.tmp 6] = true := by kernel_rfl

/-- (*dauber/draw.state).places -/
def c137 : C :=
 .seq
 (.reg false [⟨0, (some 2), .box 1 (.t 0), 0, none⟩, ⟨1, (some 3), .box 1 (.t 1), 0, none⟩, ⟨2, (some 4), .mv (.c (.nilf)), 0, none⟩] [2, 3])
 (.seq
 (.reg false [⟨0, (some 5), .mkfn (.func 174) [] [.t 2, .t 3], 0, none⟩, ⟨1, (some 4), .mv (.t 5), 0, none⟩] [4])
 (.ret))

theorem ok137 : okF Tryz.prog 137 2 c137 [.tmp 4] = true := by kernel_rfl

/-- slices.Contains[[]int,int] -/
def c138 : C :=
 .seq
 (.reg false [⟨0, (some 4), .mv (.c (.bool false)), 0, none⟩] [0, 1])
 (.seq
 (.reg false [⟨0, (some 5), .mv (.t 0), 0, none⟩, ⟨1, (some 6), .mv (.t 1), 0, none⟩, ⟨2, (some 7), .call 176 [.t 5, .t 6], 2, none⟩, ⟨3, (some 8), .bin .geq (.t 7) (.c (.int .i64 (0))), 0, none⟩, ⟨4, (some 4), .mv (.t 8), 0, none⟩] [4])
 (.ret))

theorem ok138 : okF Tryz.prog 138 2 c138 [.tmp 4] = true := by kernel_rfl

/-- (*dauber/field.Field).Value -/
def c139 : C :=
 .seq
 (.reg false [⟨0, (some 6), .mv (.c (.int .i64 (0))), 0, none⟩, ⟨1, (some 7), .mv (.c (.int .i64 (0))), 0, none⟩] [0, 1, 2])
 (.seq
 (.seq
 (.reg false [⟨0, (some 9), .mv (.t 0), 0, none⟩, ⟨1, (some 10), .mv (.t 1), 0, none⟩, ⟨2, (some 11), .call 177 [.t 9, .t 10], 2, none⟩, ⟨3, (some 8), .mv (.t 11), 0, none⟩] [0, 1, 2, 8])
 (.seq
 (.reg false [⟨0, (some 12), .mv (.t 8), 0, none⟩, ⟨1, (some 13), .bin .neq (.t 12) (.c (.int .i64 (0))), 0, none⟩] [0, 1, 2, 8, 13])
 (.cond (.t 13)
 (.seq
 (.reg false [⟨0, (some 14), .mv (.t 8), 0, none⟩, ⟨1, (some 6), .mv (.c (.int .i64 (0))), 0, none⟩, ⟨2, (some 7), .mv (.t 14), 0, none⟩] [6, 7])
 (.ret))
 (.skip))))
 (.seq
 (.reg false [⟨0, (some 15), .mv (.t 0), 0, none⟩, ⟨1, (some 16), .mv (.t 1), 0, none⟩, ⟨2, (some 17), .mv (.t 0), 0, none⟩, ⟨3, (some 18), .mv (.t 2), 0, none⟩, ⟨4, (some 19), .call 179 [.t 17, .t 18], 2, none⟩, ⟨5, (some 20), .call 178 [.t 15, .t 16, .t 19], 2, none⟩, ⟨6, (some 6), .mv (.t 20), 0, none⟩, ⟨7, (some 7), .mv (.c (.int .i64 (0))), 0, none⟩] [6, 7])
 (.ret)))

theorem ok139 : okF Tryz.prog 139 3 c139 [.tmp 6, .tmp 7] = true := by kernel_rfl

/-- (dauber/share.Group).secrets -/
def c140 : C :=
 .seq
 (.reg false [⟨0, (some 2), .box 3 (.t 0), 0, none⟩, ⟨1, (some 4), .mv (.c (.bool false)), 0, none⟩] [1, 2])
 (.seq
 (.reg false [⟨0, (some 5), .faddr 1 (.t 2), 0, none⟩, ⟨1, (some 6), .load none (.t 5), 0, none⟩, ⟨2, (some 7), .bin .sub (.t 6) (.c (.int .i64 (1))), 0, none⟩, ⟨3, (some 8), .mv (.t 1), 0, none⟩, ⟨4, (some 9), .call 134 [.c (.int .i64 (0)), .t 7, .t 8], 2, none⟩, ⟨5, (some 4), .mv (.t 9), 0, none⟩] [4])
 (.ret))

theorem ok140 : okF Tryz.prog 140 2 c140 [.tmp 4] = true := by kernel_rfl

/-- dauber/field.primes -/
def c142 : C :=
 .seq
 (.reg false [⟨0, (some 2), .mv (.c (.nils)), 0, none⟩] [0])
 (.seq
 (.reg false [⟨0, (some 3), .nilo 1, 0, none⟩] [0, 3])
 (.seq
 (.seq
 (.reg false [⟨0, (some 4), .mv (.c (.int .i64 (2))), 0, none⟩] [0, 3, 4])
 (.blk 0
 (.loop [0, 3, 4]
 (.seq
 (.seq
 (.reg false [⟨0, (some 5), .mv (.t 4), 0, none⟩, ⟨1, (some 6), .mv (.t 4), 0, none⟩, ⟨2, (some 7), .bin .mul (.t 5) (.t 6), 0, none⟩, ⟨3, (some 8), .mv (.t 0), 0, none⟩, ⟨4, (some 9), .bin .leq (.t 7) (.t 8), 0, none⟩] [0, 3, 4, 9])
 (.cond (.t 9)
 (.skip)
 (.exit 0)))
 (.seq
 (.blk 1
 (.seq
 (.reg false [⟨0, (some 12), .mv (.t 0), 0, none⟩, ⟨1, (some 13), .mv (.t 4), 0, none⟩, ⟨2, (some 14), .bin .rem (.t 12) (.t 13), 0, none⟩, ⟨3, (some 15), .bin .eql (.t 14) (.c (.int .i64 (0))), 0, none⟩] [0, 3, 4, 15])
 (.cond (.t 15)
 (.seq
 (.reg false [⟨0, (some 16), .mv (.t 3), 0, none⟩, ⟨1, (some 17), .mv (.t 4), 0, none⟩, ⟨2, (some 18), .bsl 1 1 [.int .i64 (0)] [(0, 1, .t 17)], 0, none⟩, ⟨3, (some 19), .app 1 8 (.t 16) (.t 18), 0, none⟩, ⟨4, (some 3), .mv (.t 19), 0, none⟩] [0, 3, 4])
 (.blk 2
 (.loop [0, 3, 4]
 (.seq
 (.seq
 (.reg false [⟨0, (some 20), .mv (.t 0), 0, none⟩, ⟨1, (some 21), .mv (.t 4), 0, none⟩, ⟨2, (some 22), .bin .rem (.t 20) (.t 21), 0, none⟩, ⟨3, (some 23), .bin .eql (.t 22) (.c (.int .i64 (0))), 0, none⟩] [0, 3, 4, 23])
 (.cond (.t 23)
 (.skip)
 (.exit 2)))
 (.blk 3
 (.reg false [⟨0, (some 24), .mv (.t 0), 0, none⟩, ⟨1, (some 25), .mv (.t 4), 0, none⟩, ⟨2, (some 26), .bin .quo (.t 24) (.t 25), 0, none⟩, ⟨3, (some 0), .mv (.t 26), 0, none⟩] [0, 3, 4]))))))
 (.skip))))
 (.reg false [⟨0, (some 10), .mv (.t 4), 0, none⟩, ⟨1, (some 11), .bin .add (.t 10) (.c (.int .i64 (1))), 0, none⟩, ⟨2, (some 4), .mv (.t 11), 0, none⟩] [0, 3, 4]))))))
 (.seq
 (.seq
 (.reg false [⟨0, (some 27), .mv (.t 0), 0, none⟩, ⟨1, (some 28), .bin .gtr (.t 27) (.c (.int .i64 (1))), 0, none⟩] [0, 3, 28])
 (.cond (.t 28)
 (.reg false [⟨0, (some 29), .mv (.t 3), 0, none⟩, ⟨1, (some 30), .mv (.t 0), 0, none⟩, ⟨2, (some 31), .bsl 1 1 [.int .i64 (0)] [(0, 1, .t 30)], 0, none⟩, ⟨3, (some 32), .app 1 8 (.t 29) (.t 31), 0, none⟩, ⟨4, (some 3), .mv (.t 32), 0, none⟩] [3])
 (.skip)))
 (.seq
 (.reg false [⟨0, (some 33), .mv (.t 3), 0, none⟩, ⟨1, (some 2), .mv (.t 33), 0, none⟩] [2])
 (.ret)))))

theorem ok142 : okF Tryz.prog 142 1 c142 [.tmp 2] = true := by kernel_rfl

/-- (*dauber/field.Field).first -/
def c143 : C :=
 .seq
 (.reg false [⟨0, (some 2), .box 1 (.t 0), 0, none⟩, ⟨1, (some 3), .box 1 (.t 1), 0, none⟩, ⟨2, (some 4), .mv (.c (.int .i64 (0))), 0, none⟩] [2, 3])
 (.seq
 (.reg false [⟨0, (some 7), .load none (.t 2), 0, none⟩, ⟨1, (some 8), .nilc (.t 7), 0, none⟩, ⟨2, (some 9), .faddr 1 (.t 8), 0, none⟩, ⟨3, (some 10), .load none (.t 9), 0, none⟩, ⟨4, (some 11), .bin .sub (.t 10) (.c (.int .i64 (1))), 0, none⟩, ⟨5, (some 12), .call 142 [.t 11], 2, none⟩, ⟨6, (some 5), .mv (.t 12), 0, none⟩] [2, 3, 5])
 (.seq
 (.reg false [⟨0, (some 6), .alloc [.int .i64 (0)] 1, 0, none⟩, ⟨1, none, .store 1 (.t 6) (.c (.int .i64 (1))), 0, none⟩] [2, 3, 5, 6])
 (.blk 0
 (.loop [2, 3, 5, 6]
 (.seq
 (.blk 1
 (.seq
 (.reg false [⟨0, (some 15), .mv (.t 5), 0, none⟩, ⟨1, (some 16), .mkfn (.func 181) [] [.t 3, .t 6, .t 2], 0, none⟩, ⟨2, (some 17), .call 180 [.t 15, .t 16], 2, none⟩, ⟨3, (some 18), .un .not (.t 17), 0, none⟩] [2, 3, 5, 6, 18])
 (.cond (.t 18)
 (.seq
 (.reg false [⟨0, (some 19), .load none (.t 6), 0, none⟩, ⟨1, (some 4), .mv (.t 19), 0, none⟩] [4])
 (.ret))
 (.skip))))
 (.seq
 (.seq
 (.reg false [⟨0, (some 20), .load none (.t 6), 0, none⟩] [2, 3, 5, 20])
 (.reg false [⟨0, (some 6), .alloc [.int .i64 (0)] 1, 0, none⟩, ⟨1, none, .store 1 (.t 6) (.t 20), 0, none⟩] [2, 3, 5, 6]))
 (.reg false [⟨0, (some 13), .load none (.t 6), 0, none⟩, ⟨1, (some 14), .bin .add (.t 13) (.c (.int .i64 (1))), 0, none⟩, ⟨2, none, .store 1 (.t 6) (.t 14), 0, none⟩] [2, 3, 5, 6])))))))

theorem ok143 : okF Tryz.prog 143 2 c143 [.tmp 4] = true := by kernel_rfl

/-- dauber/field.least -/
def c144 : C :=
 .seq
 (.reg false [⟨0, (some 6), .mv (.c (.nils)), 0, none⟩] [6])
 (.bad)

theorem ok144 : okF Tryz.prog 144 3 c144 [.tmp 6] = true := by kernel_rfl

/-- dauber/field.newTables -/
def c145 : C :=
 .seq
 (.reg false [⟨0, (some 2), .box 3 (.t 0), 0, none⟩, ⟨1, (some 3), .box 1 (.t 1), 0, none⟩, ⟨2, (some 4), .mv (.c (.nilp)), 0, none⟩] [2, 3])
 (.seq
 (.reg true [⟨1, (some 11), .faddr 2 (.t 2), 0, none⟩, ⟨0, (some 10), .load (some 3) (.t 2), 0, none⟩, ⟨2, (some 12), .load none (.t 11), 0, none⟩, ⟨3, (some 13), .mksl 1 8 [.int .i64 (0)] (.t 12) (.t 12), 0, none⟩, ⟨4, (some 14), .build [.int .i64 (0), .nils, .int .i64 (0), .nils, .nils] [(0, 3, .t 10), (4, 1, .t 13)], 0, none⟩, ⟨5, (some 15), .box 5 (.t 14), 0, none⟩, ⟨6, (some 5), .mv (.t 15), 0, none⟩] [2, 3, 5])
 (.seq
 (.reg false [⟨0, (some 6), .alloc [.int .i64 (0)] 1, 0, none⟩, ⟨1, none, .store 1 (.t 6) (.c (.int .i64 (1))), 0, none⟩] [2, 3, 5, 6])
 (.seq
 (.reg false [⟨0, (some 16), .mkfn (.func 187) [] [.t 6, .t 2, .t 3], 0, none⟩, ⟨1, (some 7), .mv (.t 16), 0, none⟩] [2, 5, 7])
 (.seq
 (.seq
 (.reg false [⟨0, (some 17), .faddr 2 (.t 2), 0, none⟩, ⟨1, (some 18), .load none (.t 17), 0, none⟩, ⟨2, (some 19), .bin .sub (.t 18) (.c (.int .i64 (1))), 0, none⟩, ⟨3, (some 20), .mv (.c (.int .i64 (0))), 0, none⟩] [5, 7, 19, 20])
 (.blk 0
 (.loop [5, 7, 19, 20]
 (.seq
 (.reg false [⟨0, (some 21), .bin .lss (.t 20) (.t 19), 0, none⟩] [5, 7, 19, 20, 21])
 (.seq
 (.cond (.t 21)
 (.skip)
 (.exit 0))
 (.seq
 (.blk 1
 (.seq
 (.reg false [⟨0, (some 22), .mv (.t 20), 0, none⟩, ⟨1, (some 8), .mv (.t 22), 0, none⟩] [5, 7, 8, 19, 20])
 (.seq
 (.reg false [⟨0, (some 23), .mv (.t 7), 0, none⟩, ⟨1, (some 24), .callv (.t 23) [], 2, none⟩, ⟨2, (some 9), .mv (.t 24), 0, none⟩] [5, 7, 8, 9, 19, 20])
 (.seq
 (.reg false [⟨0, (some 25), .mv (.t 5), 0, none⟩, ⟨1, (some 26), .mv (.t 5), 0, none⟩, ⟨2, (some 27), .nilc (.t 26), 0, none⟩, ⟨3, (some 28), .faddr 3 (.t 27), 0, none⟩, ⟨4, (some 29), .load none (.t 28), 0, none⟩, ⟨5, (some 30), .mv (.t 9), 0, none⟩, ⟨6, (some 31), .bsl 1 1 [.int .i64 (0)] [(0, 1, .t 30)], 0, none⟩, ⟨7, (some 32), .app 1 8 (.t 29) (.t 31), 0, none⟩, ⟨8, (some 33), .nilc (.t 25), 0, none⟩, ⟨9, (some 34), .faddr 3 (.t 33), 0, none⟩, ⟨10, none, .store 1 (.t 34) (.t 32), 0, none⟩] [5, 7, 8, 9, 19, 20])
 (.reg false [⟨0, (some 35), .mv (.t 5), 0, none⟩, ⟨1, (some 36), .nilc (.t 35), 0, none⟩, ⟨2, (some 37), .faddr 4 (.t 36), 0, none⟩, ⟨3, (some 38), .load none (.t 37), 0, none⟩, ⟨4, (some 39), .mv (.t 9), 0, none⟩, ⟨5, (some 40), .mv (.t 8), 0, none⟩, ⟨6, (some 41), .iaddr none 1 (.t 38) (.t 39), 0, none⟩, ⟨7, none, .store 1 (.t 41) (.t 40), 0, none⟩] [5, 7, 19, 20])))))
 (.reg false [⟨0, (some 42), .bin .add (.t 20) (.c (.int .i64 (1))), 0, none⟩, ⟨1, (some 20), .mv (.t 42), 0, none⟩] [5, 7, 19, 20])))))))
 (.seq
 (.reg false [⟨0, (some 43), .mv (.t 5), 0, none⟩, ⟨1, (some 4), .mv (.t 43), 0, none⟩] [4])
 (.ret))))))

theorem ok145 : okF Tryz.prog 145 2 c145 [.tmp 4] = true := by kernel_rfl

/-- (*dauber/field.Field).areElements -/
def c146 : C :=
 .seq
 (.reg false [⟨0, (some 2), .box 1 (.t 0), 0, none⟩, ⟨1, (some 4), .mv (.c (.bool false)), 0, none⟩] [1, 2])
 (.seq
 (.reg false [⟨0, (some 5), .mv (.t 1), 0, none⟩, ⟨1, (some 6), .mkfn (.func 189) [] [.t 2], 0, none⟩, ⟨2, (some 7), .call 180 [.t 5, .t 6], 2, none⟩, ⟨3, (some 8), .un .not (.t 7), 0, none⟩, ⟨4, (some 4), .mv (.t 8), 0, none⟩] [4])
 (.ret))

theorem ok146 : okF Tryz.prog 146 2 c146 [.tmp 4] = true := by kernel_rfl

/-- dauber/field.different -/
def c147 : C :=
 .seq
 (.reg false [⟨0, (some 2), .mv (.c (.bool false)), 0, none⟩] [0])
 (.seq
 (.reg false [⟨0, (some 6), .mkm, 0, none⟩, ⟨1, (some 3), .mv (.t 6), 0, none⟩] [0, 3])
 (.seq
 (.seq
 (.reg false [⟨0, (some 7), .mv (.t 0), 0, none⟩, ⟨1, (some 8), .len none (.t 7), 0, none⟩, ⟨2, (some 9), .mv (.c (.int .i64 (0))), 0, none⟩] [3, 7, 8, 9])
 (.blk 0
 (.loop [3, 7, 8, 9]
 (.seq
 (.reg false [⟨0, (some 10), .bin .lss (.t 9) (.t 8), 0, none⟩] [3, 7, 8, 9, 10])
 (.seq
 (.cond (.t 10)
 (.skip)
 (.exit 0))
 (.seq
 (.blk 1
 (.seq
 (.reg false [⟨0, (some 11), .iaddr none 1 (.t 7) (.t 9), 0, none⟩, ⟨1, (some 12), .load none (.t 11), 0, none⟩, ⟨2, (some 5), .mv (.t 12), 0, none⟩] [3, 5, 7, 8, 9])
 (.seq
 (.seq
 (.reg false [⟨0, (some 13), .mv (.t 3), 0, none⟩, ⟨1, (some 14), .mv (.t 5), 0, none⟩, ⟨2, (some 15), .lkp 0 (.bool false) false (.t 13) (.t 14), 0, none⟩] [3, 5, 7, 8, 9, 15])
 (.cond (.t 15)
 (.seq
 (.reg false [⟨0, (some 2), .mv (.c (.bool false)), 0, none⟩] [2])
 (.ret))
 (.skip)))
 (.reg false [⟨0, (some 16), .mv (.t 3), 0, none⟩, ⟨1, (some 17), .mv (.t 5), 0, none⟩, ⟨2, none, .mput 0 (.t 16) (.t 17) (.c (.bool true)), 0, none⟩] [3, 7, 8, 9]))))
 (.reg false [⟨0, (some 18), .bin .add (.t 9) (.c (.int .i64 (1))), 0, none⟩, ⟨1, (some 9), .mv (.t 18), 0, none⟩] [3, 7, 8, 9])))))))
 (.seq
 (.reg false [⟨0, (some 2), .mv (.c (.bool true)), 0, none⟩] [2])
 (.ret))))

theorem ok147 : okF Tryz.prog 147 1 c147 [.tmp 2] = true := by kernel_rfl

/-- (*dauber/field.Field).through -/
def c148 : C :=
 .seq
 (.reg false [⟨0, (some 6), .mv (.c (.nils)), 0, none⟩] [0, 1, 2])
 (.seq
 (.reg false [⟨0, (some 7), .mv (.c (.nils)), 0, none⟩] [0, 1, 2, 7])
 (.seq
 (.reg false [⟨0, (some 12), .bsl 1 1 [.int .i64 (0)] [(0, 1, .c (.int .i64 (1)))], 0, none⟩, ⟨1, (some 8), .mv (.t 12), 0, none⟩] [0, 1, 2, 7, 8])
 (.seq
 (.seq
 (.reg false [⟨0, (some 13), .mv (.t 1), 0, none⟩, ⟨1, (some 14), .len none (.t 13), 0, none⟩, ⟨2, (some 15), .mv (.c (.int .i64 (0))), 0, none⟩] [0, 2, 7, 8, 13, 14, 15])
 (.blk 0
 (.loop [0, 2, 7, 8, 13, 14, 15]
 (.seq
 (.reg false [⟨0, (some 16), .bin .lss (.t 15) (.t 14), 0, none⟩] [0, 2, 7, 8, 13, 14, 15, 16])
 (.seq
 (.cond (.t 16)
 (.skip)
 (.exit 0))
 (.seq
 (.blk 1
 (.seq
 (.reg false [⟨0, (some 17), .mv (.t 15), 0, none⟩, ⟨1, (some 18), .iaddr none 1 (.t 13) (.t 15), 0, none⟩, ⟨2, (some 19), .load none (.t 18), 0, none⟩, ⟨3, (some 9), .mv (.t 17), 0, none⟩, ⟨4, (some 10), .mv (.t 19), 0, none⟩] [0, 2, 7, 8, 9, 10, 13, 14, 15])
 (.seq
 (.reg true [⟨0, (some 20), .mv (.t 0), 0, none⟩, ⟨1, (some 21), .nilc (.t 20), 0, none⟩, ⟨2, (some 22), .faddr 0 (.t 21), 0, none⟩, ⟨4, (some 24), .mv (.t 0), 0, none⟩, ⟨5, (some 25), .nilc (.t 24), 0, none⟩, ⟨6, (some 26), .faddr 0 (.t 25), 0, none⟩, ⟨8, (some 28), .mv (.t 2), 0, none⟩, ⟨9, (some 29), .mv (.t 9), 0, none⟩, ⟨10, (some 30), .iaddr none 1 (.t 28) (.t 29), 0, none⟩, ⟨12, (some 32), .mv (.t 0), 0, none⟩, ⟨13, (some 33), .mv (.t 7), 0, none⟩, ⟨14, (some 34), .mv (.t 10), 0, none⟩, ⟨19, (some 39), .mv (.t 0), 0, none⟩, ⟨20, (some 40), .nilc (.t 39), 0, none⟩, ⟨21, (some 41), .faddr 0 (.t 40), 0, none⟩, ⟨23, (some 43), .mv (.t 0), 0, none⟩, ⟨24, (some 44), .mv (.t 8), 0, none⟩, ⟨25, (some 45), .mv (.t 10), 0, none⟩, ⟨3, (some 23), .load none (.t 22), 0, none⟩, ⟨30, (some 50), .nilc (.t 23), 0, none⟩, ⟨31, (some 51), .mv (.t 23), 0, none⟩, ⟨7, (some 27), .load none (.t 26), 0, none⟩, ⟨16, (some 36), .nilc (.t 27), 0, none⟩, ⟨17, (some 37), .mv (.t 27), 0, none⟩, ⟨11, (some 31), .load none (.t 30), 0, none⟩, ⟨22, (some 42), .load none (.t 41), 0, none⟩, ⟨27, (some 47), .nilc (.t 42), 0, none⟩, ⟨28, (some 48), .mv (.t 42), 0, none⟩, ⟨15, (some 35), .call 178 [.t 32, .t 33, .t 34], 1, none⟩, ⟨18, (some 38), .inv "dauber/field.difference" (.t 37) [.t 31, .t 35], 1, none⟩, ⟨26, (some 46), .call 178 [.t 43, .t 44, .t 45], 1, none⟩, ⟨29, (some 49), .inv "dauber/field.inverse" (.t 48) [.t 46], 1, none⟩, ⟨32, (some 52), .inv "dauber/field.product" (.t 51) [.t 38, .t 49], 1, none⟩, ⟨33, (some 11), .mv (.t 52), 0, none⟩] [0, 2, 7, 8, 10, 11, 13, 14, 15])
 (.seq
 (.reg false [⟨0, (some 53), .mv (.t 0), 0, none⟩, ⟨1, (some 54), .mv (.t 7), 0, none⟩, ⟨2, (some 55), .mv (.t 11), 0, none⟩, ⟨3, (some 56), .mv (.t 8), 0, none⟩, ⟨4, (some 57), .call 190 [.t 53, .t 54, .t 55, .t 56], 2, none⟩, ⟨5, (some 7), .mv (.t 57), 0, none⟩] [0, 2, 7, 8, 10, 13, 14, 15])
 (.reg false [⟨0, (some 58), .mv (.t 0), 0, none⟩, ⟨1, (some 59), .mv (.t 8), 0, none⟩, ⟨2, (some 60), .mv (.t 0), 0, none⟩, ⟨3, (some 61), .nilc (.t 60), 0, none⟩, ⟨4, (some 62), .faddr 0 (.t 61), 0, none⟩, ⟨5, (some 63), .load none (.t 62), 0, none⟩, ⟨6, (some 64), .mv (.t 10), 0, none⟩, ⟨7, (some 65), .inv "dauber/field.difference" (.t 63) [.c (.int .i64 (0)), .t 64], 2, none⟩, ⟨8, (some 66), .bsl 1 2 [.int .i64 (0), .int .i64 (0)] [(0, 1, .t 65), (1, 1, .c (.int .i64 (1)))], 0, none⟩, ⟨9, (some 67), .call 191 [.t 58, .t 59, .t 66], 2, none⟩, ⟨10, (some 8), .mv (.t 67), 0, none⟩] [0, 2, 7, 8, 13, 14, 15])))))
 (.reg false [⟨0, (some 68), .bin .add (.t 15) (.c (.int .i64 (1))), 0, none⟩, ⟨1, (some 15), .mv (.t 68), 0, none⟩] [0, 2, 7, 8, 13, 14, 15])))))))
 (.seq
 (.reg false [⟨0, (some 69), .mv (.t 7), 0, none⟩, ⟨1, (some 6), .mv (.t 69), 0, none⟩] [6])
 (.ret)))))

theorem ok148 : okF Tryz.prog 148 3 c148 [.tmp 6] = true := by kernel_rfl

/-- dauber/share.checkPoly -/
def c157 : C :=
 .seq
 (.reg false [⟨0, (some 2), .box 3 (.t 0), 0, none⟩, ⟨1, (some 4), .mv (.c (.int .i64 (0))), 0, none⟩] [1, 2])
 (.seq
 (.seq
 (.reg false [⟨0, (some 6), .load (some 3) (.t 2), 0, none⟩, ⟨1, (some 7), .call 88 [.t 6], 2, none⟩, ⟨2, (some 5), .mv (.t 7), 0, none⟩] [1, 2, 5])
 (.seq
 (.reg false [⟨0, (some 8), .mv (.t 5), 0, none⟩, ⟨1, (some 9), .bin .neq (.t 8) (.c (.int .i64 (0))), 0, none⟩] [1, 2, 5, 9])
 (.cond (.t 9)
 (.seq
 (.reg false [⟨0, (some 10), .mv (.t 5), 0, none⟩, ⟨1, (some 4), .mv (.t 10), 0, none⟩] [4])
 (.ret))
 (.skip))))
 (.seq
 (.seq
 (.reg false [⟨0, (some 11), .mv (.t 1), 0, none⟩, ⟨1, (some 12), .len none (.t 11), 0, none⟩, ⟨2, (some 13), .bin .lss (.t 12) (.c (.int .i64 (1))), 0, none⟩, ⟨3, (some 14), .mv (.t 13), 0, none⟩, ⟨4, (some 15), .mv (.t 1), 0, (some (14, false))⟩, ⟨5, (some 16), .len none (.t 15), 0, (some (14, false))⟩, ⟨6, (some 17), .bin .gtr (.t 16) (.c (.int .i64 (16))), 0, (some (14, false))⟩, ⟨7, (some 18), .pick (.t 14) (.c (.bool true)) (.t 17), 0, none⟩] [1, 2, 18])
 (.cond (.t 18)
 (.seq
 (.reg false [⟨0, (some 4), .mv (.c (.int .i64 (2))), 0, none⟩] [4])
 (.ret))
 (.skip)))
 (.seq
 (.seq
 (.reg false [⟨0, (some 19), .load (some 3) (.t 2), 0, none⟩, ⟨1, (some 20), .mv (.t 1), 0, none⟩, ⟨2, (some 21), .call 140 [.t 19, .t 20], 2, none⟩, ⟨3, (some 22), .un .not (.t 21), 0, none⟩] [22])
 (.cond (.t 22)
 (.seq
 (.reg false [⟨0, (some 4), .mv (.c (.int .i64 (1))), 0, none⟩] [4])
 (.ret))
 (.skip)))
 (.seq
 (.reg false [⟨0, (some 4), .mv (.c (.int .i64 (0))), 0, none⟩] [4])
 (.ret)))))

theorem ok157 : okF Tryz.prog 157 2 c157 [.tmp 4] = true := by kernel_rfl

/-- (dauber/share.Group).value -/
def c158 : C :=
 .seq
 (.reg false [⟨0, (some 3), .box 3 (.t 0), 0, none⟩, ⟨1, (some 6), .mv (.c (.int .i64 (0))), 0, none⟩] [1, 2, 3])
 (.seq
 (.reg false [⟨0, (some 7), .mv (.c (.int .i64 (0))), 0, none⟩] [1, 2, 3, 7])
 (.seq
 (.seq
 (.reg false [⟨0, (some 9), .mv (.t 1), 0, none⟩, ⟨1, (some 10), .len none (.t 9), 0, none⟩, ⟨2, (some 11), .bin .sub (.t 10) (.c (.int .i64 (1))), 0, none⟩, ⟨3, (some 8), .mv (.t 11), 0, none⟩] [1, 2, 3, 7, 8])
 (.blk 0
 (.loop [1, 2, 3, 7, 8]
 (.seq
 (.seq
 (.reg false [⟨0, (some 12), .mv (.t 8), 0, none⟩, ⟨1, (some 13), .bin .geq (.t 12) (.c (.int .i64 (0))), 0, none⟩] [1, 2, 3, 7, 8, 13])
 (.cond (.t 13)
 (.skip)
 (.exit 0)))
 (.seq
 (.blk 1
 (.reg true [⟨4, (some 20), .mv (.t 7), 0, none⟩, ⟨5, (some 21), .mv (.t 2), 0, none⟩, ⟨6, (some 22), .faddr 1 (.t 3), 0, none⟩, ⟨10, (some 26), .mv (.t 1), 0, none⟩, ⟨11, (some 27), .mv (.t 8), 0, none⟩, ⟨12, (some 28), .iaddr none 1 (.t 26) (.t 27), 0, none⟩, ⟨0, (some 16), .load (some 3) (.t 3), 0, none⟩, ⟨2, (some 18), .load (some 3) (.t 3), 0, none⟩, ⟨7, (some 23), .load none (.t 22), 0, none⟩, ⟨8, (some 24), .bin .rem (.t 21) (.t 23), 0, none⟩, ⟨13, (some 29), .load none (.t 28), 0, none⟩, ⟨1, (some 17), .call 91 [.t 16], 1, none⟩, ⟨3, (some 19), .call 91 [.t 18], 1, none⟩, ⟨9, (some 25), .call 93 [.t 19, .t 20, .t 24], 1, none⟩, ⟨14, (some 30), .call 95 [.t 17, .t 25, .t 29], 1, none⟩, ⟨15, (some 7), .mv (.t 30), 0, none⟩] [1, 2, 3, 7, 8]))
 (.reg false [⟨0, (some 14), .mv (.t 8), 0, none⟩, ⟨1, (some 15), .bin .sub (.t 14) (.c (.int .i64 (1))), 0, none⟩, ⟨2, (some 8), .mv (.t 15), 0, none⟩] [1, 2, 3, 7, 8]))))))
 (.seq
 (.reg false [⟨0, (some 31), .mv (.t 7), 0, none⟩, ⟨1, (some 6), .mv (.t 31), 0, none⟩] [6])
 (.ret))))

theorem ok158 : okF Tryz.prog 158 3 c158 [.tmp 6] = true := by kernel_rfl

/-- slices.IndexFunc[[]dauber/draw.Line,dauber/draw.Line] -/
def c161 : C :=
 .seq
 (.reg false [⟨0, (some 4), .mv (.c (.int .i64 (0))), 0, none⟩] [0, 1])
 (.seq
 (.seq
 (.reg false [⟨0, (some 6), .mv (.t 0), 0, none⟩, ⟨1, (some 7), .len none (.t 6), 0, none⟩, ⟨2, (some 8), .mv (.c (.int .i64 (0))), 0, none⟩] [0, 1, 7, 8])
 (.blk 0
 (.loop [0, 1, 7, 8]
 (.seq
 (.reg false [⟨0, (some 9), .bin .lss (.t 8) (.t 7), 0, none⟩] [0, 1, 7, 8, 9])
 (.seq
 (.cond (.t 9)
 (.skip)
 (.exit 0))
 (.seq
 (.blk 1
 (.seq
 (.reg false [⟨0, (some 10), .mv (.t 8), 0, none⟩, ⟨1, (some 5), .mv (.t 10), 0, none⟩] [0, 1, 5, 7, 8])
 (.seq
 (.reg false [⟨0, (some 11), .mv (.t 1), 0, none⟩, ⟨1, (some 12), .mv (.t 0), 0, none⟩, ⟨2, (some 13), .mv (.t 5), 0, none⟩, ⟨3, (some 14), .iaddr none 4 (.t 12) (.t 13), 0, none⟩, ⟨4, (some 15), .load (some 4) (.t 14), 0, none⟩, ⟨5, (some 16), .callv (.t 11) [.t 15], 2, none⟩] [0, 1, 5, 7, 8, 16])
 (.cond (.t 16)
 (.seq
 (.reg false [⟨0, (some 17), .mv (.t 5), 0, none⟩, ⟨1, (some 4), .mv (.t 17), 0, none⟩] [4])
 (.ret))
 (.skip)))))
 (.reg false [⟨0, (some 18), .bin .add (.t 8) (.c (.int .i64 (1))), 0, none⟩, ⟨1, (some 8), .mv (.t 18), 0, none⟩] [0, 1, 7, 8])))))))
 (.seq
 (.reg false [⟨0, (some 4), .mv (.c (.int .i64 (-1))), 0, none⟩] [4])
 (.ret)))

theorem ok161 : okF Tryz.prog 161 2 c161 [.tmp 4] = true := by kernel_rfl

/-- slices.IndexFunc[[]int64,int64] -/
def c162 : C :=
 .seq
 (.reg false [⟨0, (some 4), .mv (.c (.int .i64 (0))), 0, none⟩] [0, 1])
 (.seq
 (.seq
 (.reg false [⟨0, (some 6), .mv (.t 0), 0, none⟩, ⟨1, (some 7), .len none (.t 6), 0, none⟩, ⟨2, (some 8), .mv (.c (.int .i64 (0))), 0, none⟩] [0, 1, 7, 8])
 (.blk 0
 (.loop [0, 1, 7, 8]
 (.seq
 (.reg false [⟨0, (some 9), .bin .lss (.t 8) (.t 7), 0, none⟩] [0, 1, 7, 8, 9])
 (.seq
 (.cond (.t 9)
 (.skip)
 (.exit 0))
 (.seq
 (.blk 1
 (.seq
 (.reg false [⟨0, (some 10), .mv (.t 8), 0, none⟩, ⟨1, (some 5), .mv (.t 10), 0, none⟩] [0, 1, 5, 7, 8])
 (.seq
 (.reg false [⟨0, (some 11), .mv (.t 1), 0, none⟩, ⟨1, (some 12), .mv (.t 0), 0, none⟩, ⟨2, (some 13), .mv (.t 5), 0, none⟩, ⟨3, (some 14), .iaddr none 1 (.t 12) (.t 13), 0, none⟩, ⟨4, (some 15), .load none (.t 14), 0, none⟩, ⟨5, (some 16), .callv (.t 11) [.t 15], 2, none⟩] [0, 1, 5, 7, 8, 16])
 (.cond (.t 16)
 (.seq
 (.reg false [⟨0, (some 17), .mv (.t 5), 0, none⟩, ⟨1, (some 4), .mv (.t 17), 0, none⟩] [4])
 (.ret))
 (.skip)))))
 (.reg false [⟨0, (some 18), .bin .add (.t 8) (.c (.int .i64 (1))), 0, none⟩, ⟨1, (some 8), .mv (.t 18), 0, none⟩] [0, 1, 7, 8])))))))
 (.seq
 (.reg false [⟨0, (some 4), .mv (.c (.int .i64 (-1))), 0, none⟩] [4])
 (.ret)))

theorem ok162 : okF Tryz.prog 162 2 c162 [.tmp 4] = true := by kernel_rfl

/-- math/bits.Mul -/
def c163 : C :=
 .seq
 (.reg false [⟨0, (some 4), .mv (.c (.int .u64 (0))), 0, none⟩, ⟨1, (some 5), .mv (.c (.int .u64 (0))), 0, none⟩] [0, 1])
 (.seq
 (.cond (.c (.bool false))
 (.seq
 (.reg false [⟨0, (some 11), .mv (.t 0), 0, none⟩, ⟨1, (some 12), .cvt .u32 (.t 11), 0, none⟩, ⟨2, (some 13), .mv (.t 1), 0, none⟩, ⟨3, (some 14), .cvt .u32 (.t 13), 0, none⟩, ⟨4, (some 15), .call 201 [.t 12, .t 14], 2, none⟩, ⟨5, (some 10), .mv (.t 15), 0, none⟩, ⟨6, (some 16), .ext 0 (.t 10), 0, none⟩, ⟨7, (some 17), .ext 1 (.t 10), 0, none⟩, ⟨8, (some 6), .mv (.t 16), 0, none⟩, ⟨9, (some 7), .mv (.t 17), 0, none⟩] [6, 7])
 (.seq
 (.reg false [⟨0, (some 18), .mv (.t 6), 0, none⟩, ⟨1, (some 19), .cvt .u64 (.t 18), 0, none⟩, ⟨2, (some 20), .mv (.t 7), 0, none⟩, ⟨3, (some 21), .cvt .u64 (.t 20), 0, none⟩, ⟨4, (some 4), .mv (.t 19), 0, none⟩, ⟨5, (some 5), .mv (.t 21), 0, none⟩] [4, 5])
 (.ret)))
 (.skip))
 (.seq
 (.reg false [⟨0, (some 23), .mv (.t 0), 0, none⟩, ⟨1, (some 24), .mv (.t 1), 0, none⟩, ⟨2, (some 25), .call 202 [.t 23, .t 24], 2, none⟩, ⟨3, (some 22), .mv (.t 25), 0, none⟩, ⟨4, (some 26), .ext 0 (.t 22), 0, none⟩, ⟨5, (some 27), .ext 1 (.t 22), 0, none⟩, ⟨6, (some 8), .mv (.t 26), 0, none⟩, ⟨7, (some 9), .mv (.t 27), 0, none⟩] [8, 9])
 (.seq
 (.reg false [⟨0, (some 28), .mv (.t 8), 0, none⟩, ⟨1, (some 29), .mv (.t 9), 0, none⟩, ⟨2, (some 4), .mv (.t 28), 0, none⟩, ⟨3, (some 5), .mv (.t 29), 0, none⟩] [4, 5])
 (.ret))))

theorem ok163 : okF Tryz.prog 163 2 c163 [.tmp 4, .tmp 5] = true := by kernel_rfl

/-- slices.Index[[][2]int,[2]int] -/
def c164 : C :=
 .seq
 (.reg false [⟨0, (some 3), .box 2 (.t 1), 0, none⟩, ⟨1, (some 4), .mv (.c (.int .i64 (0))), 0, none⟩] [0, 3])
 (.seq
 (.seq
 (.reg false [⟨0, (some 6), .mv (.t 0), 0, none⟩, ⟨1, (some 7), .len none (.t 6), 0, none⟩, ⟨2, (some 8), .mv (.c (.int .i64 (0))), 0, none⟩] [0, 3, 7, 8])
 (.blk 0
 (.loop [0, 3, 7, 8]
 (.seq
 (.reg false [⟨0, (some 9), .bin .lss (.t 8) (.t 7), 0, none⟩] [0, 3, 7, 8, 9])
 (.seq
 (.cond (.t 9)
 (.skip)
 (.exit 0))
 (.seq
 (.blk 1
 (.seq
 (.reg false [⟨0, (some 10), .mv (.t 8), 0, none⟩, ⟨1, (some 5), .mv (.t 10), 0, none⟩] [0, 3, 5, 7, 8])
 (.seq
 (.reg true [⟨1, (some 12), .mv (.t 0), 0, none⟩, ⟨2, (some 13), .mv (.t 5), 0, none⟩, ⟨3, (some 14), .iaddr none 2 (.t 12) (.t 13), 0, none⟩, ⟨0, (some 11), .load (some 2) (.t 3), 0, none⟩, ⟨4, (some 15), .load (some 2) (.t 14), 0, none⟩, ⟨5, (some 16), .eqs 2 false (.t 11) (.t 15), 0, none⟩] [0, 3, 5, 7, 8, 16])
 (.cond (.t 16)
 (.seq
 (.reg false [⟨0, (some 17), .mv (.t 5), 0, none⟩, ⟨1, (some 4), .mv (.t 17), 0, none⟩] [4])
 (.ret))
 (.skip)))))
 (.reg false [⟨0, (some 18), .bin .add (.t 8) (.c (.int .i64 (1))), 0, none⟩, ⟨1, (some 8), .mv (.t 18), 0, none⟩] [0, 3, 7, 8])))))))
 (.seq
 (.reg false [⟨0, (some 4), .mv (.c (.int .i64 (-1))), 0, none⟩] [4])
 (.ret)))

theorem ok164 : okF Tryz.prog 164 2 c164 [.tmp 4] = true := by kernel_rfl

/-- (dauber/share.Group).has -/
def c165 : C :=
 .seq
 (.reg false [⟨0, (some 2), .box 3 (.t 0), 0, none⟩, ⟨1, (some 4), .mv (.c (.bool false)), 0, none⟩] [1, 2])
 (.seq
 (.reg false [⟨0, (some 5), .faddr 0 (.t 2), 0, none⟩, ⟨1, (some 6), .load none (.t 5), 0, none⟩, ⟨2, (some 7), .bin .sub (.t 6) (.c (.int .i64 (1))), 0, none⟩, ⟨3, (some 8), .mv (.t 1), 0, none⟩, ⟨4, (some 9), .call 134 [.c (.int .i64 (1)), .t 7, .t 8], 2, none⟩, ⟨5, (some 10), .mv (.t 9), 0, none⟩, ⟨6, (some 11), .mv (.t 1), 0, (some (10, true))⟩, ⟨7, (some 12), .mkfn (.func 203) [] [.t 2], 0, (some (10, true))⟩, ⟨8, (some 13), .call 110 [.t 11, .t 12], 2, (some (10, true))⟩, ⟨9, (some 14), .un .not (.t 13), 0, (some (10, true))⟩, ⟨10, (some 15), .pick (.t 10) (.t 14) (.c (.bool false)), 0, none⟩, ⟨11, (some 4), .mv (.t 15), 0, none⟩] [4])
 (.ret))

theorem ok165 : okF Tryz.prog 165 2 c165 [.tmp 4] = true := by kernel_rfl

/-- (dauber/share.Group).raise -/
def c166 : C :=
 .seq
 (.reg false [⟨0, (some 2), .box 3 (.t 0), 0, none⟩, ⟨1, (some 4), .mv (.c (.int .i64 (0))), 0, none⟩] [1, 2])
 (.seq
 (.reg true [⟨2, (some 7), .faddr 2 (.t 2), 0, none⟩, ⟨4, (some 9), .mv (.t 1), 0, none⟩, ⟨0, (some 5), .load (some 3) (.t 2), 0, none⟩, ⟨3, (some 8), .load none (.t 7), 0, none⟩, ⟨1, (some 6), .call 169 [.t 5], 1, none⟩, ⟨5, (some 10), .call 136 [.t 6, .t 8, .t 9], 1, none⟩, ⟨6, (some 4), .mv (.t 10), 0, none⟩] [4])
 (.ret))

theorem ok166 : okF Tryz.prog 166 2 c166 [.tmp 4] = true := by kernel_rfl

/-- slices.AppendSeq[[]int,int] -/
def c168 : C :=
 .seq
 (.reg false [⟨0, (some 2), .box 1 (.t 0), 0, none⟩, ⟨1, (some 4), .mv (.c (.nils)), 0, none⟩] [1, 2])
 (.seq
 (.seq
 (.reg false [⟨0, (some 6), .mv (.t 1), 0, none⟩] [2, 6])
 (.blk 0
 (.rf (.t 6) [7]
 (.reg false [⟨0, (some 5), .mv (.t 7), 0, none⟩] [2, 5])
 (.blk 1
 (.reg false [⟨0, (some 8), .load none (.t 2), 0, none⟩, ⟨1, (some 9), .mv (.t 5), 0, none⟩, ⟨2, (some 10), .bsl 1 1 [.int .i64 (0)] [(0, 1, .t 9)], 0, none⟩, ⟨3, (some 11), .app 1 8 (.t 8) (.t 10), 0, none⟩, ⟨4, none, .store 1 (.t 2) (.t 11), 0, none⟩] [])))))
 (.seq
 (.reg false [⟨0, (some 12), .load none (.t 2), 0, none⟩, ⟨1, (some 4), .mv (.t 12), 0, none⟩] [4])
 (.ret)))

theorem ok168 : okF Tryz.prog 168 2 c168 [.tmp 4] = true := by kernel_rfl

/-- (dauber/share.Group).above -/
def c169 : C :=
 .seq
 (.reg false [⟨0, (some 1), .box 3 (.t 0), 0, none⟩, ⟨1, (some 2), .mv (.c (.int .i64 (0))), 0, none⟩] [1])
 (.seq
 (.reg false [⟨0, (some 3), .faddr 0 (.t 1), 0, none⟩, ⟨1, (some 4), .load none (.t 3), 0, none⟩, ⟨2, (some 2), .mv (.t 4), 0, none⟩] [2])
 (.ret))

theorem ok169 : okF Tryz.prog 169 1 c169 [.tmp 2] = true := by kernel_rfl

/-- dauber/share.in$1 -/
def c171 : C :=
 .seq
 (.reg false [⟨0, (some 4), .mv (.c (.bool false)), 0, none⟩] [0, 1, 2])
 (.seq
 (.reg false [⟨0, (some 5), .mv (.t 0), 0, none⟩, ⟨1, (some 6), .load none (.t 1), 0, none⟩, ⟨2, (some 7), .bin .lss (.t 5) (.t 6), 0, none⟩, ⟨3, (some 8), .mv (.t 7), 0, none⟩, ⟨4, (some 9), .mv (.t 0), 0, (some (8, false))⟩, ⟨5, (some 10), .load none (.t 2), 0, (some (8, false))⟩, ⟨6, (some 11), .bin .gtr (.t 9) (.t 10), 0, (some (8, false))⟩, ⟨7, (some 12), .pick (.t 8) (.c (.bool true)) (.t 11), 0, none⟩, ⟨8, (some 4), .mv (.t 12), 0, none⟩] [4])
 (.ret))

theorem ok171 : okF Tryz.prog 171 3 c171 [.tmp 4] = true := by kernel_rfl

/-- dauber/share.power[int64] -/
def c172 : C :=
 .seq
 (.reg false [⟨0, (some 8), .mv (.c (.int .i64 (0))), 0, none⟩] [0, 1, 2, 3])
 (.seq
 (.reg false [⟨0, (some 10), .mv (.t 1), 0, none⟩, ⟨1, (some 9), .mv (.t 10), 0, none⟩] [0, 2, 3, 9])
 (.seq
 (.blk 0
 (.loop [0, 2, 3, 9]
 (.seq
 (.seq
 (.reg false [⟨0, (some 11), .mv (.t 3), 0, none⟩, ⟨1, (some 12), .bin .gtr (.t 11) (.c (.int .i64 (0))), 0, none⟩] [0, 2, 3, 9, 12])
 (.cond (.t 12)
 (.skip)
 (.exit 0)))
 (.seq
 (.blk 1
 (.seq
 (.seq
 (.reg false [⟨0, (some 15), .mv (.t 3), 0, none⟩, ⟨1, (some 16), .bin .rem (.t 15) (.c (.int .i64 (2))), 0, none⟩, ⟨2, (some 17), .bin .eql (.t 16) (.c (.int .i64 (1))), 0, none⟩] [0, 2, 3, 9, 17])
 (.cond (.t 17)
 (.reg false [⟨0, (some 18), .mv (.t 0), 0, none⟩, ⟨1, (some 19), .mv (.t 9), 0, none⟩, ⟨2, (some 20), .mv (.t 2), 0, none⟩, ⟨3, (some 21), .callv (.t 18) [.t 19, .t 20], 2, none⟩, ⟨4, (some 9), .mv (.t 21), 0, none⟩] [0, 2, 3, 9])
 (.skip)))
 (.reg false [⟨0, (some 22), .mv (.t 0), 0, none⟩, ⟨1, (some 23), .mv (.t 2), 0, none⟩, ⟨2, (some 24), .mv (.t 2), 0, none⟩, ⟨3, (some 25), .callv (.t 22) [.t 23, .t 24], 2, none⟩, ⟨4, (some 2), .mv (.t 25), 0, none⟩] [0, 2, 3, 9])))
 (.reg false [⟨0, (some 13), .mv (.t 3), 0, none⟩, ⟨1, (some 14), .bin .quo (.t 13) (.c (.int .i64 (2))), 0, none⟩, ⟨2, (some 3), .mv (.t 14), 0, none⟩] [0, 2, 3, 9])))))
 (.seq
 (.reg false [⟨0, (some 26), .mv (.t 9), 0, none⟩, ⟨1, (some 8), .mv (.t 26), 0, none⟩] [8])
 (.ret))))

theorem ok172 : okF Tryz.prog 172 4 c172 [.tmp 8] = true := by kernel_rfl

/-- (dauber/share.modulus).power$1 -/
def c173 : C :=
 .seq
 (.reg false [⟨0, (some 6), .mv (.c (.int .i64 (0))), 0, none⟩] [0, 1, 2, 3])
 (.seq
 (.reg false [⟨0, (some 7), .load none (.t 2), 0, none⟩, ⟨1, (some 8), .load none (.t 3), 0, none⟩, ⟨2, (some 9), .mv (.t 0), 0, none⟩, ⟨3, (some 10), .mv (.t 1), 0, none⟩, ⟨4, (some 11), .callv (.t 7) [.t 8, .t 9, .t 10], 2, none⟩, ⟨5, (some 6), .mv (.t 11), 0, none⟩] [6])
 (.ret))

theorem ok173 : okF Tryz.prog 173 4 c173 [.tmp 6] = true := by kernel_rfl

/-- (*dauber/draw.state).places$1 -/
def c174 : C :=
 .seq
 (.reg false [⟨0, (some 3), .box 1 (.t 0), 0, none⟩] [1, 2, 3])
 (.seq
 (.seq
 (.reg false [⟨0, (some 11), .load none (.t 1), 0, none⟩, ⟨1, (some 12), .mkfn (.func 175) [] [.t 2], 0, none⟩, ⟨2, (some 13), .call 77 [.t 11, .t 12], 2, none⟩] [1, 2, 3, 13])
 (.blk 0
 (.rf (.t 13) [14]
 (.reg false [⟨0, (some 4), .mv (.t 14), 0, none⟩] [1, 2, 3, 4])
 (.blk 1
 (.seq
 (.reg false [⟨0, (some 16), .load none (.t 1), 0, none⟩, ⟨1, (some 17), .load none (.t 2), 0, none⟩, ⟨2, (some 18), .mv (.t 4), 0, none⟩, ⟨3, (some 19), .call 120 [.t 16, .t 17, .t 18], 2, none⟩, ⟨4, (some 15), .mv (.t 19), 0, none⟩, ⟨5, (some 20), .ext 0 (.t 15), 0, none⟩, ⟨6, (some 21), .ext 1 (.t 15), 0, none⟩, ⟨7, (some 5), .mv (.t 20), 0, none⟩, ⟨8, (some 6), .mv (.t 21), 0, none⟩] [3, 4, 5, 6])
 (.seq
 (.reg false [⟨0, (some 22), .mv (.t 6), 0, none⟩, ⟨1, (some 23), .mv (.t 22), 0, none⟩, ⟨2, (some 24), .load none (.t 3), 0, (some (23, true))⟩, ⟨3, (some 25), .mv (.t 4), 0, (some (23, true))⟩, ⟨4, (some 26), .mv (.t 5), 0, (some (23, true))⟩, ⟨5, (some 27), .callv (.t 24) [.t 25, .t 26], 2, (some (23, true))⟩, ⟨6, (some 28), .un .not (.t 27), 0, (some (23, true))⟩, ⟨7, (some 29), .pick (.t 23) (.t 28) (.c (.bool false)), 0, none⟩] [29])
 (.cond (.t 29)
 (.ret)
 (.skip))))))))
 (.seq
 (.reg false [⟨0, (some 30), .load none (.t 1), 0, none⟩, ⟨1, (some 31), .nilc (.t 30), 0, none⟩, ⟨2, (some 32), .faddr 6 (.t 31), 0, none⟩, ⟨3, (some 33), .faddr 3 (.t 32), 0, none⟩, ⟨4, (some 34), .load none (.t 33), 0, none⟩, ⟨5, (some 35), .len none (.t 34), 0, none⟩, ⟨6, (some 36), .mv (.c (.int .i64 (0))), 0, none⟩] [1, 2, 3, 34, 35, 36])
 (.blk 2
 (.loop [1, 2, 3, 34, 35, 36]
 (.seq
 (.reg false [⟨0, (some 37), .bin .lss (.t 36) (.t 35), 0, none⟩] [1, 2, 3, 34, 35, 36, 37])
 (.seq
 (.cond (.t 37)
 (.skip)
 (.exit 2))
 (.seq
 (.blk 3
 (.seq
 (.reg false [⟨0, (some 38), .iaddr none 4 (.t 34) (.t 36), 0, none⟩, ⟨1, (some 39), .load (some 4) (.t 38), 0, none⟩, ⟨2, (some 8), .alloc [.int .i64 (0), .int .i64 (0), .int .i64 (0), .nils] 4, 0, none⟩, ⟨3, none, .store 4 (.t 8) (.t 39), 0, none⟩] [1, 2, 3, 8, 34, 35, 36])
 (.seq
 (.reg false [⟨0, (some 41), .load none (.t 1), 0, none⟩, ⟨1, (some 42), .load (some 4) (.t 8), 0, none⟩, ⟨2, (some 43), .call 130 [.t 41, .t 42], 2, none⟩, ⟨3, (some 40), .mv (.t 43), 0, none⟩, ⟨4, (some 44), .ext 0 (.t 40), 0, none⟩, ⟨5, (some 45), .ext 1 (.t 40), 0, none⟩, ⟨6, (some 9), .mv (.t 44), 0, none⟩, ⟨7, (some 10), .mv (.t 45), 0, none⟩] [1, 2, 3, 8, 10, 34, 35, 36])
 (.seq
 (.reg true [⟨0, (some 46), .mv (.t 10), 0, none⟩, ⟨1, (some 47), .mv (.t 46), 0, none⟩, ⟨2, (some 48), .faddr 2 (.t 8), 0, (some (47, true))⟩, ⟨3, (some 49), .load none (.t 48), 0, (some (47, true))⟩, ⟨4, (some 50), .load none (.t 2), 0, (some (47, true))⟩, ⟨5, (some 51), .bin .eql (.t 49) (.t 50), 0, (some (47, true))⟩, ⟨6, (some 52), .pick (.t 47) (.t 51) (.c (.bool false)), 0, none⟩, ⟨7, (some 53), .mv (.t 52), 0, none⟩, ⟨9, (some 55), .faddr 0 (.t 8), 0, (some (53, true))⟩, ⟨11, (some 57), .faddr 3 (.t 8), 0, (some (53, true))⟩, ⟨8, (some 54), .load none (.t 3), 0, (some (53, true))⟩, ⟨10, (some 56), .load none (.t 55), 0, (some (53, true))⟩, ⟨12, (some 58), .load none (.t 57), 0, (some (53, true))⟩, ⟨13, (some 59), .iaddr none 1 (.t 58) (.c (.int .i64 (0))), 0, (some (53, true))⟩, ⟨14, (some 60), .load none (.t 59), 0, (some (53, true))⟩, ⟨15, (some 61), .callv (.t 54) [.t 56, .t 60], 2, (some (53, true))⟩, ⟨16, (some 62), .un .not (.t 61), 0, (some (53, true))⟩, ⟨17, (some 63), .pick (.t 53) (.t 62) (.c (.bool false)), 0, none⟩] [1, 2, 3, 34, 35, 36, 63])
 (.cond (.t 63)
 (.ret)
 (.skip))))))
 (.reg false [⟨0, (some 64), .bin .add (.t 36) (.c (.int .i64 (1))), 0, none⟩, ⟨1, (some 36), .mv (.t 64), 0, none⟩] [1, 2, 3, 34, 35, 36]))))))))

theorem ok174 : okF Tryz.prog 174 3 c174 [] = true := by kernel_rfl

/-- (*dauber/draw.state).places$1$1 -/
def c175 : C :=
 .seq
 (.reg false [⟨0, (some 3), .mv (.c (.bool false)), 0, none⟩] [0, 1])
 (.seq
 (.reg false [⟨0, (some 4), .mv (.t 0), 0, none⟩, ⟨1, (some 5), .load none (.t 1), 0, none⟩, ⟨2, (some 6), .bin .neq (.t 4) (.t 5), 0, none⟩, ⟨3, (some 3), .mv (.t 6), 0, none⟩] [3])
 (.ret))

theorem ok175 : okF Tryz.prog 175 2 c175 [.tmp 3] = true := by kernel_rfl

/-- slices.Index[[]int,int] -/
def c176 : C :=
 .seq
 (.reg false [⟨0, (some 4), .mv (.c (.int .i64 (0))), 0, none⟩] [0, 1])
 (.seq
 (.seq
 (.reg false [⟨0, (some 6), .mv (.t 0), 0, none⟩, ⟨1, (some 7), .len none (.t 6), 0, none⟩, ⟨2, (some 8), .mv (.c (.int .i64 (0))), 0, none⟩] [0, 1, 7, 8])
 (.blk 0
 (.loop [0, 1, 7, 8]
 (.seq
 (.reg false [⟨0, (some 9), .bin .lss (.t 8) (.t 7), 0, none⟩] [0, 1, 7, 8, 9])
 (.seq
 (.cond (.t 9)
 (.skip)
 (.exit 0))
 (.seq
 (.blk 1
 (.seq
 (.reg false [⟨0, (some 10), .mv (.t 8), 0, none⟩, ⟨1, (some 5), .mv (.t 10), 0, none⟩] [0, 1, 5, 7, 8])
 (.seq
 (.reg false [⟨0, (some 11), .mv (.t 1), 0, none⟩, ⟨1, (some 12), .mv (.t 0), 0, none⟩, ⟨2, (some 13), .mv (.t 5), 0, none⟩, ⟨3, (some 14), .iaddr none 1 (.t 12) (.t 13), 0, none⟩, ⟨4, (some 15), .load none (.t 14), 0, none⟩, ⟨5, (some 16), .bin .eql (.t 11) (.t 15), 0, none⟩] [0, 1, 5, 7, 8, 16])
 (.cond (.t 16)
 (.seq
 (.reg false [⟨0, (some 17), .mv (.t 5), 0, none⟩, ⟨1, (some 4), .mv (.t 17), 0, none⟩] [4])
 (.ret))
 (.skip)))))
 (.reg false [⟨0, (some 18), .bin .add (.t 8) (.c (.int .i64 (1))), 0, none⟩, ⟨1, (some 8), .mv (.t 18), 0, none⟩] [0, 1, 7, 8])))))))
 (.seq
 (.reg false [⟨0, (some 4), .mv (.c (.int .i64 (-1))), 0, none⟩] [4])
 (.ret)))

theorem ok176 : okF Tryz.prog 176 2 c176 [.tmp 4] = true := by kernel_rfl

/-- (*dauber/field.Field).Check -/
def c177 : C :=
 .seq
 (.reg false [⟨0, (some 4), .mv (.c (.int .i64 (0))), 0, none⟩] [0, 1])
 (.seq
 (.seq
 (.reg false [⟨0, (some 5), .mv (.t 0), 0, none⟩, ⟨1, (some 6), .eqn 0 false (.t 5) (.c (.nilp)), 0, none⟩] [0, 1, 6])
 (.cond (.t 6)
 (.seq
 (.reg false [⟨0, (some 4), .mv (.c (.int .i64 (3))), 0, none⟩] [4])
 (.ret))
 (.skip)))
 (.seq
 (.seq
 (.reg false [⟨0, (some 7), .mv (.t 1), 0, none⟩, ⟨1, (some 8), .len none (.t 7), 0, none⟩, ⟨2, (some 9), .bin .gtr (.t 8) (.c (.int .i64 (200))), 0, none⟩] [0, 1, 9])
 (.cond (.t 9)
 (.seq
 (.reg false [⟨0, (some 4), .mv (.c (.int .i64 (2))), 0, none⟩] [4])
 (.ret))
 (.skip)))
 (.seq
 (.seq
 (.reg false [⟨0, (some 10), .mv (.t 0), 0, none⟩, ⟨1, (some 11), .mv (.t 1), 0, none⟩, ⟨2, (some 12), .call 146 [.t 10, .t 11], 2, none⟩, ⟨3, (some 13), .un .not (.t 12), 0, none⟩, ⟨4, (some 14), .mv (.t 13), 0, none⟩, ⟨5, (some 15), .mv (.t 1), 0, (some (14, false))⟩, ⟨6, (some 16), .len none (.t 15), 0, (some (14, false))⟩, ⟨7, (some 17), .bin .gtr (.t 16) (.c (.int .i64 (0))), 0, (some (14, false))⟩, ⟨8, (some 18), .mv (.t 17), 0, (some (14, false))⟩, ⟨9, (some 19), .mv (.t 1), 0, (some (18, true))⟩, ⟨10, (some 20), .mv (.t 1), 0, (some (18, true))⟩, ⟨11, (some 21), .len none (.t 20), 0, (some (18, true))⟩, ⟨12, (some 22), .bin .sub (.t 21) (.c (.int .i64 (1))), 0, (some (18, true))⟩, ⟨13, (some 23), .iaddr none 1 (.t 19) (.t 22), 0, (some (18, true))⟩, ⟨14, (some 24), .load none (.t 23), 0, (some (18, true))⟩, ⟨15, (some 25), .bin .eql (.t 24) (.c (.int .i64 (0))), 0, (some (18, true))⟩, ⟨16, (some 26), .pick (.t 18) (.t 25) (.c (.bool false)), 0, (some (14, false))⟩, ⟨17, (some 27), .pick (.t 14) (.c (.bool true)) (.t 26), 0, none⟩] [27])
 (.cond (.t 27)
 (.seq
 (.reg false [⟨0, (some 4), .mv (.c (.int .i64 (1))), 0, none⟩] [4])
 (.ret))
 (.skip)))
 (.seq
 (.reg false [⟨0, (some 4), .mv (.c (.int .i64 (0))), 0, none⟩] [4])
 (.ret)))))

theorem ok177 : okF Tryz.prog 177 2 c177 [.tmp 4] = true := by kernel_rfl

/-- (*dauber/field.Field).at -/
def c178 : C :=
 .seq
 (.reg false [⟨0, (some 6), .mv (.c (.int .i64 (0))), 0, none⟩] [0, 1, 2])
 (.seq
 (.reg true [⟨0, (some 7), .mv (.t 1), 0, none⟩, ⟨1, (some 8), .mv (.t 2), 0, none⟩, ⟨2, (some 9), .mv (.t 0), 0, none⟩, ⟨3, (some 10), .nilc (.t 9), 0, none⟩, ⟨4, (some 11), .faddr 0 (.t 10), 0, none⟩, ⟨8, (some 15), .mv (.t 0), 0, none⟩, ⟨9, (some 16), .nilc (.t 15), 0, none⟩, ⟨10, (some 17), .faddr 0 (.t 16), 0, none⟩, ⟨5, (some 12), .load none (.t 11), 0, none⟩, ⟨6, (some 13), .nilc (.t 12), 0, none⟩, ⟨7, (some 14), .mkfn (.method "dauber/field.sum") [.t 13] [], 0, none⟩, ⟨11, (some 18), .load none (.t 17), 0, none⟩, ⟨12, (some 19), .nilc (.t 18), 0, none⟩, ⟨13, (some 20), .mkfn (.method "dauber/field.product") [.t 19] [], 0, none⟩, ⟨14, (some 21), .call 204 [.t 7, .t 8, .c (.int .i64 (0)), .t 14, .t 20], 2, none⟩, ⟨15, (some 6), .mv (.t 21), 0, none⟩] [6])
 (.ret))

theorem ok178 : okF Tryz.prog 178 3 c178 [.tmp 6] = true := by kernel_rfl

/-- (*dauber/field.Field).in -/
def c179 : C :=
 .seq
 (.reg false [⟨0, (some 4), .mv (.c (.int .i64 (0))), 0, none⟩] [0, 1])
 (.seq
 (.reg true [⟨0, (some 5), .mv (.t 1), 0, none⟩, ⟨1, (some 6), .mv (.t 0), 0, none⟩, ⟨2, (some 7), .nilc (.t 6), 0, none⟩, ⟨3, (some 8), .faddr 1 (.t 7), 0, none⟩, ⟨6, (some 11), .mv (.t 0), 0, none⟩, ⟨7, (some 12), .nilc (.t 11), 0, none⟩, ⟨8, (some 13), .faddr 1 (.t 12), 0, none⟩, ⟨11, (some 16), .mv (.t 0), 0, none⟩, ⟨12, (some 17), .nilc (.t 16), 0, none⟩, ⟨13, (some 18), .faddr 1 (.t 17), 0, none⟩, ⟨4, (some 9), .load none (.t 8), 0, none⟩, ⟨5, (some 10), .bin .rem (.t 5) (.t 9), 0, none⟩, ⟨9, (some 14), .load none (.t 13), 0, none⟩, ⟨10, (some 15), .bin .add (.t 10) (.t 14), 0, none⟩, ⟨14, (some 19), .load none (.t 18), 0, none⟩, ⟨15, (some 20), .bin .rem (.t 15) (.t 19), 0, none⟩, ⟨16, (some 4), .mv (.t 20), 0, none⟩] [4])
 (.ret))

theorem ok179 : okF Tryz.prog 179 2 c179 [.tmp 4] = true := by kernel_rfl

/-- slices.ContainsFunc[[]int,int] -/
def c180 : C :=
 .seq
 (.reg false [⟨0, (some 4), .mv (.c (.bool false)), 0, none⟩] [0, 1])
 (.seq
 (.reg false [⟨0, (some 5), .mv (.t 0), 0, none⟩, ⟨1, (some 6), .mv (.t 1), 0, none⟩, ⟨2, (some 7), .call 205 [.t 5, .t 6], 2, none⟩, ⟨3, (some 8), .bin .geq (.t 7) (.c (.int .i64 (0))), 0, none⟩, ⟨4, (some 4), .mv (.t 8), 0, none⟩] [4])
 (.ret))

theorem ok180 : okF Tryz.prog 180 2 c180 [.tmp 4] = true := by kernel_rfl

/-- (*dauber/field.Field).first$1 -/
def c181 : C :=
 .seq
 (.reg false [⟨0, (some 5), .mv (.c (.bool false)), 0, none⟩] [0, 1, 2, 3])
 (.seq
 (.reg true [⟨7, (some 13), .mv (.t 0), 0, none⟩, ⟨0, (some 6), .load none (.t 1), 0, none⟩, ⟨1, (some 7), .load none (.t 2), 0, none⟩, ⟨2, (some 8), .load none (.t 3), 0, none⟩, ⟨3, (some 9), .nilc (.t 8), 0, none⟩, ⟨4, (some 10), .faddr 1 (.t 9), 0, none⟩, ⟨5, (some 11), .load none (.t 10), 0, none⟩, ⟨6, (some 12), .bin .sub (.t 11) (.c (.int .i64 (1))), 0, none⟩, ⟨8, (some 14), .bin .quo (.t 12) (.t 13), 0, none⟩, ⟨9, (some 15), .call 182 [.t 6, .t 7, .t 14], 2, none⟩, ⟨10, (some 16), .bin .eql (.t 15) (.c (.int .i64 (1))), 0, none⟩, ⟨11, (some 5), .mv (.t 16), 0, none⟩] [5])
 (.ret))

theorem ok181 : okF Tryz.prog 181 4 c181 [.tmp 5] = true := by kernel_rfl

/-- dauber/field.power -/
def c182 : C :=
 .seq
 (.reg false [⟨0, (some 6), .mv (.c (.int .i64 (0))), 0, none⟩] [0, 1, 2])
 (.seq
 (.reg false [⟨0, (some 7), .mv (.c (.int .i64 (1))), 0, none⟩] [0, 1, 2, 7])
 (.seq
 (.blk 0
 (.loop [0, 1, 2, 7]
 (.seq
 (.seq
 (.reg false [⟨0, (some 8), .mv (.t 2), 0, none⟩, ⟨1, (some 9), .bin .gtr (.t 8) (.c (.int .i64 (0))), 0, none⟩] [0, 1, 2, 7, 9])
 (.cond (.t 9)
 (.skip)
 (.exit 0)))
 (.seq
 (.blk 1
 (.seq
 (.seq
 (.reg false [⟨0, (some 12), .mv (.t 2), 0, none⟩, ⟨1, (some 13), .bin .rem (.t 12) (.c (.int .i64 (2))), 0, none⟩, ⟨2, (some 14), .bin .eql (.t 13) (.c (.int .i64 (1))), 0, none⟩] [0, 1, 2, 7, 14])
 (.cond (.t 14)
 (.reg false [⟨0, (some 15), .mv (.t 0), 0, none⟩, ⟨1, (some 16), .mv (.t 7), 0, none⟩, ⟨2, (some 17), .mv (.t 1), 0, none⟩, ⟨3, (some 18), .inv "dauber/field.product" (.t 15) [.t 16, .t 17], 2, none⟩, ⟨4, (some 7), .mv (.t 18), 0, none⟩] [0, 1, 2, 7])
 (.skip)))
 (.reg false [⟨0, (some 19), .mv (.t 0), 0, none⟩, ⟨1, (some 20), .mv (.t 1), 0, none⟩, ⟨2, (some 21), .mv (.t 1), 0, none⟩, ⟨3, (some 22), .inv "dauber/field.product" (.t 19) [.t 20, .t 21], 2, none⟩, ⟨4, (some 1), .mv (.t 22), 0, none⟩] [0, 1, 2, 7])))
 (.reg false [⟨0, (some 10), .mv (.t 2), 0, none⟩, ⟨1, (some 11), .bin .quo (.t 10) (.c (.int .i64 (2))), 0, none⟩, ⟨2, (some 2), .mv (.t 11), 0, none⟩] [0, 1, 2, 7])))))
 (.seq
 (.reg false [⟨0, (some 23), .mv (.t 7), 0, none⟩, ⟨1, (some 6), .mv (.t 23), 0, none⟩] [6])
 (.ret))))

theorem ok182 : okF Tryz.prog 182 3 c182 [.tmp 6] = true := by kernel_rfl

/-- dauber/field.digits -/
def c183 : C :=
 .seq
 (.reg false [⟨0, (some 4), .mv (.c (.nils)), 0, none⟩] [0, 1])
 (.seq
 (.reg false [⟨0, (some 5), .nilo 1, 0, none⟩] [0, 1, 5])
 (.seq
 (.blk 0
 (.loop [0, 1, 5]
 (.seq
 (.seq
 (.reg false [⟨0, (some 6), .mv (.t 0), 0, none⟩, ⟨1, (some 7), .bin .gtr (.t 6) (.c (.int .i64 (0))), 0, none⟩] [0, 1, 5, 7])
 (.cond (.t 7)
 (.skip)
 (.exit 0)))
 (.seq
 (.blk 1
 (.reg false [⟨0, (some 11), .mv (.t 5), 0, none⟩, ⟨1, (some 12), .mv (.t 0), 0, none⟩, ⟨2, (some 13), .mv (.t 1), 0, none⟩, ⟨3, (some 14), .bin .rem (.t 12) (.t 13), 0, none⟩, ⟨4, (some 15), .bsl 1 1 [.int .i64 (0)] [(0, 1, .t 14)], 0, none⟩, ⟨5, (some 16), .app 1 8 (.t 11) (.t 15), 0, none⟩, ⟨6, (some 5), .mv (.t 16), 0, none⟩] [0, 1, 5]))
 (.reg false [⟨0, (some 8), .mv (.t 0), 0, none⟩, ⟨1, (some 9), .mv (.t 1), 0, none⟩, ⟨2, (some 10), .bin .quo (.t 8) (.t 9), 0, none⟩, ⟨3, (some 0), .mv (.t 10), 0, none⟩] [0, 1, 5])))))
 (.seq
 (.reg false [⟨0, (some 17), .mv (.t 5), 0, none⟩, ⟨1, (some 4), .mv (.t 17), 0, none⟩] [4])
 (.ret))))

theorem ok183 : okF Tryz.prog 183 2 c183 [.tmp 4] = true := by kernel_rfl

/-- dauber/field.reduced -/
def c185 : C :=
 .seq
 (.reg false [⟨0, (some 6), .mv (.c (.nils)), 0, none⟩] [0, 1, 2])
 (.seq
 (.reg false [⟨0, (some 12), .mv (.t 0), 0, none⟩, ⟨1, (some 13), .call 206 [.t 12], 2, none⟩, ⟨2, (some 0), .mv (.t 13), 0, none⟩] [0, 1, 2])
 (.seq
 (.reg false [⟨0, (some 14), .mv (.t 1), 0, none⟩, ⟨1, (some 15), .len none (.t 14), 0, none⟩, ⟨2, (some 16), .bin .sub (.t 15) (.c (.int .i64 (1))), 0, none⟩, ⟨3, (some 7), .mv (.t 16), 0, none⟩] [0, 1, 2, 7])
 (.seq
 (.seq
 (.reg false [⟨0, (some 17), .mv (.t 0), 0, none⟩, ⟨1, (some 18), .len none (.t 17), 0, none⟩, ⟨2, (some 19), .bin .sub (.t 18) (.c (.int .i64 (1))), 0, none⟩, ⟨3, (some 8), .mv (.t 19), 0, none⟩] [0, 1, 2, 7, 8])
 (.blk 0
 (.loop [0, 1, 2, 7, 8]
 (.seq
 (.seq
 (.reg false [⟨0, (some 20), .mv (.t 8), 0, none⟩, ⟨1, (some 21), .mv (.t 7), 0, none⟩, ⟨2, (some 22), .bin .geq (.t 20) (.t 21), 0, none⟩] [0, 1, 2, 7, 8, 22])
 (.cond (.t 22)
 (.skip)
 (.exit 0)))
 (.seq
 (.blk 1
 (.seq
 (.reg false [⟨0, (some 25), .mv (.t 0), 0, none⟩, ⟨1, (some 26), .mv (.t 8), 0, none⟩, ⟨2, (some 27), .iaddr none 1 (.t 25) (.t 26), 0, none⟩, ⟨3, (some 28), .load none (.t 27), 0, none⟩, ⟨4, (some 9), .mv (.t 28), 0, none⟩] [0, 1, 2, 7, 8, 9])
 (.seq
 (.reg false [⟨0, (some 29), .mv (.t 1), 0, none⟩, ⟨1, (some 30), .len none (.t 29), 0, none⟩, ⟨2, (some 31), .mv (.c (.int .i64 (0))), 0, none⟩] [0, 1, 2, 7, 8, 9, 29, 30, 31])
 (.blk 2
 (.loop [0, 1, 2, 7, 8, 9, 29, 30, 31]
 (.seq
 (.reg false [⟨0, (some 32), .bin .lss (.t 31) (.t 30), 0, none⟩] [0, 1, 2, 7, 8, 9, 29, 30, 31, 32])
 (.seq
 (.cond (.t 32)
 (.skip)
 (.exit 2))
 (.seq
 (.blk 3
 (.seq
 (.reg false [⟨0, (some 33), .mv (.t 31), 0, none⟩, ⟨1, (some 34), .iaddr none 1 (.t 29) (.t 31), 0, none⟩, ⟨2, (some 35), .load none (.t 34), 0, none⟩, ⟨3, (some 10), .mv (.t 33), 0, none⟩, ⟨4, (some 11), .mv (.t 35), 0, none⟩] [0, 1, 2, 7, 8, 9, 10, 11, 29, 30, 31])
 (.reg false [⟨0, (some 36), .mv (.t 0), 0, none⟩, ⟨1, (some 37), .mv (.t 8), 0, none⟩, ⟨2, (some 38), .mv (.t 7), 0, none⟩, ⟨3, (some 39), .bin .sub (.t 37) (.t 38), 0, none⟩, ⟨4, (some 40), .mv (.t 10), 0, none⟩, ⟨5, (some 41), .bin .add (.t 39) (.t 40), 0, none⟩, ⟨6, (some 42), .mv (.t 0), 0, none⟩, ⟨7, (some 43), .mv (.t 8), 0, none⟩, ⟨8, (some 44), .mv (.t 7), 0, none⟩, ⟨9, (some 45), .bin .sub (.t 43) (.t 44), 0, none⟩, ⟨10, (some 46), .mv (.t 10), 0, none⟩, ⟨11, (some 47), .bin .add (.t 45) (.t 46), 0, none⟩, ⟨12, (some 48), .iaddr none 1 (.t 42) (.t 47), 0, none⟩, ⟨13, (some 49), .load none (.t 48), 0, none⟩, ⟨14, (some 50), .mv (.t 2), 0, none⟩, ⟨15, (some 51), .mv (.t 9), 0, none⟩, ⟨16, (some 52), .bin .sub (.t 50) (.t 51), 0, none⟩, ⟨17, (some 53), .mv (.t 11), 0, none⟩, ⟨18, (some 54), .bin .mul (.t 52) (.t 53), 0, none⟩, ⟨19, (some 55), .bin .add (.t 49) (.t 54), 0, none⟩, ⟨20, (some 56), .mv (.t 2), 0, none⟩, ⟨21, (some 57), .bin .rem (.t 55) (.t 56), 0, none⟩, ⟨22, (some 58), .iaddr none 1 (.t 36) (.t 41), 0, none⟩, ⟨23, none, .store 1 (.t 58) (.t 57), 0, none⟩] [0, 1, 2, 7, 8, 9, 29, 30, 31])))
 (.reg false [⟨0, (some 59), .bin .add (.t 31) (.c (.int .i64 (1))), 0, none⟩, ⟨1, (some 31), .mv (.t 59), 0, none⟩] [0, 1, 2, 7, 8, 9, 29, 30, 31])))))))))
 (.reg false [⟨0, (some 23), .mv (.t 8), 0, none⟩, ⟨1, (some 24), .bin .sub (.t 23) (.c (.int .i64 (1))), 0, none⟩, ⟨2, (some 8), .mv (.t 24), 0, none⟩] [0, 1, 2, 7, 8]))))))
 (.seq
 (.reg false [⟨0, (some 60), .mv (.t 0), 0, none⟩, ⟨1, (some 61), .mv (.t 7), 0, none⟩, ⟨2, (some 62), .mv (.t 0), 0, none⟩, ⟨3, (some 63), .len none (.t 62), 0, none⟩, ⟨4, (some 64), .mn [.t 61, .t 63], 0, none⟩, ⟨5, (some 65), .slc none 1 (.t 60) none (some (.t 64)) none, 0, none⟩, ⟨6, (some 6), .mv (.t 65), 0, none⟩] [6])
 (.ret)))))

theorem ok185 : okF Tryz.prog 185 3 c185 [.tmp 6] = true := by kernel_rfl

/-- dauber/field.newTables$1 -/
def c187 : C :=
 .seq
 (.reg false [⟨0, (some 3), .mv (.c (.int .i64 (0))), 0, none⟩] [0, 1, 2])
 (.seq
 (.reg false [⟨0, (some 5), .load none (.t 0), 0, none⟩, ⟨1, (some 4), .mv (.t 5), 0, none⟩] [0, 1, 2, 4])
 (.seq
 (.reg false [⟨0, (some 6), .load (some 3) (.t 1), 0, none⟩, ⟨1, (some 7), .load none (.t 0), 0, none⟩, ⟨2, (some 8), .load none (.t 2), 0, none⟩, ⟨3, (some 9), .call 188 [.t 6, .t 7, .t 8], 2, none⟩, ⟨4, none, .store 1 (.t 0) (.t 9), 0, none⟩] [4])
 (.seq
 (.reg false [⟨0, (some 10), .mv (.t 4), 0, none⟩, ⟨1, (some 3), .mv (.t 10), 0, none⟩] [3])
 (.ret))))

theorem ok187 : okF Tryz.prog 187 3 c187 [.tmp 3] = true := by kernel_rfl

/-- (dauber/field.slow).product -/
def c188 : C :=
 .seq
 (.reg false [⟨0, (some 3), .box 3 (.t 0), 0, none⟩, ⟨1, (some 6), .mv (.c (.int .i64 (0))), 0, none⟩] [1, 2, 3])
 (.seq
 (.reg true [⟨0, (some 14), .mv (.t 1), 0, none⟩, ⟨1, (some 15), .faddr 0 (.t 3), 0, none⟩, ⟨2, (some 16), .faddr 0 (.t 15), 0, none⟩, ⟨5, (some 19), .mv (.t 2), 0, none⟩, ⟨6, (some 20), .faddr 0 (.t 3), 0, none⟩, ⟨7, (some 21), .faddr 0 (.t 20), 0, none⟩, ⟨3, (some 17), .load none (.t 16), 0, none⟩, ⟨8, (some 22), .load none (.t 21), 0, none⟩, ⟨4, (some 18), .call 183 [.t 14, .t 17], 1, none⟩, ⟨9, (some 23), .call 183 [.t 19, .t 22], 1, none⟩, ⟨10, (some 7), .mv (.t 18), 0, none⟩, ⟨11, (some 8), .mv (.t 23), 0, none⟩] [3, 7, 8])
 (.seq
 (.seq
 (.reg false [⟨0, (some 24), .mv (.t 7), 0, none⟩, ⟨1, (some 25), .len none (.t 24), 0, none⟩, ⟨2, (some 26), .bin .eql (.t 25) (.c (.int .i64 (0))), 0, none⟩, ⟨3, (some 27), .mv (.t 26), 0, none⟩, ⟨4, (some 28), .mv (.t 8), 0, (some (27, false))⟩, ⟨5, (some 29), .len none (.t 28), 0, (some (27, false))⟩, ⟨6, (some 30), .bin .eql (.t 29) (.c (.int .i64 (0))), 0, (some (27, false))⟩, ⟨7, (some 31), .pick (.t 27) (.c (.bool true)) (.t 30), 0, none⟩] [3, 7, 8, 31])
 (.cond (.t 31)
 (.seq
 (.reg false [⟨0, (some 6), .mv (.c (.int .i64 (0))), 0, none⟩] [6])
 (.ret))
 (.skip)))
 (.seq
 (.reg false [⟨0, (some 32), .mv (.t 7), 0, none⟩, ⟨1, (some 33), .len none (.t 32), 0, none⟩, ⟨2, (some 34), .mv (.t 8), 0, none⟩, ⟨3, (some 35), .len none (.t 34), 0, none⟩, ⟨4, (some 36), .bin .add (.t 33) (.t 35), 0, none⟩, ⟨5, (some 37), .bin .sub (.t 36) (.c (.int .i64 (1))), 0, none⟩, ⟨6, (some 38), .mksl 1 8 [.int .i64 (0)] (.t 37) (.t 37), 0, none⟩, ⟨7, (some 9), .mv (.t 38), 0, none⟩] [3, 7, 8, 9])
 (.seq
 (.seq
 (.reg false [⟨0, (some 39), .mv (.t 7), 0, none⟩, ⟨1, (some 40), .len none (.t 39), 0, none⟩, ⟨2, (some 41), .mv (.c (.int .i64 (0))), 0, none⟩] [3, 8, 9, 39, 40, 41])
 (.blk 0
 (.loop [3, 8, 9, 39, 40, 41]
 (.seq
 (.reg false [⟨0, (some 42), .bin .lss (.t 41) (.t 40), 0, none⟩] [3, 8, 9, 39, 40, 41, 42])
 (.seq
 (.cond (.t 42)
 (.skip)
 (.exit 0))
 (.seq
 (.blk 1
 (.seq
 (.reg false [⟨0, (some 43), .mv (.t 41), 0, none⟩, ⟨1, (some 44), .iaddr none 1 (.t 39) (.t 41), 0, none⟩, ⟨2, (some 45), .load none (.t 44), 0, none⟩, ⟨3, (some 10), .mv (.t 43), 0, none⟩, ⟨4, (some 11), .mv (.t 45), 0, none⟩] [3, 8, 9, 10, 11, 39, 40, 41])
 (.seq
 (.reg false [⟨0, (some 46), .mv (.t 8), 0, none⟩, ⟨1, (some 47), .len none (.t 46), 0, none⟩, ⟨2, (some 48), .mv (.c (.int .i64 (0))), 0, none⟩] [3, 8, 9, 10, 11, 39, 40, 41, 46, 47, 48])
 (.blk 2
 (.loop [3, 8, 9, 10, 11, 39, 40, 41, 46, 47, 48]
 (.seq
 (.reg false [⟨0, (some 49), .bin .lss (.t 48) (.t 47), 0, none⟩] [3, 8, 9, 10, 11, 39, 40, 41, 46, 47, 48, 49])
 (.seq
 (.cond (.t 49)
 (.skip)
 (.exit 2))
 (.seq
 (.blk 3
 (.seq
 (.reg false [⟨0, (some 50), .mv (.t 48), 0, none⟩, ⟨1, (some 51), .iaddr none 1 (.t 46) (.t 48), 0, none⟩, ⟨2, (some 52), .load none (.t 51), 0, none⟩, ⟨3, (some 12), .mv (.t 50), 0, none⟩, ⟨4, (some 13), .mv (.t 52), 0, none⟩] [3, 8, 9, 10, 11, 12, 13, 39, 40, 41, 46, 47, 48])
 (.reg true [⟨0, (some 53), .mv (.t 9), 0, none⟩, ⟨1, (some 54), .mv (.t 10), 0, none⟩, ⟨2, (some 55), .mv (.t 12), 0, none⟩, ⟨3, (some 56), .bin .add (.t 54) (.t 55), 0, none⟩, ⟨4, (some 57), .mv (.t 9), 0, none⟩, ⟨5, (some 58), .mv (.t 10), 0, none⟩, ⟨6, (some 59), .mv (.t 12), 0, none⟩, ⟨7, (some 60), .bin .add (.t 58) (.t 59), 0, none⟩, ⟨8, (some 61), .iaddr none 1 (.t 57) (.t 60), 0, none⟩, ⟨10, (some 63), .mv (.t 11), 0, none⟩, ⟨11, (some 64), .mv (.t 13), 0, none⟩, ⟨12, (some 65), .bin .mul (.t 63) (.t 64), 0, none⟩, ⟨14, (some 67), .faddr 0 (.t 3), 0, none⟩, ⟨15, (some 68), .faddr 0 (.t 67), 0, none⟩, ⟨9, (some 62), .load none (.t 61), 0, none⟩, ⟨13, (some 66), .bin .add (.t 62) (.t 65), 0, none⟩, ⟨16, (some 69), .load none (.t 68), 0, none⟩, ⟨17, (some 70), .bin .rem (.t 66) (.t 69), 0, none⟩, ⟨18, (some 71), .iaddr none 1 (.t 53) (.t 56), 0, none⟩, ⟨19, none, .store 1 (.t 71) (.t 70), 0, none⟩] [3, 8, 9, 10, 11, 39, 40, 41, 46, 47, 48])))
 (.reg false [⟨0, (some 72), .bin .add (.t 48) (.c (.int .i64 (1))), 0, none⟩, ⟨1, (some 48), .mv (.t 72), 0, none⟩] [3, 8, 9, 10, 11, 39, 40, 41, 46, 47, 48])))))))))
 (.reg false [⟨0, (some 73), .bin .add (.t 41) (.c (.int .i64 (1))), 0, none⟩, ⟨1, (some 41), .mv (.t 73), 0, none⟩] [3, 8, 9, 39, 40, 41])))))))
 (.seq
 (.reg true [⟨0, (some 74), .mv (.t 9), 0, none⟩, ⟨1, (some 75), .faddr 1 (.t 3), 0, none⟩, ⟨3, (some 77), .faddr 0 (.t 3), 0, none⟩, ⟨4, (some 78), .faddr 0 (.t 77), 0, none⟩, ⟨7, (some 81), .faddr 0 (.t 3), 0, none⟩, ⟨8, (some 82), .faddr 0 (.t 81), 0, none⟩, ⟨2, (some 76), .load none (.t 75), 0, none⟩, ⟨5, (some 79), .load none (.t 78), 0, none⟩, ⟨9, (some 83), .load none (.t 82), 0, none⟩, ⟨6, (some 80), .call 185 [.t 74, .t 76, .t 79], 1, none⟩, ⟨10, (some 84), .call 207 [.t 80, .t 83], 1, none⟩, ⟨11, (some 6), .mv (.t 84), 0, none⟩] [6])
 (.ret))))))

theorem ok188 : okF Tryz.prog 188 3 c188 [.tmp 6] = true := by kernel_rfl

/-- (*dauber/field.Field).areElements$1 -/
def c189 : C :=
 .seq
 (.reg false [⟨0, (some 3), .mv (.c (.bool false)), 0, none⟩] [0, 1])
 (.seq
 (.reg false [⟨0, (some 4), .mv (.t 0), 0, none⟩, ⟨1, (some 5), .bin .lss (.t 4) (.c (.int .i64 (0))), 0, none⟩, ⟨2, (some 6), .mv (.t 5), 0, none⟩, ⟨3, (some 7), .mv (.t 0), 0, (some (6, false))⟩, ⟨4, (some 8), .load none (.t 1), 0, (some (6, false))⟩, ⟨5, (some 9), .nilc (.t 8), 0, (some (6, false))⟩, ⟨6, (some 10), .faddr 1 (.t 9), 0, (some (6, false))⟩, ⟨7, (some 11), .load none (.t 10), 0, (some (6, false))⟩, ⟨8, (some 12), .bin .geq (.t 7) (.t 11), 0, (some (6, false))⟩, ⟨9, (some 13), .pick (.t 6) (.c (.bool true)) (.t 12), 0, none⟩, ⟨10, (some 3), .mv (.t 13), 0, none⟩] [3])
 (.ret))

theorem ok189 : okF Tryz.prog 189 2 c189 [.tmp 3] = true := by kernel_rfl

/-- (*dauber/field.Field).plus -/
def c190 : C :=
 .seq
 (.reg false [⟨0, (some 8), .mv (.c (.nils)), 0, none⟩] [0, 1, 2, 3])
 (.seq
 (.reg false [⟨0, (some 12), .mv (.t 1), 0, none⟩, ⟨1, (some 13), .len none (.t 12), 0, none⟩, ⟨2, (some 14), .mv (.t 3), 0, none⟩, ⟨3, (some 15), .len none (.t 14), 0, none⟩, ⟨4, (some 16), .mx [.t 13, .t 15], 0, none⟩, ⟨5, (some 17), .mksl 1 8 [.int .i64 (0)] (.t 16) (.t 16), 0, none⟩, ⟨6, (some 9), .mv (.t 17), 0, none⟩] [0, 1, 2, 3, 9])
 (.seq
 (.reg false [⟨0, (some 18), .mv (.t 9), 0, none⟩, ⟨1, (some 19), .mv (.t 1), 0, none⟩, ⟨2, (some 20), .cpy 1 (.t 18) (.t 19), 0, none⟩] [0, 2, 3, 9])
 (.seq
 (.seq
 (.reg false [⟨0, (some 21), .mv (.t 3), 0, none⟩, ⟨1, (some 22), .len none (.t 21), 0, none⟩, ⟨2, (some 23), .mv (.c (.int .i64 (0))), 0, none⟩] [0, 2, 9, 21, 22, 23])
 (.blk 0
 (.loop [0, 2, 9, 21, 22, 23]
 (.seq
 (.reg false [⟨0, (some 24), .bin .lss (.t 23) (.t 22), 0, none⟩] [0, 2, 9, 21, 22, 23, 24])
 (.seq
 (.cond (.t 24)
 (.skip)
 (.exit 0))
 (.seq
 (.blk 1
 (.seq
 (.reg false [⟨0, (some 25), .mv (.t 23), 0, none⟩, ⟨1, (some 26), .iaddr none 1 (.t 21) (.t 23), 0, none⟩, ⟨2, (some 27), .load none (.t 26), 0, none⟩, ⟨3, (some 10), .mv (.t 25), 0, none⟩, ⟨4, (some 11), .mv (.t 27), 0, none⟩] [0, 2, 9, 10, 11, 21, 22, 23])
 (.reg true [⟨0, (some 28), .mv (.t 9), 0, none⟩, ⟨1, (some 29), .mv (.t 10), 0, none⟩, ⟨2, (some 30), .mv (.t 0), 0, none⟩, ⟨3, (some 31), .nilc (.t 30), 0, none⟩, ⟨4, (some 32), .faddr 0 (.t 31), 0, none⟩, ⟨6, (some 34), .mv (.t 9), 0, none⟩, ⟨7, (some 35), .mv (.t 10), 0, none⟩, ⟨8, (some 36), .iaddr none 1 (.t 34) (.t 35), 0, none⟩, ⟨10, (some 38), .mv (.t 0), 0, none⟩, ⟨11, (some 39), .nilc (.t 38), 0, none⟩, ⟨12, (some 40), .faddr 0 (.t 39), 0, none⟩, ⟨14, (some 42), .mv (.t 2), 0, none⟩, ⟨15, (some 43), .mv (.t 11), 0, none⟩, ⟨5, (some 33), .load none (.t 32), 0, none⟩, ⟨17, (some 45), .nilc (.t 33), 0, none⟩, ⟨18, (some 46), .mv (.t 33), 0, none⟩, ⟨9, (some 37), .load none (.t 36), 0, none⟩, ⟨13, (some 41), .load none (.t 40), 0, none⟩, ⟨16, (some 44), .inv "dauber/field.product" (.t 41) [.t 42, .t 43], 1, none⟩, ⟨19, (some 47), .inv "dauber/field.sum" (.t 46) [.t 37, .t 44], 1, none⟩, ⟨20, (some 48), .iaddr none 1 (.t 28) (.t 29), 0, none⟩, ⟨21, none, .store 1 (.t 48) (.t 47), 0, none⟩] [0, 2, 9, 21, 22, 23])))
 (.reg false [⟨0, (some 49), .bin .add (.t 23) (.c (.int .i64 (1))), 0, none⟩, ⟨1, (some 23), .mv (.t 49), 0, none⟩] [0, 2, 9, 21, 22, 23])))))))
 (.seq
 (.reg false [⟨0, (some 50), .mv (.t 9), 0, none⟩, ⟨1, (some 51), .call 208 [.t 50], 2, none⟩, ⟨2, (some 8), .mv (.t 51), 0, none⟩] [8])
 (.ret)))))

theorem ok190 : okF Tryz.prog 190 4 c190 [.tmp 8] = true := by kernel_rfl

/-- (*dauber/field.Field).times -/
def c191 : C :=
 .seq
 (.reg false [⟨0, (some 6), .mv (.c (.nils)), 0, none⟩] [0, 1, 2])
 (.seq
 (.seq
 (.reg false [⟨0, (some 12), .mv (.t 1), 0, none⟩, ⟨1, (some 13), .len none (.t 12), 0, none⟩, ⟨2, (some 14), .bin .eql (.t 13) (.c (.int .i64 (0))), 0, none⟩, ⟨3, (some 15), .mv (.t 14), 0, none⟩, ⟨4, (some 16), .mv (.t 2), 0, (some (15, false))⟩, ⟨5, (some 17), .len none (.t 16), 0, (some (15, false))⟩, ⟨6, (some 18), .bin .eql (.t 17) (.c (.int .i64 (0))), 0, (some (15, false))⟩, ⟨7, (some 19), .pick (.t 15) (.c (.bool true)) (.t 18), 0, none⟩] [0, 1, 2, 19])
 (.cond (.t 19)
 (.seq
 (.reg false [⟨0, (some 6), .mv (.c (.nils)), 0, none⟩] [6])
 (.ret))
 (.skip)))
 (.seq
 (.reg false [⟨0, (some 20), .mv (.t 1), 0, none⟩, ⟨1, (some 21), .len none (.t 20), 0, none⟩, ⟨2, (some 22), .mv (.t 2), 0, none⟩, ⟨3, (some 23), .len none (.t 22), 0, none⟩, ⟨4, (some 24), .bin .add (.t 21) (.t 23), 0, none⟩, ⟨5, (some 25), .bin .sub (.t 24) (.c (.int .i64 (1))), 0, none⟩, ⟨6, (some 26), .mksl 1 8 [.int .i64 (0)] (.t 25) (.t 25), 0, none⟩, ⟨7, (some 7), .mv (.t 26), 0, none⟩] [0, 1, 2, 7])
 (.seq
 (.seq
 (.reg false [⟨0, (some 27), .mv (.t 1), 0, none⟩, ⟨1, (some 28), .len none (.t 27), 0, none⟩, ⟨2, (some 29), .mv (.c (.int .i64 (0))), 0, none⟩] [0, 2, 7, 27, 28, 29])
 (.blk 0
 (.loop [0, 2, 7, 27, 28, 29]
 (.seq
 (.reg false [⟨0, (some 30), .bin .lss (.t 29) (.t 28), 0, none⟩] [0, 2, 7, 27, 28, 29, 30])
 (.seq
 (.cond (.t 30)
 (.skip)
 (.exit 0))
 (.seq
 (.blk 1
 (.seq
 (.reg false [⟨0, (some 31), .mv (.t 29), 0, none⟩, ⟨1, (some 32), .iaddr none 1 (.t 27) (.t 29), 0, none⟩, ⟨2, (some 33), .load none (.t 32), 0, none⟩, ⟨3, (some 8), .mv (.t 31), 0, none⟩, ⟨4, (some 9), .mv (.t 33), 0, none⟩] [0, 2, 7, 8, 9, 27, 28, 29])
 (.seq
 (.reg false [⟨0, (some 34), .mv (.t 2), 0, none⟩, ⟨1, (some 35), .len none (.t 34), 0, none⟩, ⟨2, (some 36), .mv (.c (.int .i64 (0))), 0, none⟩] [0, 2, 7, 8, 9, 27, 28, 29, 34, 35, 36])
 (.blk 2
 (.loop [0, 2, 7, 8, 9, 27, 28, 29, 34, 35, 36]
 (.seq
 (.reg false [⟨0, (some 37), .bin .lss (.t 36) (.t 35), 0, none⟩] [0, 2, 7, 8, 9, 27, 28, 29, 34, 35, 36, 37])
 (.seq
 (.cond (.t 37)
 (.skip)
 (.exit 2))
 (.seq
 (.blk 3
 (.seq
 (.reg false [⟨0, (some 38), .mv (.t 36), 0, none⟩, ⟨1, (some 39), .iaddr none 1 (.t 34) (.t 36), 0, none⟩, ⟨2, (some 40), .load none (.t 39), 0, none⟩, ⟨3, (some 10), .mv (.t 38), 0, none⟩, ⟨4, (some 11), .mv (.t 40), 0, none⟩] [0, 2, 7, 8, 9, 10, 11, 27, 28, 29, 34, 35, 36])
 (.reg true [⟨0, (some 41), .mv (.t 7), 0, none⟩, ⟨1, (some 42), .mv (.t 8), 0, none⟩, ⟨2, (some 43), .mv (.t 10), 0, none⟩, ⟨3, (some 44), .bin .add (.t 42) (.t 43), 0, none⟩, ⟨4, (some 45), .mv (.t 0), 0, none⟩, ⟨5, (some 46), .nilc (.t 45), 0, none⟩, ⟨6, (some 47), .faddr 0 (.t 46), 0, none⟩, ⟨8, (some 49), .mv (.t 7), 0, none⟩, ⟨9, (some 50), .mv (.t 8), 0, none⟩, ⟨10, (some 51), .mv (.t 10), 0, none⟩, ⟨11, (some 52), .bin .add (.t 50) (.t 51), 0, none⟩, ⟨12, (some 53), .iaddr none 1 (.t 49) (.t 52), 0, none⟩, ⟨14, (some 55), .mv (.t 0), 0, none⟩, ⟨15, (some 56), .nilc (.t 55), 0, none⟩, ⟨16, (some 57), .faddr 0 (.t 56), 0, none⟩, ⟨18, (some 59), .mv (.t 9), 0, none⟩, ⟨19, (some 60), .mv (.t 11), 0, none⟩, ⟨7, (some 48), .load none (.t 47), 0, none⟩, ⟨21, (some 62), .nilc (.t 48), 0, none⟩, ⟨22, (some 63), .mv (.t 48), 0, none⟩, ⟨13, (some 54), .load none (.t 53), 0, none⟩, ⟨17, (some 58), .load none (.t 57), 0, none⟩, ⟨20, (some 61), .inv "dauber/field.product" (.t 58) [.t 59, .t 60], 1, none⟩, ⟨23, (some 64), .inv "dauber/field.sum" (.t 63) [.t 54, .t 61], 1, none⟩, ⟨24, (some 65), .iaddr none 1 (.t 41) (.t 44), 0, none⟩, ⟨25, none, .store 1 (.t 65) (.t 64), 0, none⟩] [0, 2, 7, 8, 9, 27, 28, 29, 34, 35, 36])))
 (.reg false [⟨0, (some 66), .bin .add (.t 36) (.c (.int .i64 (1))), 0, none⟩, ⟨1, (some 36), .mv (.t 66), 0, none⟩] [0, 2, 7, 8, 9, 27, 28, 29, 34, 35, 36])))))))))
 (.reg false [⟨0, (some 67), .bin .add (.t 29) (.c (.int .i64 (1))), 0, none⟩, ⟨1, (some 29), .mv (.t 67), 0, none⟩] [0, 2, 7, 27, 28, 29])))))))
 (.seq
 (.reg false [⟨0, (some 68), .mv (.t 7), 0, none⟩, ⟨1, (some 69), .call 208 [.t 68], 2, none⟩, ⟨2, (some 6), .mv (.t 69), 0, none⟩] [6])
 (.ret)))))

theorem ok191 : okF Tryz.prog 191 3 c191 [.tmp 6] = true := by kernel_rfl

/-- math/bits.Mul32 -/
def c201 : C :=
 .seq
 (.reg false [⟨0, (some 4), .mv (.c (.int .u32 (0))), 0, none⟩, ⟨1, (some 5), .mv (.c (.int .u32 (0))), 0, none⟩] [0, 1])
 (.seq
 (.reg false [⟨0, (some 7), .mv (.t 0), 0, none⟩, ⟨1, (some 8), .cvt .u64 (.t 7), 0, none⟩, ⟨2, (some 9), .mv (.t 1), 0, none⟩, ⟨3, (some 10), .cvt .u64 (.t 9), 0, none⟩, ⟨4, (some 11), .bin .mul (.t 8) (.t 10), 0, none⟩, ⟨5, (some 6), .mv (.t 11), 0, none⟩] [6])
 (.seq
 (.reg false [⟨0, (some 12), .mv (.t 6), 0, none⟩, ⟨1, (some 13), .bin .shr (.t 12) (.c (.int .u64 (32))), 0, none⟩, ⟨2, (some 14), .cvt .u32 (.t 13), 0, none⟩, ⟨3, (some 15), .mv (.t 6), 0, none⟩, ⟨4, (some 16), .cvt .u32 (.t 15), 0, none⟩, ⟨5, (some 4), .mv (.t 14), 0, none⟩, ⟨6, (some 5), .mv (.t 16), 0, none⟩] [4, 5])
 (.ret)))

theorem ok201 : okF Tryz.prog 201 2 c201 [.tmp 4, .tmp 5] = true := by kernel_rfl

/-- math/bits.Mul64 -/
def c202 : C :=
 .seq
 (.reg false [⟨0, (some 4), .mv (.c (.int .u64 (0))), 0, none⟩, ⟨1, (some 5), .mv (.c (.int .u64 (0))), 0, none⟩] [0, 1])
 (.seq
 (.reg false [⟨0, (some 14), .mv (.t 0), 0, none⟩, ⟨1, (some 15), .bin .and (.t 14) (.c (.int .u64 (4294967295))), 0, none⟩, ⟨2, (some 6), .mv (.t 15), 0, none⟩] [0, 1, 6])
 (.seq
 (.reg false [⟨0, (some 16), .mv (.t 0), 0, none⟩, ⟨1, (some 17), .bin .shr (.t 16) (.c (.int .u64 (32))), 0, none⟩, ⟨2, (some 7), .mv (.t 17), 0, none⟩] [0, 1, 6, 7])
 (.seq
 (.reg false [⟨0, (some 18), .mv (.t 1), 0, none⟩, ⟨1, (some 19), .bin .and (.t 18) (.c (.int .u64 (4294967295))), 0, none⟩, ⟨2, (some 8), .mv (.t 19), 0, none⟩] [0, 1, 6, 7, 8])
 (.seq
 (.reg false [⟨0, (some 20), .mv (.t 1), 0, none⟩, ⟨1, (some 21), .bin .shr (.t 20) (.c (.int .u64 (32))), 0, none⟩, ⟨2, (some 9), .mv (.t 21), 0, none⟩] [0, 1, 6, 7, 8, 9])
 (.seq
 (.reg false [⟨0, (some 22), .mv (.t 6), 0, none⟩, ⟨1, (some 23), .mv (.t 8), 0, none⟩, ⟨2, (some 24), .bin .mul (.t 22) (.t 23), 0, none⟩, ⟨3, (some 10), .mv (.t 24), 0, none⟩] [0, 1, 6, 7, 8, 9, 10])
 (.seq
 (.reg false [⟨0, (some 25), .mv (.t 7), 0, none⟩, ⟨1, (some 26), .mv (.t 8), 0, none⟩, ⟨2, (some 27), .bin .mul (.t 25) (.t 26), 0, none⟩, ⟨3, (some 28), .mv (.t 10), 0, none⟩, ⟨4, (some 29), .bin .shr (.t 28) (.c (.int .u64 (32))), 0, none⟩, ⟨5, (some 30), .bin .add (.t 27) (.t 29), 0, none⟩, ⟨6, (some 11), .mv (.t 30), 0, none⟩] [0, 1, 6, 7, 9, 11])
 (.seq
 (.reg false [⟨0, (some 31), .mv (.t 11), 0, none⟩, ⟨1, (some 32), .bin .and (.t 31) (.c (.int .u64 (4294967295))), 0, none⟩, ⟨2, (some 12), .mv (.t 32), 0, none⟩] [0, 1, 6, 7, 9, 11, 12])
 (.seq
 (.reg false [⟨0, (some 33), .mv (.t 11), 0, none⟩, ⟨1, (some 34), .bin .shr (.t 33) (.c (.int .u64 (32))), 0, none⟩, ⟨2, (some 13), .mv (.t 34), 0, none⟩] [0, 1, 6, 7, 9, 12, 13])
 (.seq
 (.reg false [⟨0, (some 35), .mv (.t 12), 0, none⟩, ⟨1, (some 36), .mv (.t 6), 0, none⟩, ⟨2, (some 37), .mv (.t 9), 0, none⟩, ⟨3, (some 38), .bin .mul (.t 36) (.t 37), 0, none⟩, ⟨4, (some 39), .bin .add (.t 35) (.t 38), 0, none⟩, ⟨5, (some 12), .mv (.t 39), 0, none⟩] [0, 1, 7, 9, 12, 13])
 (.seq
 (.reg false [⟨0, (some 40), .mv (.t 7), 0, none⟩, ⟨1, (some 41), .mv (.t 9), 0, none⟩, ⟨2, (some 42), .bin .mul (.t 40) (.t 41), 0, none⟩, ⟨3, (some 43), .mv (.t 13), 0, none⟩, ⟨4, (some 44), .bin .add (.t 42) (.t 43), 0, none⟩, ⟨5, (some 45), .mv (.t 12), 0, none⟩, ⟨6, (some 46), .bin .shr (.t 45) (.c (.int .u64 (32))), 0, none⟩, ⟨7, (some 47), .bin .add (.t 44) (.t 46), 0, none⟩, ⟨8, (some 4), .mv (.t 47), 0, none⟩] [0, 1, 4])
 (.seq
 (.reg false [⟨0, (some 48), .mv (.t 0), 0, none⟩, ⟨1, (some 49), .mv (.t 1), 0, none⟩, ⟨2, (some 50), .bin .mul (.t 48) (.t 49), 0, none⟩, ⟨3, (some 5), .mv (.t 50), 0, none⟩] [4, 5])
 (.ret))))))))))))

theorem ok202 : okF Tryz.prog 202 2 c202 [.tmp 4, .tmp 5] = true := by kernel_rfl

/-- (dauber/share.Group).has$1 -/
def c203 : C :=
 .seq
 (.reg false [⟨0, (some 3), .mv (.c (.bool false)), 0, none⟩] [0, 1])
 (.seq
 (.reg true [⟨2, (some 6), .mv (.t 0), 0, none⟩, ⟨3, (some 7), .faddr 1 (.t 1), 0, none⟩, ⟨0, (some 4), .load (some 3) (.t 1), 0, none⟩, ⟨4, (some 8), .load none (.t 7), 0, none⟩, ⟨1, (some 5), .call 169 [.t 4], 1, none⟩, ⟨5, (some 9), .call 136 [.t 5, .t 6, .t 8], 1, none⟩, ⟨6, (some 10), .bin .neq (.t 9) (.c (.int .i64 (1))), 0, none⟩, ⟨7, (some 3), .mv (.t 10), 0, none⟩] [3])
 (.ret))

theorem ok203 : okF Tryz.prog 203 2 c203 [.tmp 3] = true := by kernel_rfl

/-- dauber/field.value[int] -/
def c204 : C :=
 .seq
 (.reg false [⟨0, (some 10), .mv (.c (.int .i64 (0))), 0, none⟩] [0, 1, 2, 3, 4])
 (.seq
 (.reg false [⟨0, (some 13), .mv (.t 2), 0, none⟩, ⟨1, (some 11), .mv (.t 13), 0, none⟩] [0, 1, 3, 4, 11])
 (.seq
 (.seq
 (.reg false [⟨0, (some 14), .mv (.t 0), 0, none⟩, ⟨1, (some 15), .len none (.t 14), 0, none⟩, ⟨2, (some 16), .bin .sub (.t 15) (.c (.int .i64 (1))), 0, none⟩, ⟨3, (some 12), .mv (.t 16), 0, none⟩] [0, 1, 3, 4, 11, 12])
 (.blk 0
 (.loop [0, 1, 3, 4, 11, 12]
 (.seq
 (.seq
 (.reg false [⟨0, (some 17), .mv (.t 12), 0, none⟩, ⟨1, (some 18), .bin .geq (.t 17) (.c (.int .i64 (0))), 0, none⟩] [0, 1, 3, 4, 11, 12, 18])
 (.cond (.t 18)
 (.skip)
 (.exit 0)))
 (.seq
 (.blk 1
 (.reg true [⟨0, (some 21), .mv (.t 3), 0, none⟩, ⟨1, (some 22), .mv (.t 4), 0, none⟩, ⟨2, (some 23), .mv (.t 11), 0, none⟩, ⟨3, (some 24), .mv (.t 1), 0, none⟩, ⟨5, (some 26), .mv (.t 0), 0, none⟩, ⟨6, (some 27), .mv (.t 12), 0, none⟩, ⟨7, (some 28), .iaddr none 1 (.t 26) (.t 27), 0, none⟩, ⟨8, (some 29), .load none (.t 28), 0, none⟩, ⟨4, (some 25), .callv (.t 22) [.t 23, .t 24], 1, none⟩, ⟨9, (some 30), .callv (.t 21) [.t 25, .t 29], 1, none⟩, ⟨10, (some 11), .mv (.t 30), 0, none⟩] [0, 1, 3, 4, 11, 12]))
 (.reg false [⟨0, (some 19), .mv (.t 12), 0, none⟩, ⟨1, (some 20), .bin .sub (.t 19) (.c (.int .i64 (1))), 0, none⟩, ⟨2, (some 12), .mv (.t 20), 0, none⟩] [0, 1, 3, 4, 11, 12]))))))
 (.seq
 (.reg false [⟨0, (some 31), .mv (.t 11), 0, none⟩, ⟨1, (some 10), .mv (.t 31), 0, none⟩] [10])
 (.ret))))

theorem ok204 : okF Tryz.prog 204 5 c204 [.tmp 10] = true := by kernel_rfl

/-- slices.IndexFunc[[]int,int] -/
def c205 : C :=
 .seq
 (.reg false [⟨0, (some 4), .mv (.c (.int .i64 (0))), 0, none⟩] [0, 1])
 (.seq
 (.seq
 (.reg false [⟨0, (some 6), .mv (.t 0), 0, none⟩, ⟨1, (some 7), .len none (.t 6), 0, none⟩, ⟨2, (some 8), .mv (.c (.int .i64 (0))), 0, none⟩] [0, 1, 7, 8])
 (.blk 0
 (.loop [0, 1, 7, 8]
 (.seq
 (.reg false [⟨0, (some 9), .bin .lss (.t 8) (.t 7), 0, none⟩] [0, 1, 7, 8, 9])
 (.seq
 (.cond (.t 9)
 (.skip)
 (.exit 0))
 (.seq
 (.blk 1
 (.seq
 (.reg false [⟨0, (some 10), .mv (.t 8), 0, none⟩, ⟨1, (some 5), .mv (.t 10), 0, none⟩] [0, 1, 5, 7, 8])
 (.seq
 (.reg false [⟨0, (some 11), .mv (.t 1), 0, none⟩, ⟨1, (some 12), .mv (.t 0), 0, none⟩, ⟨2, (some 13), .mv (.t 5), 0, none⟩, ⟨3, (some 14), .iaddr none 1 (.t 12) (.t 13), 0, none⟩, ⟨4, (some 15), .load none (.t 14), 0, none⟩, ⟨5, (some 16), .callv (.t 11) [.t 15], 2, none⟩] [0, 1, 5, 7, 8, 16])
 (.cond (.t 16)
 (.seq
 (.reg false [⟨0, (some 17), .mv (.t 5), 0, none⟩, ⟨1, (some 4), .mv (.t 17), 0, none⟩] [4])
 (.ret))
 (.skip)))))
 (.reg false [⟨0, (some 18), .bin .add (.t 8) (.c (.int .i64 (1))), 0, none⟩, ⟨1, (some 8), .mv (.t 18), 0, none⟩] [0, 1, 7, 8])))))))
 (.seq
 (.reg false [⟨0, (some 4), .mv (.c (.int .i64 (-1))), 0, none⟩] [4])
 (.ret)))

theorem ok205 : okF Tryz.prog 205 2 c205 [.tmp 4] = true := by kernel_rfl

/-- slices.Clone[[]int,int] -/
def c206 : C :=
 .seq
 (.reg false [⟨0, (some 2), .mv (.c (.nils)), 0, none⟩] [0])
 (.seq
 (.seq
 (.reg false [⟨0, (some 3), .mv (.t 0), 0, none⟩, ⟨1, (some 4), .eqa false (.t 3) (.c (.nils)), 0, none⟩] [0, 4])
 (.cond (.t 4)
 (.seq
 (.reg false [⟨0, (some 2), .mv (.c (.nils)), 0, none⟩] [2])
 (.ret))
 (.skip)))
 (.seq
 (.reg false [⟨0, (some 5), .bsl 1 0 [] [], 0, none⟩, ⟨1, (some 6), .mv (.t 0), 0, none⟩, ⟨2, (some 7), .app 1 8 (.t 5) (.t 6), 0, none⟩, ⟨3, (some 2), .mv (.t 7), 0, none⟩] [2])
 (.ret)))

theorem ok206 : okF Tryz.prog 206 1 c206 [.tmp 2] = true := by kernel_rfl

/-- dauber/field.number -/
def c207 : C :=
 .seq
 (.reg false [⟨0, (some 4), .mv (.c (.int .i64 (0))), 0, none⟩] [0, 1])
 (.seq
 (.reg false [⟨0, (some 5), .mv (.c (.int .i64 (0))), 0, none⟩] [0, 1, 5])
 (.seq
 (.seq
 (.reg false [⟨0, (some 7), .mv (.t 0), 0, none⟩, ⟨1, (some 8), .len none (.t 7), 0, none⟩, ⟨2, (some 9), .bin .sub (.t 8) (.c (.int .i64 (1))), 0, none⟩, ⟨3, (some 6), .mv (.t 9), 0, none⟩] [0, 1, 5, 6])
 (.blk 0
 (.loop [0, 1, 5, 6]
 (.seq
 (.seq
 (.reg false [⟨0, (some 10), .mv (.t 6), 0, none⟩, ⟨1, (some 11), .bin .geq (.t 10) (.c (.int .i64 (0))), 0, none⟩] [0, 1, 5, 6, 11])
 (.cond (.t 11)
 (.skip)
 (.exit 0)))
 (.seq
 (.blk 1
 (.reg false [⟨0, (some 14), .mv (.t 5), 0, none⟩, ⟨1, (some 15), .mv (.t 1), 0, none⟩, ⟨2, (some 16), .bin .mul (.t 14) (.t 15), 0, none⟩, ⟨3, (some 17), .mv (.t 0), 0, none⟩, ⟨4, (some 18), .mv (.t 6), 0, none⟩, ⟨5, (some 19), .iaddr none 1 (.t 17) (.t 18), 0, none⟩, ⟨6, (some 20), .load none (.t 19), 0, none⟩, ⟨7, (some 21), .bin .add (.t 16) (.t 20), 0, none⟩, ⟨8, (some 5), .mv (.t 21), 0, none⟩] [0, 1, 5, 6]))
 (.reg false [⟨0, (some 12), .mv (.t 6), 0, none⟩, ⟨1, (some 13), .bin .sub (.t 12) (.c (.int .i64 (1))), 0, none⟩, ⟨2, (some 6), .mv (.t 13), 0, none⟩] [0, 1, 5, 6]))))))
 (.seq
 (.reg false [⟨0, (some 22), .mv (.t 5), 0, none⟩, ⟨1, (some 4), .mv (.t 22), 0, none⟩] [4])
 (.ret))))

theorem ok207 : okF Tryz.prog 207 2 c207 [.tmp 4] = true := by kernel_rfl

/-- dauber/field.trim -/
def c208 : C :=
 .seq
 (.reg false [⟨0, (some 2), .mv (.c (.nils)), 0, none⟩] [0])
 (.seq
 (.reg false [⟨0, (some 4), .mv (.t 0), 0, none⟩, ⟨1, (some 5), .len none (.t 4), 0, none⟩, ⟨2, (some 3), .mv (.t 5), 0, none⟩] [0, 3])
 (.seq
 (.blk 0
 (.loop [0, 3]
 (.seq
 (.seq
 (.reg false [⟨0, (some 6), .mv (.t 3), 0, none⟩, ⟨1, (some 7), .bin .gtr (.t 6) (.c (.int .i64 (0))), 0, none⟩, ⟨2, (some 8), .mv (.t 7), 0, none⟩, ⟨3, (some 9), .mv (.t 0), 0, (some (8, true))⟩, ⟨4, (some 10), .mv (.t 3), 0, (some (8, true))⟩, ⟨5, (some 11), .bin .sub (.t 10) (.c (.int .i64 (1))), 0, (some (8, true))⟩, ⟨6, (some 12), .iaddr none 1 (.t 9) (.t 11), 0, (some (8, true))⟩, ⟨7, (some 13), .load none (.t 12), 0, (some (8, true))⟩, ⟨8, (some 14), .bin .eql (.t 13) (.c (.int .i64 (0))), 0, (some (8, true))⟩, ⟨9, (some 15), .pick (.t 8) (.t 14) (.c (.bool false)), 0, none⟩] [0, 3, 15])
 (.cond (.t 15)
 (.skip)
 (.exit 0)))
 (.blk 1
 (.reg false [⟨0, (some 16), .mv (.t 3), 0, none⟩, ⟨1, (some 17), .bin .sub (.t 16) (.c (.int .i64 (1))), 0, none⟩, ⟨2, (some 3), .mv (.t 17), 0, none⟩] [0, 3])))))
 (.seq
 (.reg false [⟨0, (some 18), .mv (.t 0), 0, none⟩, ⟨1, (some 19), .mv (.t 3), 0, none⟩, ⟨2, (some 20), .mv (.t 3), 0, none⟩, ⟨3, (some 21), .slc none 1 (.t 18) none (some (.t 19)) (some (.t 20)), 0, none⟩, ⟨4, (some 2), .mv (.t 21), 0, none⟩] [2])
 (.ret))))

theorem ok208 : okF Tryz.prog 208 1 c208 [.tmp 2] = true := by kernel_rfl

/-- (dauber/field.modular).difference -/
def c269 : C :=
 .seq
 (.reg false [⟨0, (some 3), .box 1 (.t 0), 0, none⟩, ⟨1, (some 6), .mv (.c (.int .i64 (0))), 0, none⟩] [1, 2, 3])
 (.seq
 (.reg false [⟨0, (some 7), .mv (.t 1), 0, none⟩, ⟨1, (some 8), .mv (.t 2), 0, none⟩, ⟨2, (some 9), .bin .sub (.t 7) (.t 8), 0, none⟩, ⟨3, (some 10), .faddr 0 (.t 3), 0, none⟩, ⟨4, (some 11), .load none (.t 10), 0, none⟩, ⟨5, (some 12), .bin .add (.t 9) (.t 11), 0, none⟩, ⟨6, (some 13), .faddr 0 (.t 3), 0, none⟩, ⟨7, (some 14), .load none (.t 13), 0, none⟩, ⟨8, (some 15), .bin .rem (.t 12) (.t 14), 0, none⟩, ⟨9, (some 6), .mv (.t 15), 0, none⟩] [6])
 (.ret))

theorem ok269 : okF Tryz.prog 269 3 c269 [.tmp 6] = true := by kernel_rfl

/-- (dauber/field.modular).inverse -/
def c270 : C :=
 .seq
 (.reg false [⟨0, (some 2), .box 1 (.t 0), 0, none⟩, ⟨1, (some 4), .mv (.c (.int .i64 (0))), 0, none⟩] [1, 2])
 (.seq
 (.reg false [⟨0, (some 5), .load (some 1) (.t 2), 0, none⟩, ⟨1, (some 6), .mkif 213 (.t 5), 0, none⟩, ⟨2, (some 7), .mv (.t 1), 0, none⟩, ⟨3, (some 8), .faddr 0 (.t 2), 0, none⟩, ⟨4, (some 9), .load none (.t 8), 0, none⟩, ⟨5, (some 10), .bin .sub (.t 9) (.c (.int .i64 (2))), 0, none⟩, ⟨6, (some 11), .call 182 [.t 6, .t 7, .t 10], 2, none⟩, ⟨7, (some 4), .mv (.t 11), 0, none⟩] [4])
 (.ret))

theorem ok270 : okF Tryz.prog 270 2 c270 [.tmp 4] = true := by kernel_rfl

/-- (dauber/field.modular).product -/
def c271 : C :=
 .seq
 (.reg false [⟨0, (some 3), .box 1 (.t 0), 0, none⟩, ⟨1, (some 6), .mv (.c (.int .i64 (0))), 0, none⟩] [1, 2, 3])
 (.seq
 (.reg false [⟨0, (some 7), .mv (.t 1), 0, none⟩, ⟨1, (some 8), .mv (.t 2), 0, none⟩, ⟨2, (some 9), .bin .mul (.t 7) (.t 8), 0, none⟩, ⟨3, (some 10), .faddr 0 (.t 3), 0, none⟩, ⟨4, (some 11), .load none (.t 10), 0, none⟩, ⟨5, (some 12), .bin .rem (.t 9) (.t 11), 0, none⟩, ⟨6, (some 6), .mv (.t 12), 0, none⟩] [6])
 (.ret))

theorem ok271 : okF Tryz.prog 271 3 c271 [.tmp 6] = true := by kernel_rfl

/-- (dauber/field.modular).sum -/
def c272 : C :=
 .seq
 (.reg false [⟨0, (some 3), .box 1 (.t 0), 0, none⟩, ⟨1, (some 6), .mv (.c (.int .i64 (0))), 0, none⟩] [1, 2, 3])
 (.seq
 (.reg false [⟨0, (some 7), .mv (.t 1), 0, none⟩, ⟨1, (some 8), .mv (.t 2), 0, none⟩, ⟨2, (some 9), .bin .add (.t 7) (.t 8), 0, none⟩, ⟨3, (some 10), .faddr 0 (.t 3), 0, none⟩, ⟨4, (some 11), .load none (.t 10), 0, none⟩, ⟨5, (some 12), .bin .rem (.t 9) (.t 11), 0, none⟩, ⟨6, (some 6), .mv (.t 12), 0, none⟩] [6])
 (.ret))

theorem ok272 : okF Tryz.prog 272 3 c272 [.tmp 6] = true := by kernel_rfl

/-- (dauber/field.slow).difference -/
def c273 : C :=
 .seq
 (.reg false [⟨0, (some 3), .box 3 (.t 0), 0, none⟩, ⟨1, (some 6), .mv (.c (.int .i64 (0))), 0, none⟩] [1, 2, 3])
 (.seq
 (.reg false [⟨0, (some 7), .load (some 3) (.t 3), 0, none⟩, ⟨1, (some 8), .mv (.t 1), 0, none⟩, ⟨2, (some 9), .mv (.t 2), 0, none⟩, ⟨3, (some 10), .faddr 0 (.t 3), 0, none⟩, ⟨4, (some 11), .load (some 1) (.t 10), 0, none⟩, ⟨5, (some 12), .mkfn (.func 269) [.t 11] [], 0, none⟩, ⟨6, (some 13), .call 276 [.t 7, .t 8, .t 9, .t 12], 2, none⟩, ⟨7, (some 6), .mv (.t 13), 0, none⟩] [6])
 (.ret))

theorem ok273 : okF Tryz.prog 273 3 c273 [.tmp 6] = true := by kernel_rfl

/-- (dauber/field.slow).inverse -/
def c274 : C :=
 .seq
 (.reg false [⟨0, (some 2), .box 3 (.t 0), 0, none⟩, ⟨1, (some 4), .mv (.c (.int .i64 (0))), 0, none⟩] [1, 2])
 (.seq
 (.reg false [⟨0, (some 5), .load (some 3) (.t 2), 0, none⟩, ⟨1, (some 6), .mkif 217 (.t 5), 0, none⟩, ⟨2, (some 7), .mv (.t 1), 0, none⟩, ⟨3, (some 8), .faddr 2 (.t 2), 0, none⟩, ⟨4, (some 9), .load none (.t 8), 0, none⟩, ⟨5, (some 10), .bin .sub (.t 9) (.c (.int .i64 (2))), 0, none⟩, ⟨6, (some 11), .call 182 [.t 6, .t 7, .t 10], 2, none⟩, ⟨7, (some 4), .mv (.t 11), 0, none⟩] [4])
 (.ret))

theorem ok274 : okF Tryz.prog 274 2 c274 [.tmp 4] = true := by kernel_rfl

/-- (dauber/field.slow).sum -/
def c275 : C :=
 .seq
 (.reg false [⟨0, (some 3), .box 3 (.t 0), 0, none⟩, ⟨1, (some 6), .mv (.c (.int .i64 (0))), 0, none⟩] [1, 2, 3])
 (.seq
 (.reg false [⟨0, (some 7), .load (some 3) (.t 3), 0, none⟩, ⟨1, (some 8), .mv (.t 1), 0, none⟩, ⟨2, (some 9), .mv (.t 2), 0, none⟩, ⟨3, (some 10), .faddr 0 (.t 3), 0, none⟩, ⟨4, (some 11), .load (some 1) (.t 10), 0, none⟩, ⟨5, (some 12), .mkfn (.func 272) [.t 11] [], 0, none⟩, ⟨6, (some 13), .call 276 [.t 7, .t 8, .t 9, .t 12], 2, none⟩, ⟨7, (some 6), .mv (.t 13), 0, none⟩] [6])
 (.ret))

theorem ok275 : okF Tryz.prog 275 3 c275 [.tmp 6] = true := by kernel_rfl

/-- (dauber/field.slow).each -/
def c276 : C :=
 .seq
 (.reg false [⟨0, (some 4), .box 3 (.t 0), 0, none⟩, ⟨1, (some 8), .mv (.c (.int .i64 (0))), 0, none⟩] [1, 2, 3, 4])
 (.seq
 (.reg false [⟨0, (some 9), .mv (.c (.int .i64 (0))), 0, none⟩, ⟨1, (some 10), .mv (.c (.int .i64 (1))), 0, none⟩] [1, 2, 3, 4, 9, 10])
 (.seq
 (.blk 0
 (.loop [1, 2, 3, 4, 9, 10]
 (.seq
 (.seq
 (.reg false [⟨0, (some 11), .mv (.t 1), 0, none⟩, ⟨1, (some 12), .bin .gtr (.t 11) (.c (.int .i64 (0))), 0, none⟩, ⟨2, (some 13), .mv (.t 12), 0, none⟩, ⟨3, (some 14), .mv (.t 2), 0, (some (13, false))⟩, ⟨4, (some 15), .bin .gtr (.t 14) (.c (.int .i64 (0))), 0, (some (13, false))⟩, ⟨5, (some 16), .pick (.t 13) (.c (.bool true)) (.t 15), 0, none⟩] [1, 2, 3, 4, 9, 10, 16])
 (.cond (.t 16)
 (.skip)
 (.exit 0)))
 (.blk 1
 (.seq
 (.reg true [⟨0, (some 17), .mv (.t 9), 0, none⟩, ⟨1, (some 18), .mv (.t 10), 0, none⟩, ⟨2, (some 19), .mv (.t 3), 0, none⟩, ⟨3, (some 20), .mv (.t 1), 0, none⟩, ⟨4, (some 21), .faddr 0 (.t 4), 0, none⟩, ⟨5, (some 22), .faddr 0 (.t 21), 0, none⟩, ⟨8, (some 25), .mv (.t 2), 0, none⟩, ⟨9, (some 26), .faddr 0 (.t 4), 0, none⟩, ⟨10, (some 27), .faddr 0 (.t 26), 0, none⟩, ⟨6, (some 23), .load none (.t 22), 0, none⟩, ⟨7, (some 24), .bin .rem (.t 20) (.t 23), 0, none⟩, ⟨11, (some 28), .load none (.t 27), 0, none⟩, ⟨12, (some 29), .bin .rem (.t 25) (.t 28), 0, none⟩, ⟨13, (some 30), .callv (.t 19) [.t 24, .t 29], 2, none⟩, ⟨14, (some 31), .bin .mul (.t 18) (.t 30), 0, none⟩, ⟨15, (some 32), .bin .add (.t 17) (.t 31), 0, none⟩, ⟨16, (some 9), .mv (.t 32), 0, none⟩] [1, 2, 3, 4, 9, 10])
 (.reg true [⟨0, (some 33), .mv (.t 1), 0, none⟩, ⟨1, (some 34), .faddr 0 (.t 4), 0, none⟩, ⟨2, (some 35), .faddr 0 (.t 34), 0, none⟩, ⟨5, (some 38), .mv (.t 2), 0, none⟩, ⟨6, (some 39), .faddr 0 (.t 4), 0, none⟩, ⟨7, (some 40), .faddr 0 (.t 39), 0, none⟩, ⟨10, (some 43), .mv (.t 10), 0, none⟩, ⟨11, (some 44), .faddr 0 (.t 4), 0, none⟩, ⟨12, (some 45), .faddr 0 (.t 44), 0, none⟩, ⟨3, (some 36), .load none (.t 35), 0, none⟩, ⟨4, (some 37), .bin .quo (.t 33) (.t 36), 0, none⟩, ⟨15, (some 1), .mv (.t 37), 0, none⟩, ⟨8, (some 41), .load none (.t 40), 0, none⟩, ⟨9, (some 42), .bin .quo (.t 38) (.t 41), 0, none⟩, ⟨16, (some 2), .mv (.t 42), 0, none⟩, ⟨13, (some 46), .load none (.t 45), 0, none⟩, ⟨14, (some 47), .bin .mul (.t 43) (.t 46), 0, none⟩, ⟨17, (some 10), .mv (.t 47), 0, none⟩] [1, 2, 3, 4, 9, 10]))))))
 (.seq
 (.reg false [⟨0, (some 48), .mv (.t 9), 0, none⟩, ⟨1, (some 8), .mv (.t 48), 0, none⟩] [8])
 (.ret))))

theorem ok276 : okF Tryz.prog 276 4 c276 [.tmp 8] = true := by kernel_rfl

/-- (*dauber/field.tables).inverse -/
def c277 : C :=
 .seq
 (.reg false [⟨0, (some 4), .mv (.c (.int .i64 (0))), 0, none⟩] [0, 1])
 (.seq
 (.reg true [⟨0, (some 5), .mv (.t 0), 0, none⟩, ⟨1, (some 6), .nilc (.t 5), 0, none⟩, ⟨2, (some 7), .faddr 3 (.t 6), 0, none⟩, ⟨4, (some 9), .mv (.t 0), 0, none⟩, ⟨5, (some 10), .nilc (.t 9), 0, none⟩, ⟨6, (some 11), .faddr 3 (.t 10), 0, none⟩, ⟨9, (some 14), .mv (.t 0), 0, none⟩, ⟨10, (some 15), .nilc (.t 14), 0, none⟩, ⟨11, (some 16), .faddr 4 (.t 15), 0, none⟩, ⟨13, (some 18), .mv (.t 1), 0, none⟩, ⟨17, (some 22), .mv (.t 0), 0, none⟩, ⟨18, (some 23), .nilc (.t 22), 0, none⟩, ⟨19, (some 24), .faddr 3 (.t 23), 0, none⟩, ⟨3, (some 8), .load none (.t 7), 0, none⟩, ⟨7, (some 12), .load none (.t 11), 0, none⟩, ⟨8, (some 13), .len none (.t 12), 0, none⟩, ⟨12, (some 17), .load none (.t 16), 0, none⟩, ⟨14, (some 19), .iaddr none 1 (.t 17) (.t 18), 0, none⟩, ⟨15, (some 20), .load none (.t 19), 0, none⟩, ⟨16, (some 21), .bin .sub (.t 13) (.t 20), 0, none⟩, ⟨20, (some 25), .load none (.t 24), 0, none⟩, ⟨21, (some 26), .len none (.t 25), 0, none⟩, ⟨22, (some 27), .bin .rem (.t 21) (.t 26), 0, none⟩, ⟨23, (some 28), .iaddr none 1 (.t 8) (.t 27), 0, none⟩, ⟨24, (some 29), .load none (.t 28), 0, none⟩, ⟨25, (some 4), .mv (.t 29), 0, none⟩] [4])
 (.ret))

theorem ok277 : okF Tryz.prog 277 2 c277 [.tmp 4] = true := by kernel_rfl

/-- (*dauber/field.tables).product -/
def c278 : C :=
 .seq
 (.reg false [⟨0, (some 6), .mv (.c (.int .i64 (0))), 0, none⟩] [0, 1, 2])
 (.seq
 (.seq
 (.reg false [⟨0, (some 7), .mv (.t 1), 0, none⟩, ⟨1, (some 8), .bin .eql (.t 7) (.c (.int .i64 (0))), 0, none⟩, ⟨2, (some 9), .mv (.t 8), 0, none⟩, ⟨3, (some 10), .mv (.t 2), 0, (some (9, false))⟩, ⟨4, (some 11), .bin .eql (.t 10) (.c (.int .i64 (0))), 0, (some (9, false))⟩, ⟨5, (some 12), .pick (.t 9) (.c (.bool true)) (.t 11), 0, none⟩] [0, 1, 2, 12])
 (.cond (.t 12)
 (.seq
 (.reg false [⟨0, (some 6), .mv (.c (.int .i64 (0))), 0, none⟩] [6])
 (.ret))
 (.skip)))
 (.seq
 (.reg true [⟨0, (some 13), .mv (.t 0), 0, none⟩, ⟨1, (some 14), .nilc (.t 13), 0, none⟩, ⟨2, (some 15), .faddr 3 (.t 14), 0, none⟩, ⟨4, (some 17), .mv (.t 0), 0, none⟩, ⟨5, (some 18), .nilc (.t 17), 0, none⟩, ⟨6, (some 19), .faddr 4 (.t 18), 0, none⟩, ⟨8, (some 21), .mv (.t 1), 0, none⟩, ⟨11, (some 24), .mv (.t 0), 0, none⟩, ⟨12, (some 25), .nilc (.t 24), 0, none⟩, ⟨13, (some 26), .faddr 4 (.t 25), 0, none⟩, ⟨15, (some 28), .mv (.t 2), 0, none⟩, ⟨19, (some 32), .mv (.t 0), 0, none⟩, ⟨20, (some 33), .nilc (.t 32), 0, none⟩, ⟨21, (some 34), .faddr 3 (.t 33), 0, none⟩, ⟨3, (some 16), .load none (.t 15), 0, none⟩, ⟨7, (some 20), .load none (.t 19), 0, none⟩, ⟨9, (some 22), .iaddr none 1 (.t 20) (.t 21), 0, none⟩, ⟨10, (some 23), .load none (.t 22), 0, none⟩, ⟨14, (some 27), .load none (.t 26), 0, none⟩, ⟨16, (some 29), .iaddr none 1 (.t 27) (.t 28), 0, none⟩, ⟨17, (some 30), .load none (.t 29), 0, none⟩, ⟨18, (some 31), .bin .add (.t 23) (.t 30), 0, none⟩, ⟨22, (some 35), .load none (.t 34), 0, none⟩, ⟨23, (some 36), .len none (.t 35), 0, none⟩, ⟨24, (some 37), .bin .rem (.t 31) (.t 36), 0, none⟩, ⟨25, (some 38), .iaddr none 1 (.t 16) (.t 37), 0, none⟩, ⟨26, (some 39), .load none (.t 38), 0, none⟩, ⟨27, (some 6), .mv (.t 39), 0, none⟩] [6])
 (.ret)))

theorem ok278 : okF Tryz.prog 278 3 c278 [.tmp 6] = true := by kernel_rfl

def tabF : BT := .n 128 ⟨4, c128, [.tmp 8], .x⟩ (.n 77 ⟨2, c77, [.tmp 4], .x⟩ (.n 52 ⟨2, c52, [.tmp 4], .x⟩ (.n 32 ⟨2, c32, [.tmp 4, .tmp 5], .l [.s 1, .x]⟩ (.n 24 ⟨2, c24, [.tmp 4, .tmp 5], .l [.x, .x]⟩ (.n 16 ⟨1, c16, [.cell (some 6) 2], .x⟩ (.n 15 ⟨4, c15, [.cell (some 4) 8, .tmp 9], .l [.x, .x]⟩ (.n 10 ⟨2, c10, [.tmp 4], .x⟩ (.e) (.e)) (.e)) (.n 22 ⟨0, c22, [.tmp 0], .x⟩ (.e) (.e))) (.n 26 ⟨6, c26, [.tmp 12, .tmp 13], .l [.s 4, .x]⟩ (.n 25 ⟨1, c25, [.cell (some 3) 2, .tmp 3], .l [.x, .x]⟩ (.e) (.e)) (.n 31 ⟨2, c31, [.tmp 4, .tmp 5], .l [.x, .x]⟩ (.e) (.e)))) (.n 37 ⟨2, c37, [.tmp 4, .tmp 5], .l [.s 1, .x]⟩ (.n 35 ⟨1, c35, [.tmp 2], .x⟩ (.n 33 ⟨2, c33, [.tmp 4, .tmp 5], .l [.s 3, .x]⟩ (.e) (.e)) (.n 36 ⟨1, c36, [.tmp 2], .x⟩ (.e) (.e))) (.n 49 ⟨1, c49, [.tmp 2], .x⟩ (.n 38 ⟨3, c38, [.tmp 6, .tmp 7], .l [.x, .x]⟩ (.e) (.e)) (.n 51 ⟨3, c51, [.tmp 6], .x⟩ (.e) (.e))))) (.n 62 ⟨1, c62, [.cell none 2, .cell none 3], .l [.x, .x]⟩ (.n 56 ⟨1, c56, [.cell (some 4) 2], .x⟩ (.n 54 ⟨2, c54, [.tmp 4], .x⟩ (.n 53 ⟨2, c53, [.tmp 3], .x⟩ (.e) (.e)) (.n 55 ⟨3, c55, [.tmp 6], .s 1⟩ (.e) (.e))) (.n 58 ⟨2, c58, [.tmp 4], .x⟩ (.n 57 ⟨1, c57, [.tmp 2], .s 1⟩ (.e) (.e)) (.n 59 ⟨5, c59, [.tmp 10], .s 4⟩ (.e) (.e)))) (.n 73 ⟨3, c73, [.tmp 6, .tmp 7], .l [.s 1, .x]⟩ (.n 64 ⟨3, c64, [.tmp 6], .x⟩ (.n 63 ⟨1, c63, [.tmp 2], .x⟩ (.e) (.e)) (.n 65 ⟨2, c65, [.tmp 4], .x⟩ (.e) (.e))) (.n 75 ⟨4, c75, [], .x⟩ (.n 74 ⟨2, c74, [.tmp 4], .x⟩ (.e) (.e)) (.n 76 ⟨1, c76, [.tmp 2], .x⟩ (.e) (.e)))))) (.n 109 ⟨2, c109, [.tmp 4], .x⟩ (.n 91 ⟨1, c91, [.tmp 2], .x⟩ (.n 81 ⟨4, c81, [.tmp 8], .x⟩ (.n 79 ⟨2, c79, [.tmp 4], .x⟩ (.n 78 ⟨2, c78, [.tmp 4], .x⟩ (.e) (.e)) (.n 80 ⟨3, c80, [.tmp 4], .x⟩ (.e) (.e))) (.n 88 ⟨1, c88, [.tmp 2], .x⟩ (.n 82 ⟨0, c82, [.tmp 0], .x⟩ (.e) (.e)) (.n 89 ⟨2, c89, [.tmp 4, .tmp 5], .l [.x, .x]⟩ (.e) (.e)))) (.n 98 ⟨3, c98, [.tmp 6, .tmp 7], .l [.s 1, .x]⟩ (.n 95 ⟨3, c95, [.tmp 6], .x⟩ (.n 93 ⟨3, c93, [.tmp 6], .x⟩ (.e) (.e)) (.n 97 ⟨1, c97, [.tmp 2, .tmp 3], .l [.x, .x]⟩ (.e) (.e))) (.n 107 ⟨2, c107, [.tmp 4], .x⟩ (.n 105 ⟨3, c105, [.tmp 6, .tmp 7], .l [.s 1, .x]⟩ (.e) (.e)) (.n 108 ⟨1, c108, [.tmp 2], .x⟩ (.e) (.e))))) (.n 117 ⟨5, c117, [], .x⟩ (.n 113 ⟨2, c113, [.tmp 4], .x⟩ (.n 111 ⟨2, c111, [.tmp 3], .x⟩ (.n 110 ⟨2, c110, [.tmp 4], .x⟩ (.e) (.e)) (.n 112 ⟨2, c112, [.tmp 4], .s 1⟩ (.e) (.e))) (.n 115 ⟨2, c115, [.tmp 3], .x⟩ (.n 114 ⟨5, c114, [.tmp 10], .x⟩ (.e) (.e)) (.n 116 ⟨2, c116, [.tmp 4], .x⟩ (.e) (.e)))) (.n 124 ⟨1, c124, [.tmp 2], .s 1⟩ (.n 119 ⟨2, c119, [.tmp 4, .tmp 5], .l [.s 1, .x]⟩ (.n 118 ⟨2, c118, [.tmp 3], .x⟩ (.e) (.e)) (.n 120 ⟨3, c120, [.tmp 6, .tmp 7], .l [.x, .x]⟩ (.e) (.e))) (.n 126 ⟨3, c126, [], .x⟩ (.n 125 ⟨3, c125, [.tmp 4], .x⟩ (.e) (.e)) (.n 127 ⟨2, c127, [.tmp 4], .x⟩ (.e) (.e))))))) (.n 176 ⟨2, c176, [.tmp 4], .x⟩ (.n 148 ⟨3, c148, [.tmp 6], .s 1⟩ (.n 139 ⟨3, c139, [.tmp 6, .tmp 7], .l [.x, .x]⟩ (.n 135 ⟨1, c135, [.tmp 2], .x⟩ (.n 130 ⟨2, c130, [.tmp 4, .tmp 5], .l [.x, .x]⟩ (.n 129 ⟨2, c129, [.tmp 4, .tmp 5], .l [.x, .x]⟩ (.e) (.e)) (.n 134 ⟨3, c134, [.tmp 6], .x⟩ (.e) (.e))) (.n 137 ⟨2, c137, [.tmp 4], .x⟩ (.n 136 ⟨3, c136, [.tmp 6], .x⟩ (.e) (.e)) (.n 138 ⟨2, c138, [.tmp 4], .x⟩ (.e) (.e)))) (.n 144 ⟨3, c144, [.tmp 6], .s 1⟩ (.n 142 ⟨1, c142, [.tmp 2], .s 1⟩ (.n 140 ⟨2, c140, [.tmp 4], .x⟩ (.e) (.e)) (.n 143 ⟨2, c143, [.tmp 4], .x⟩ (.e) (.e))) (.n 146 ⟨2, c146, [.tmp 4], .x⟩ (.n 145 ⟨2, c145, [.tmp 4], .x⟩ (.e) (.e)) (.n 147 ⟨1, c147, [.tmp 2], .x⟩ (.e) (.e))))) (.n 166 ⟨2, c166, [.tmp 4], .x⟩ (.n 162 ⟨2, c162, [.tmp 4], .x⟩ (.n 158 ⟨3, c158, [.tmp 6], .x⟩ (.n 157 ⟨2, c157, [.tmp 4], .x⟩ (.e) (.e)) (.n 161 ⟨2, c161, [.tmp 4], .x⟩ (.e) (.e))) (.n 164 ⟨2, c164, [.tmp 4], .x⟩ (.n 163 ⟨2, c163, [.tmp 4, .tmp 5], .l [.x, .x]⟩ (.e) (.e)) (.n 165 ⟨2, c165, [.tmp 4], .x⟩ (.e) (.e)))) (.n 172 ⟨4, c172, [.tmp 8], .x⟩ (.n 169 ⟨1, c169, [.tmp 2], .x⟩ (.n 168 ⟨2, c168, [.tmp 4], .s 1⟩ (.e) (.e)) (.n 171 ⟨3, c171, [.tmp 4], .x⟩ (.e) (.e))) (.n 174 ⟨3, c174, [], .x⟩ (.n 173 ⟨4, c173, [.tmp 6], .x⟩ (.e) (.e)) (.n 175 ⟨2, c175, [.tmp 3], .x⟩ (.e) (.e)))))) (.n 203 ⟨2, c203, [.tmp 3], .x⟩ (.n 185 ⟨3, c185, [.tmp 6], .s 1⟩ (.n 180 ⟨2, c180, [.tmp 4], .x⟩ (.n 178 ⟨3, c178, [.tmp 6], .x⟩ (.n 177 ⟨2, c177, [.tmp 4], .x⟩ (.e) (.e)) (.n 179 ⟨2, c179, [.tmp 4], .x⟩ (.e) (.e))) (.n 182 ⟨3, c182, [.tmp 6], .x⟩ (.n 181 ⟨4, c181, [.tmp 5], .x⟩ (.e) (.e)) (.n 183 ⟨2, c183, [.tmp 4], .s 1⟩ (.e) (.e)))) (.n 190 ⟨4, c190, [.tmp 8], .s 1⟩ (.n 188 ⟨3, c188, [.tmp 6], .x⟩ (.n 187 ⟨3, c187, [.tmp 3], .x⟩ (.e) (.e)) (.n 189 ⟨2, c189, [.tmp 3], .x⟩ (.e) (.e))) (.n 201 ⟨2, c201, [.tmp 4, .tmp 5], .l [.x, .x]⟩ (.n 191 ⟨3, c191, [.tmp 6], .s 1⟩ (.e) (.e)) (.n 202 ⟨2, c202, [.tmp 4, .tmp 5], .l [.x, .x]⟩ (.e) (.e))))) (.n 271 ⟨3, c271, [.tmp 6], .x⟩ (.n 207 ⟨2, c207, [.tmp 4], .x⟩ (.n 205 ⟨2, c205, [.tmp 4], .x⟩ (.n 204 ⟨5, c204, [.tmp 10], .x⟩ (.e) (.e)) (.n 206 ⟨1, c206, [.tmp 2], .s 1⟩ (.e) (.e))) (.n 269 ⟨3, c269, [.tmp 6], .x⟩ (.n 208 ⟨1, c208, [.tmp 2], .s 1⟩ (.e) (.e)) (.n 270 ⟨2, c270, [.tmp 4], .x⟩ (.e) (.e)))) (.n 275 ⟨3, c275, [.tmp 6], .x⟩ (.n 273 ⟨3, c273, [.tmp 6], .x⟩ (.n 272 ⟨3, c272, [.tmp 6], .x⟩ (.e) (.e)) (.n 274 ⟨2, c274, [.tmp 4], .x⟩ (.e) (.e))) (.n 277 ⟨2, c277, [.tmp 4], .x⟩ (.n 276 ⟨4, c276, [.tmp 8], .x⟩ (.e) (.e)) (.n 278 ⟨3, c278, [.tmp 6], .x⟩ (.e) (.e)))))))
def methF : List (Nat × String × Nat) := [(33, "dauber/draw.lists", 56), (45, "Has", 116), (45, "dauber/share.above", 169), (45, "dauber/share.below", 91), (45, "dauber/share.has", 165), (45, "dauber/share.raise", 166), (45, "dauber/share.secrets", 140), (45, "dauber/share.value", 158), (47, "dauber/draw.counts", 114), (47, "dauber/draw.isHall", 65), (113, "dauber/draw.answer", 120), (113, "dauber/draw.dealt", 79), (113, "dauber/draw.fits", 81), (113, "dauber/draw.halls", 77), (113, "dauber/draw.isIn", 74), (113, "dauber/draw.open", 130), (113, "dauber/draw.places", 137), (113, "dauber/draw.post", 59), (113, "dauber/draw.reveal", 129), (113, "dauber/draw.secret", 89), (113, "dauber/draw.sum", 62), (113, "dauber/draw.twice", 78), (162, "dauber/share.plus", 95), (162, "dauber/share.power", 136), (162, "dauber/share.times", 93), (169, "Check", 177), (169, "Through", 98), (169, "Value", 139), (169, "dauber/field.areElements", 146), (169, "dauber/field.at", 178), (169, "dauber/field.first", 143), (169, "dauber/field.in", 179), (169, "dauber/field.plus", 190), (169, "dauber/field.through", 148), (169, "dauber/field.times", 191), (213, "dauber/field.difference", 269), (213, "dauber/field.inverse", 270), (213, "dauber/field.product", 271), (213, "dauber/field.sum", 272), (217, "dauber/field.difference", 273), (217, "dauber/field.each", 276), (217, "dauber/field.inverse", 274), (217, "dauber/field.product", 188), (217, "dauber/field.sum", 275), (218, "dauber/field.inverse", 277), (218, "dauber/field.product", 278)]
def tab : Tab := ⟨tabF.find, methF⟩
theorem mixed : Tryz.prog.follows .mixedOrders = true := by kernel_rfl
theorem tab_all : tabF.All Tryz.prog := ⟨ok128, ⟨ok77, ⟨ok52, ⟨ok32, ⟨ok24, ⟨ok16, ⟨ok15, ⟨ok10, trivial, trivial⟩, trivial⟩, ⟨ok22, trivial, trivial⟩⟩, ⟨ok26, ⟨ok25, trivial, trivial⟩, ⟨ok31, trivial, trivial⟩⟩⟩, ⟨ok37, ⟨ok35, ⟨ok33, trivial, trivial⟩, ⟨ok36, trivial, trivial⟩⟩, ⟨ok49, ⟨ok38, trivial, trivial⟩, ⟨ok51, trivial, trivial⟩⟩⟩⟩, ⟨ok62, ⟨ok56, ⟨ok54, ⟨ok53, trivial, trivial⟩, ⟨ok55, trivial, trivial⟩⟩, ⟨ok58, ⟨ok57, trivial, trivial⟩, ⟨ok59, trivial, trivial⟩⟩⟩, ⟨ok73, ⟨ok64, ⟨ok63, trivial, trivial⟩, ⟨ok65, trivial, trivial⟩⟩, ⟨ok75, ⟨ok74, trivial, trivial⟩, ⟨ok76, trivial, trivial⟩⟩⟩⟩⟩, ⟨ok109, ⟨ok91, ⟨ok81, ⟨ok79, ⟨ok78, trivial, trivial⟩, ⟨ok80, trivial, trivial⟩⟩, ⟨ok88, ⟨ok82, trivial, trivial⟩, ⟨ok89, trivial, trivial⟩⟩⟩, ⟨ok98, ⟨ok95, ⟨ok93, trivial, trivial⟩, ⟨ok97, trivial, trivial⟩⟩, ⟨ok107, ⟨ok105, trivial, trivial⟩, ⟨ok108, trivial, trivial⟩⟩⟩⟩, ⟨ok117, ⟨ok113, ⟨ok111, ⟨ok110, trivial, trivial⟩, ⟨ok112, trivial, trivial⟩⟩, ⟨ok115, ⟨ok114, trivial, trivial⟩, ⟨ok116, trivial, trivial⟩⟩⟩, ⟨ok124, ⟨ok119, ⟨ok118, trivial, trivial⟩, ⟨ok120, trivial, trivial⟩⟩, ⟨ok126, ⟨ok125, trivial, trivial⟩, ⟨ok127, trivial, trivial⟩⟩⟩⟩⟩⟩, ⟨ok176, ⟨ok148, ⟨ok139, ⟨ok135, ⟨ok130, ⟨ok129, trivial, trivial⟩, ⟨ok134, trivial, trivial⟩⟩, ⟨ok137, ⟨ok136, trivial, trivial⟩, ⟨ok138, trivial, trivial⟩⟩⟩, ⟨ok144, ⟨ok142, ⟨ok140, trivial, trivial⟩, ⟨ok143, trivial, trivial⟩⟩, ⟨ok146, ⟨ok145, trivial, trivial⟩, ⟨ok147, trivial, trivial⟩⟩⟩⟩, ⟨ok166, ⟨ok162, ⟨ok158, ⟨ok157, trivial, trivial⟩, ⟨ok161, trivial, trivial⟩⟩, ⟨ok164, ⟨ok163, trivial, trivial⟩, ⟨ok165, trivial, trivial⟩⟩⟩, ⟨ok172, ⟨ok169, ⟨ok168, trivial, trivial⟩, ⟨ok171, trivial, trivial⟩⟩, ⟨ok174, ⟨ok173, trivial, trivial⟩, ⟨ok175, trivial, trivial⟩⟩⟩⟩⟩, ⟨ok203, ⟨ok185, ⟨ok180, ⟨ok178, ⟨ok177, trivial, trivial⟩, ⟨ok179, trivial, trivial⟩⟩, ⟨ok182, ⟨ok181, trivial, trivial⟩, ⟨ok183, trivial, trivial⟩⟩⟩, ⟨ok190, ⟨ok188, ⟨ok187, trivial, trivial⟩, ⟨ok189, trivial, trivial⟩⟩, ⟨ok201, ⟨ok191, trivial, trivial⟩, ⟨ok202, trivial, trivial⟩⟩⟩⟩, ⟨ok271, ⟨ok207, ⟨ok205, ⟨ok204, trivial, trivial⟩, ⟨ok206, trivial, trivial⟩⟩, ⟨ok269, ⟨ok208, trivial, trivial⟩, ⟨ok270, trivial, trivial⟩⟩⟩, ⟨ok275, ⟨ok273, ⟨ok272, trivial, trivial⟩, ⟨ok274, trivial, trivial⟩⟩, ⟨ok277, ⟨ok276, trivial, trivial⟩, ⟨ok278, trivial, trivial⟩⟩⟩⟩⟩⟩⟩
theorem meth0 : MethP Tryz.prog 33 "dauber/draw.lists" 56 := fun v w => by kernel_rfl
theorem meth1 : MethP Tryz.prog 45 "Has" 116 := fun v w => by kernel_rfl
theorem meth2 : MethP Tryz.prog 45 "dauber/share.above" 169 := fun v w => by kernel_rfl
theorem meth3 : MethP Tryz.prog 45 "dauber/share.below" 91 := fun v w => by kernel_rfl
theorem meth4 : MethP Tryz.prog 45 "dauber/share.has" 165 := fun v w => by kernel_rfl
theorem meth5 : MethP Tryz.prog 45 "dauber/share.raise" 166 := fun v w => by kernel_rfl
theorem meth6 : MethP Tryz.prog 45 "dauber/share.secrets" 140 := fun v w => by kernel_rfl
theorem meth7 : MethP Tryz.prog 45 "dauber/share.value" 158 := fun v w => by kernel_rfl
theorem meth8 : MethP Tryz.prog 47 "dauber/draw.counts" 114 := fun v w => by kernel_rfl
theorem meth9 : MethP Tryz.prog 47 "dauber/draw.isHall" 65 := fun v w => by kernel_rfl
theorem meth10 : MethP Tryz.prog 113 "dauber/draw.answer" 120 := fun v w => by kernel_rfl
theorem meth11 : MethP Tryz.prog 113 "dauber/draw.dealt" 79 := fun v w => by kernel_rfl
theorem meth12 : MethP Tryz.prog 113 "dauber/draw.fits" 81 := fun v w => by kernel_rfl
theorem meth13 : MethP Tryz.prog 113 "dauber/draw.halls" 77 := fun v w => by kernel_rfl
theorem meth14 : MethP Tryz.prog 113 "dauber/draw.isIn" 74 := fun v w => by kernel_rfl
theorem meth15 : MethP Tryz.prog 113 "dauber/draw.open" 130 := fun v w => by kernel_rfl
theorem meth16 : MethP Tryz.prog 113 "dauber/draw.places" 137 := fun v w => by kernel_rfl
theorem meth17 : MethP Tryz.prog 113 "dauber/draw.post" 59 := fun v w => by kernel_rfl
theorem meth18 : MethP Tryz.prog 113 "dauber/draw.reveal" 129 := fun v w => by kernel_rfl
theorem meth19 : MethP Tryz.prog 113 "dauber/draw.secret" 89 := fun v w => by kernel_rfl
theorem meth20 : MethP Tryz.prog 113 "dauber/draw.sum" 62 := fun v w => by kernel_rfl
theorem meth21 : MethP Tryz.prog 113 "dauber/draw.twice" 78 := fun v w => by kernel_rfl
theorem meth22 : MethP Tryz.prog 162 "dauber/share.plus" 95 := fun v w => by kernel_rfl
theorem meth23 : MethP Tryz.prog 162 "dauber/share.power" 136 := fun v w => by kernel_rfl
theorem meth24 : MethP Tryz.prog 162 "dauber/share.times" 93 := fun v w => by kernel_rfl
theorem meth25 : MethP Tryz.prog 169 "Check" 177 := fun v w => by kernel_rfl
theorem meth26 : MethP Tryz.prog 169 "Through" 98 := fun v w => by kernel_rfl
theorem meth27 : MethP Tryz.prog 169 "Value" 139 := fun v w => by kernel_rfl
theorem meth28 : MethP Tryz.prog 169 "dauber/field.areElements" 146 := fun v w => by kernel_rfl
theorem meth29 : MethP Tryz.prog 169 "dauber/field.at" 178 := fun v w => by kernel_rfl
theorem meth30 : MethP Tryz.prog 169 "dauber/field.first" 143 := fun v w => by kernel_rfl
theorem meth31 : MethP Tryz.prog 169 "dauber/field.in" 179 := fun v w => by kernel_rfl
theorem meth32 : MethP Tryz.prog 169 "dauber/field.plus" 190 := fun v w => by kernel_rfl
theorem meth33 : MethP Tryz.prog 169 "dauber/field.through" 148 := fun v w => by kernel_rfl
theorem meth34 : MethP Tryz.prog 169 "dauber/field.times" 191 := fun v w => by kernel_rfl
theorem meth35 : MethP Tryz.prog 213 "dauber/field.difference" 269 := fun v w => by kernel_rfl
theorem meth36 : MethP Tryz.prog 213 "dauber/field.inverse" 270 := fun v w => by kernel_rfl
theorem meth37 : MethP Tryz.prog 213 "dauber/field.product" 271 := fun v w => by kernel_rfl
theorem meth38 : MethP Tryz.prog 213 "dauber/field.sum" 272 := fun v w => by kernel_rfl
theorem meth39 : MethP Tryz.prog 217 "dauber/field.difference" 273 := fun v w => by kernel_rfl
theorem meth40 : MethP Tryz.prog 217 "dauber/field.each" 276 := fun v w => by kernel_rfl
theorem meth41 : MethP Tryz.prog 217 "dauber/field.inverse" 274 := fun v w => by kernel_rfl
theorem meth42 : MethP Tryz.prog 217 "dauber/field.product" 188 := fun v w => by kernel_rfl
theorem meth43 : MethP Tryz.prog 217 "dauber/field.sum" 275 := fun v w => by kernel_rfl
theorem meth44 : MethP Tryz.prog 218 "dauber/field.inverse" 277 := fun v w => by kernel_rfl
theorem meth45 : MethP Tryz.prog 218 "dauber/field.product" 278 := fun v w => by kernel_rfl
theorem meth_all : methAll Tryz.prog methF := ⟨meth0, meth1, meth2, meth3, meth4, meth5, meth6, meth7, meth8, meth9, meth10, meth11, meth12, meth13, meth14, meth15, meth16, meth17, meth18, meth19, meth20, meth21, meth22, meth23, meth24, meth25, meth26, meth27, meth28, meth29, meth30, meth31, meth32, meth33, meth34, meth35, meth36, meth37, meth38, meth39, meth40, meth41, meth42, meth43, meth44, meth45, trivial⟩
theorem tab_ok : TabOk Tryz.prog tab := tabOk_of mixed tab_all meth_all
end Go.Dp
