import Derived.Test.YtkadcajmlkmhjabGreatDqTPb
namespace Go.Dp
open Go.RowKit Go.Proofs
set_option maxRecDepth 100000
/-- (dauber/field.modular).product -/
def c195 : C :=
 .seq
  (.reg false [⟨0, (some 3), .box 1 (.t 0), 0, none⟩, ⟨1, (some 6), .mv (.c (.int .i64 (0))), 0, none⟩] [1, 2, 3])
  (.seq
   (.reg false [⟨0, (some 7), .mv (.t 1), 0, none⟩, ⟨1, (some 8), .mv (.t 2), 0, none⟩, ⟨2, (some 9), .bin .mul (.t 7) (.t 8), 0, none⟩, ⟨3, (some 10), .faddr 0 (.t 3), 0, none⟩, ⟨4, (some 11), .load none (.t 10), 0, none⟩, ⟨5, (some 12), .bin .rem (.t 9) (.t 11), 0, none⟩, ⟨6, (some 6), .mv (.t 12), 0, none⟩] [6])
   (.ret))

theorem ok195 : okF Tryz.prog 195 3 c195 [.tmp 6] = true := by kernel_rfl

/-- (dauber/field.modular).sum -/
def c196 : C :=
 .seq
  (.reg false [⟨0, (some 3), .box 1 (.t 0), 0, none⟩, ⟨1, (some 6), .mv (.c (.int .i64 (0))), 0, none⟩] [1, 2, 3])
  (.seq
   (.reg false [⟨0, (some 7), .mv (.t 1), 0, none⟩, ⟨1, (some 8), .mv (.t 2), 0, none⟩, ⟨2, (some 9), .bin .add (.t 7) (.t 8), 0, none⟩, ⟨3, (some 10), .faddr 0 (.t 3), 0, none⟩, ⟨4, (some 11), .load none (.t 10), 0, none⟩, ⟨5, (some 12), .bin .rem (.t 9) (.t 11), 0, none⟩, ⟨6, (some 6), .mv (.t 12), 0, none⟩] [6])
   (.ret))

theorem ok196 : okF Tryz.prog 196 3 c196 [.tmp 6] = true := by kernel_rfl

/-- (dauber/field.slow).difference -/
def c197 : C :=
 .seq
  (.reg false [⟨0, (some 3), .box 3 (.t 0), 0, none⟩, ⟨1, (some 6), .mv (.c (.int .i64 (0))), 0, none⟩] [1, 2, 3])
  (.seq
   (.reg false [⟨0, (some 7), .load (some 3) (.t 3), 0, none⟩, ⟨1, (some 8), .mv (.t 1), 0, none⟩, ⟨2, (some 9), .mv (.t 2), 0, none⟩, ⟨3, (some 10), .faddr 0 (.t 3), 0, none⟩, ⟨4, (some 11), .load (some 1) (.t 10), 0, none⟩, ⟨5, (some 12), .mkfn (.func 193) [.t 11] [], 0, none⟩, ⟨6, (some 13), .call 200 [.t 7, .t 8, .t 9, .t 12], 2, none⟩, ⟨7, (some 6), .mv (.t 13), 0, none⟩] [6])
   (.ret))

theorem ok197 : okF Tryz.prog 197 3 c197 [.tmp 6] = true := by kernel_rfl

/-- (dauber/field.slow).inverse -/
def c198 : C :=
 .seq
  (.reg false [⟨0, (some 2), .box 3 (.t 0), 0, none⟩, ⟨1, (some 4), .mv (.c (.int .i64 (0))), 0, none⟩] [1, 2])
  (.seq
   (.reg false [⟨0, (some 5), .load (some 3) (.t 2), 0, none⟩, ⟨1, (some 6), .mkif 126 (.t 5), 0, none⟩, ⟨2, (some 7), .mv (.t 1), 0, none⟩, ⟨3, (some 8), .faddr 2 (.t 2), 0, none⟩, ⟨4, (some 9), .load none (.t 8), 0, none⟩, ⟨5, (some 10), .bin .sub (.t 9) (.c (.int .i64 (2))), 0, none⟩, ⟨6, (some 11), .call 104 [.t 6, .t 7, .t 10], 2, none⟩, ⟨7, (some 4), .mv (.t 11), 0, none⟩] [4])
   (.ret))

theorem ok198 : okF Tryz.prog 198 2 c198 [.tmp 4] = true := by kernel_rfl

/-- (dauber/field.slow).sum -/
def c199 : C :=
 .seq
  (.reg false [⟨0, (some 3), .box 3 (.t 0), 0, none⟩, ⟨1, (some 6), .mv (.c (.int .i64 (0))), 0, none⟩] [1, 2, 3])
  (.seq
   (.reg false [⟨0, (some 7), .load (some 3) (.t 3), 0, none⟩, ⟨1, (some 8), .mv (.t 1), 0, none⟩, ⟨2, (some 9), .mv (.t 2), 0, none⟩, ⟨3, (some 10), .faddr 0 (.t 3), 0, none⟩, ⟨4, (some 11), .load (some 1) (.t 10), 0, none⟩, ⟨5, (some 12), .mkfn (.func 196) [.t 11] [], 0, none⟩, ⟨6, (some 13), .call 200 [.t 7, .t 8, .t 9, .t 12], 2, none⟩, ⟨7, (some 6), .mv (.t 13), 0, none⟩] [6])
   (.ret))

theorem ok199 : okF Tryz.prog 199 3 c199 [.tmp 6] = true := by kernel_rfl

/-- (dauber/field.slow).each -/
def c200 : C :=
 .seq
  (.reg false [⟨0, (some 4), .box 3 (.t 0), 0, none⟩, ⟨1, (some 8), .mv (.c (.int .i64 (0))), 0, none⟩] [1, 2, 3, 4])
  (.seq
   (.reg false [⟨0, (some 9), .mv (.c (.int .i64 (0))), 0, none⟩, ⟨1, (some 10), .mv (.c (.int .i64 (1))), 0, none⟩] [1, 2, 3, 4, 9, 10])
   (.seq
    (.blk 0
     (.loop [1, 2, 3, 4, 9, 10]
      (.seq
       (.seq
        (.reg false [⟨0, (some 11), .mv (.t 1), 0, none⟩, ⟨1, (some 12), .bin .gtr (.t 11) (.c (.int .i64 (0))), 0, none⟩, ⟨2, (some 13), .mv (.t 12), 0, none⟩, ⟨3, (some 14), .mv (.t 2), 0, (some (13, false))⟩, ⟨4, (some 15), .bin .gtr (.t 14) (.c (.int .i64 (0))), 0, (some (13, false))⟩, ⟨5, (some 16), .pick (.t 13) (.c (.bool true)) (.t 15), 0, none⟩] [1, 2, 3, 4, 9, 10, 16])
        (.cond (.t 16)
         (.skip)
         (.exit 0)))
       (.blk 1
        (.seq
         (.reg true [⟨0, (some 17), .mv (.t 9), 0, none⟩, ⟨1, (some 18), .mv (.t 10), 0, none⟩, ⟨2, (some 19), .mv (.t 3), 0, none⟩, ⟨3, (some 20), .mv (.t 1), 0, none⟩, ⟨4, (some 21), .faddr 0 (.t 4), 0, none⟩, ⟨5, (some 22), .faddr 0 (.t 21), 0, none⟩, ⟨8, (some 25), .mv (.t 2), 0, none⟩, ⟨9, (some 26), .faddr 0 (.t 4), 0, none⟩, ⟨10, (some 27), .faddr 0 (.t 26), 0, none⟩, ⟨6, (some 23), .load none (.t 22), 0, none⟩, ⟨7, (some 24), .bin .rem (.t 20) (.t 23), 0, none⟩, ⟨11, (some 28), .load none (.t 27), 0, none⟩, ⟨12, (some 29), .bin .rem (.t 25) (.t 28), 0, none⟩, ⟨13, (some 30), .callv (.t 19) [.t 24, .t 29], 2, none⟩, ⟨14, (some 31), .bin .mul (.t 18) (.t 30), 0, none⟩, ⟨15, (some 32), .bin .add (.t 17) (.t 31), 0, none⟩, ⟨16, (some 9), .mv (.t 32), 0, none⟩] [1, 2, 3, 4, 9, 10])
         (.reg true [⟨0, (some 33), .mv (.t 1), 0, none⟩, ⟨1, (some 34), .faddr 0 (.t 4), 0, none⟩, ⟨2, (some 35), .faddr 0 (.t 34), 0, none⟩, ⟨5, (some 38), .mv (.t 2), 0, none⟩, ⟨6, (some 39), .faddr 0 (.t 4), 0, none⟩, ⟨7, (some 40), .faddr 0 (.t 39), 0, none⟩, ⟨10, (some 43), .mv (.t 10), 0, none⟩, ⟨11, (some 44), .faddr 0 (.t 4), 0, none⟩, ⟨12, (some 45), .faddr 0 (.t 44), 0, none⟩, ⟨3, (some 36), .load none (.t 35), 0, none⟩, ⟨4, (some 37), .bin .quo (.t 33) (.t 36), 0, none⟩, ⟨15, (some 1), .mv (.t 37), 0, none⟩, ⟨8, (some 41), .load none (.t 40), 0, none⟩, ⟨9, (some 42), .bin .quo (.t 38) (.t 41), 0, none⟩, ⟨16, (some 2), .mv (.t 42), 0, none⟩, ⟨13, (some 46), .load none (.t 45), 0, none⟩, ⟨14, (some 47), .bin .mul (.t 43) (.t 46), 0, none⟩, ⟨17, (some 10), .mv (.t 47), 0, none⟩] [1, 2, 3, 4, 9, 10]))))))
    (.seq
     (.reg false [⟨0, (some 48), .mv (.t 9), 0, none⟩, ⟨1, (some 8), .mv (.t 48), 0, none⟩] [8])
     (.ret))))

theorem ok200 : okF Tryz.prog 200 4 c200 [.tmp 8] = true := by kernel_rfl

/-- (*dauber/field.tables).inverse -/
def c201 : C :=
 .seq
  (.reg false [⟨0, (some 4), .mv (.c (.int .i64 (0))), 0, none⟩] [0, 1])
  (.seq
   (.reg true [⟨0, (some 5), .mv (.t 0), 0, none⟩, ⟨1, (some 6), .nilc (.t 5), 0, none⟩, ⟨2, (some 7), .faddr 3 (.t 6), 0, none⟩, ⟨4, (some 9), .mv (.t 0), 0, none⟩, ⟨5, (some 10), .nilc (.t 9), 0, none⟩, ⟨6, (some 11), .faddr 3 (.t 10), 0, none⟩, ⟨9, (some 14), .mv (.t 0), 0, none⟩, ⟨10, (some 15), .nilc (.t 14), 0, none⟩, ⟨11, (some 16), .faddr 4 (.t 15), 0, none⟩, ⟨13, (some 18), .mv (.t 1), 0, none⟩, ⟨17, (some 22), .mv (.t 0), 0, none⟩, ⟨18, (some 23), .nilc (.t 22), 0, none⟩, ⟨19, (some 24), .faddr 3 (.t 23), 0, none⟩, ⟨3, (some 8), .load none (.t 7), 0, none⟩, ⟨7, (some 12), .load none (.t 11), 0, none⟩, ⟨8, (some 13), .len none (.t 12), 0, none⟩, ⟨12, (some 17), .load none (.t 16), 0, none⟩, ⟨14, (some 19), .iaddr none 1 (.t 17) (.t 18), 0, none⟩, ⟨15, (some 20), .load none (.t 19), 0, none⟩, ⟨16, (some 21), .bin .sub (.t 13) (.t 20), 0, none⟩, ⟨20, (some 25), .load none (.t 24), 0, none⟩, ⟨21, (some 26), .len none (.t 25), 0, none⟩, ⟨22, (some 27), .bin .rem (.t 21) (.t 26), 0, none⟩, ⟨23, (some 28), .iaddr none 1 (.t 8) (.t 27), 0, none⟩, ⟨24, (some 29), .load none (.t 28), 0, none⟩, ⟨25, (some 4), .mv (.t 29), 0, none⟩] [4])
   (.ret))

theorem ok201 : okF Tryz.prog 201 2 c201 [.tmp 4] = true := by kernel_rfl

/-- (*dauber/field.tables).product -/
def c202 : C :=
 .seq
  (.reg false [⟨0, (some 6), .mv (.c (.int .i64 (0))), 0, none⟩] [0, 1, 2])
  (.seq
   (.seq
    (.reg false [⟨0, (some 7), .mv (.t 1), 0, none⟩, ⟨1, (some 8), .bin .eql (.t 7) (.c (.int .i64 (0))), 0, none⟩, ⟨2, (some 9), .mv (.t 8), 0, none⟩, ⟨3, (some 10), .mv (.t 2), 0, (some (9, false))⟩, ⟨4, (some 11), .bin .eql (.t 10) (.c (.int .i64 (0))), 0, (some (9, false))⟩, ⟨5, (some 12), .pick (.t 9) (.c (.bool true)) (.t 11), 0, none⟩] [0, 1, 2, 12])
    (.cond (.t 12)
     (.seq
      (.reg false [⟨0, (some 6), .mv (.c (.int .i64 (0))), 0, none⟩] [6])
      (.ret))
     (.skip)))
   (.seq
    (.reg true [⟨0, (some 13), .mv (.t 0), 0, none⟩, ⟨1, (some 14), .nilc (.t 13), 0, none⟩, ⟨2, (some 15), .faddr 3 (.t 14), 0, none⟩, ⟨4, (some 17), .mv (.t 0), 0, none⟩, ⟨5, (some 18), .nilc (.t 17), 0, none⟩, ⟨6, (some 19), .faddr 4 (.t 18), 0, none⟩, ⟨8, (some 21), .mv (.t 1), 0, none⟩, ⟨11, (some 24), .mv (.t 0), 0, none⟩, ⟨12, (some 25), .nilc (.t 24), 0, none⟩, ⟨13, (some 26), .faddr 4 (.t 25), 0, none⟩, ⟨15, (some 28), .mv (.t 2), 0, none⟩, ⟨19, (some 32), .mv (.t 0), 0, none⟩, ⟨20, (some 33), .nilc (.t 32), 0, none⟩, ⟨21, (some 34), .faddr 3 (.t 33), 0, none⟩, ⟨3, (some 16), .load none (.t 15), 0, none⟩, ⟨7, (some 20), .load none (.t 19), 0, none⟩, ⟨9, (some 22), .iaddr none 1 (.t 20) (.t 21), 0, none⟩, ⟨10, (some 23), .load none (.t 22), 0, none⟩, ⟨14, (some 27), .load none (.t 26), 0, none⟩, ⟨16, (some 29), .iaddr none 1 (.t 27) (.t 28), 0, none⟩, ⟨17, (some 30), .load none (.t 29), 0, none⟩, ⟨18, (some 31), .bin .add (.t 23) (.t 30), 0, none⟩, ⟨22, (some 35), .load none (.t 34), 0, none⟩, ⟨23, (some 36), .len none (.t 35), 0, none⟩, ⟨24, (some 37), .bin .rem (.t 31) (.t 36), 0, none⟩, ⟨25, (some 38), .iaddr none 1 (.t 16) (.t 37), 0, none⟩, ⟨26, (some 39), .load none (.t 38), 0, none⟩, ⟨27, (some 6), .mv (.t 39), 0, none⟩] [6])
    (.ret)))

theorem ok202 : okF Tryz.prog 202 3 c202 [.tmp 6] = true := by kernel_rfl

def tabF : BT := .n 94 ⟨2, c94, [.tmp 3], .x⟩ (.n 48 ⟨2, c48, [.tmp 4], .x⟩ (.n 25 ⟨4, c25, [.tmp 8], .x⟩ (.n 13 ⟨3, c13, [.tmp 6], .x⟩ (.n 7 ⟨2, c7, [.tmp 4], .x⟩ (.n 4 ⟨3, c4, [.tmp 6], .x⟩ (.n 3 ⟨3, c3, [.tmp 6], .x⟩ (.n 2 ⟨0, c2, [], .x⟩ (.e) (.e)) (.e)) (.n 6 ⟨3, c6, [.tmp 6], .x⟩ (.n 5 ⟨3, c5, [.tmp 6], .x⟩ (.e) (.e)) (.e))) (.n 10 ⟨2, c10, [.tmp 4], .s 1⟩ (.n 9 ⟨1, c9, [.cell (some 3) 2, .cell (some 3) 3], .l [.x, .x]⟩ (.n 8 ⟨2, c8, [.tmp 4], .x⟩ (.e) (.e)) (.e)) (.n 12 ⟨3, c12, [.tmp 6, .tmp 7], .l [.s 1, .x]⟩ (.n 11 ⟨3, c11, [.tmp 6, .tmp 7], .l [.x, .x]⟩ (.e) (.e)) (.e)))) (.n 19 ⟨3, c19, [.tmp 6, .tmp 7], .l [.s 1, .x]⟩ (.n 16 ⟨3, c16, [.tmp 6], .s 1⟩ (.n 15 ⟨2, c15, [.tmp 4], .x⟩ (.n 14 ⟨3, c14, [.tmp 6], .s 1⟩ (.e) (.e)) (.e)) (.n 18 ⟨0, c18, [.tmp 0], .x⟩ (.n 17 ⟨3, c17, [.tmp 6], .s 1⟩ (.e) (.e)) (.e))) (.n 22 ⟨2, c22, [.tmp 4], .x⟩ (.n 21 ⟨3, c21, [.tmp 6, .tmp 7], .l [.s 1, .x]⟩ (.n 20 ⟨2, c20, [.tmp 4, .tmp 5], .l [.s 1, .x]⟩ (.e) (.e)) (.e)) (.n 24 ⟨2, c24, [.tmp 4], .s 1⟩ (.n 23 ⟨3, c23, [.tmp 6], .x⟩ (.e) (.e)) (.e))))) (.n 37 ⟨4, c37, [.cell (some 3) 8], .x⟩ (.n 31 ⟨3, c31, [.tmp 6], .x⟩ (.n 28 ⟨4, c28, [.cell (some 3) 8, .tmp 9], .l [.x, .x]⟩ (.n 27 ⟨1, c27, [.cell (some 3) 2], .x⟩ (.n 26 ⟨4, c26, [.tmp 8], .x⟩ (.e) (.e)) (.e)) (.n 30 ⟨4, c30, [.cell (some 3) 8], .x⟩ (.n 29 ⟨2, c29, [.tmp 4], .x⟩ (.e) (.e)) (.e))) (.n 34 ⟨3, c34, [.tmp 6, .tmp 7], .l [.x, .x]⟩ (.n 33 ⟨3, c33, [.tmp 6, .tmp 7], .l [.x, .x]⟩ (.n 32 ⟨3, c32, [.tmp 6], .x⟩ (.e) (.e)) (.e)) (.n 36 ⟨2, c36, [.tmp 4], .x⟩ (.n 35 ⟨4, c35, [.cell (some 3) 8, .tmp 9], .l [.x, .x]⟩ (.e) (.e)) (.e)))) (.n 43 ⟨1, c43, [.tmp 2], .x⟩ (.n 40 ⟨1, c40, [.cell (some 3) 2, .tmp 3], .l [.x, .x]⟩ (.n 39 ⟨2, c39, [.tmp 4, .tmp 5], .l [.x, .x]⟩ (.n 38 ⟨2, c38, [.tmp 4], .x⟩ (.e) (.e)) (.e)) (.n 42 ⟨1, c42, [.tmp 2], .x⟩ (.n 41 ⟨1, c41, [.cell (some 3) 2, .tmp 3], .l [.x, .x]⟩ (.e) (.e)) (.e))) (.n 46 ⟨3, c46, [.cell none 6], .x⟩ (.n 45 ⟨2, c45, [.tmp 4], .x⟩ (.n 44 ⟨4, c44, [.tmp 8, .tmp 9, .tmp 10], .l [.x, .s 1, .x]⟩ (.e) (.e)) (.e)) (.n 47 ⟨1, c47, [.tmp 2], .x⟩ (.e) (.e)))))) (.n 71 ⟨4, c71, [.cell (some 3) 8], .x⟩ (.n 60 ⟨2, c60, [.tmp 4], .x⟩ (.n 54 ⟨3, c54, [.tmp 6, .tmp 7], .l [.s 1, .x]⟩ (.n 51 ⟨3, c51, [.tmp 6], .x⟩ (.n 50 ⟨3, c50, [.tmp 6], .x⟩ (.n 49 ⟨3, c49, [.tmp 6], .x⟩ (.e) (.e)) (.e)) (.n 53 ⟨1, c53, [.tmp 2, .tmp 3], .l [.x, .x]⟩ (.n 52 ⟨2, c52, [.tmp 4], .x⟩ (.e) (.e)) (.e))) (.n 57 ⟨1, c57, [.cell (some 4) 2, .tmp 3], .l [.x, .x]⟩ (.n 56 ⟨1, c56, [.tmp 2], .s 1⟩ (.n 55 ⟨1, c55, [.tmp 2], .s 1⟩ (.e) (.e)) (.e)) (.n 59 ⟨1, c59, [.tmp 2], .s 1⟩ (.n 58 ⟨3, c58, [.tmp 6], .s 1⟩ (.e) (.e)) (.e)))) (.n 66 ⟨2, c66, [.tmp 4], .x⟩ (.n 63 ⟨3, c63, [.tmp 6], .x⟩ (.n 62 ⟨2, c62, [.tmp 4], .x⟩ (.n 61 ⟨3, c61, [.tmp 6], .x⟩ (.e) (.e)) (.e)) (.n 65 ⟨3, c65, [.tmp 6], .x⟩ (.n 64 ⟨2, c64, [.tmp 4], .x⟩ (.e) (.e)) (.e))) (.n 69 ⟨4, c69, [.tmp 8], .x⟩ (.n 68 ⟨3, c68, [.tmp 6], .x⟩ (.n 67 ⟨1, c67, [.tmp 2], .x⟩ (.e) (.e)) (.e)) (.n 70 ⟨2, c70, [.tmp 4], .x⟩ (.e) (.e))))) (.n 83 ⟨1, c83, [.tmp 2], .x⟩ (.n 77 ⟨3, c77, [], .x⟩ (.n 74 ⟨1, c74, [.tmp 2], .x⟩ (.n 73 ⟨1, c73, [.tmp 2], .x⟩ (.n 72 ⟨2, c72, [.tmp 4], .x⟩ (.e) (.e)) (.e)) (.n 76 ⟨2, c76, [.tmp 4, .tmp 5], .l [.s 1, .x]⟩ (.n 75 ⟨3, c75, [.tmp 6, .tmp 7], .l [.s 1, .x]⟩ (.e) (.e)) (.e))) (.n 80 ⟨3, c80, [.tmp 6], .s 1⟩ (.n 79 ⟨2, c79, [.tmp 4], .x⟩ (.n 78 ⟨1, c78, [.tmp 2], .s 1⟩ (.e) (.e)) (.e)) (.n 82 ⟨2, c82, [.tmp 4], .x⟩ (.n 81 ⟨2, c81, [.tmp 4], .x⟩ (.e) (.e)) (.e)))) (.n 89 ⟨2, c89, [.tmp 4], .x⟩ (.n 86 ⟨3, c86, [.tmp 6], .s 1⟩ (.n 85 ⟨3, c85, [.tmp 6], .x⟩ (.n 84 ⟨3, c84, [.tmp 6], .s 1⟩ (.e) (.e)) (.e)) (.n 88 ⟨2, c88, [.tmp 4], .x⟩ (.n 87 ⟨3, c87, [.tmp 6], .s 1⟩ (.e) (.e)) (.e))) (.n 92 ⟨1, c92, [.tmp 2], .s 1⟩ (.n 91 ⟨3, c91, [.tmp 6], .s 1⟩ (.n 90 ⟨3, c90, [.tmp 6], .x⟩ (.e) (.e)) (.e)) (.n 93 ⟨2, c93, [.tmp 4], .x⟩ (.e) (.e))))))) (.n 140 ⟨2, c140, [.tmp 3], .x⟩ (.n 117 ⟨3, c117, [.tmp 6], .x⟩ (.n 106 ⟨2, c106, [.tmp 4], .x⟩ (.n 100 ⟨2, c100, [.tmp 4], .x⟩ (.n 97 ⟨4, c97, [.tmp 6], .x⟩ (.n 96 ⟨4, c96, [.tmp 8], .x⟩ (.n 95 ⟨3, c95, [.tmp 4], .x⟩ (.e) (.e)) (.e)) (.n 99 ⟨1, c99, [.tmp 2, .tmp 3], .l [.x, .x]⟩ (.n 98 ⟨3, c98, [.tmp 6, .cell (some 2) 7, .tmp 8], .l [.s 1, .x, .x]⟩ (.e) (.e)) (.e))) (.n 103 ⟨4, c103, [.tmp 5], .x⟩ (.n 102 ⟨2, c102, [.tmp 4], .x⟩ (.n 101 ⟨2, c101, [.tmp 4, .tmp 5], .l [.s 1, .x]⟩ (.e) (.e)) (.e)) (.n 105 ⟨2, c105, [.tmp 4], .s 1⟩ (.n 104 ⟨3, c104, [.tmp 6], .x⟩ (.e) (.e)) (.e)))) (.n 112 ⟨3, c112, [.tmp 6], .x⟩ (.n 109 ⟨3, c109, [.tmp 3], .x⟩ (.n 108 ⟨1, c108, [.tmp 2], .x⟩ (.n 107 ⟨3, c107, [.tmp 6], .s 1⟩ (.e) (.e)) (.e)) (.n 111 ⟨2, c111, [.tmp 3], .x⟩ (.n 110 ⟨3, c110, [.tmp 6], .x⟩ (.e) (.e)) (.e))) (.n 115 ⟨2, c115, [.tmp 4], .s 1⟩ (.n 114 ⟨3, c114, [.tmp 6], .s 1⟩ (.n 113 ⟨4, c113, [.tmp 8], .s 1⟩ (.e) (.e)) (.e)) (.n 116 ⟨2, c116, [.tmp 4], .x⟩ (.e) (.e))))) (.n 129 ⟨5, c129, [.tmp 10], .x⟩ (.n 123 ⟨5, c123, [.tmp 10, .tmp 11], .l [.s 1, .x]⟩ (.n 120 ⟨2, c120, [.tmp 4], .x⟩ (.n 119 ⟨3, c119, [.tmp 6], .x⟩ (.n 118 ⟨3, c118, [.tmp 6], .x⟩ (.e) (.e)) (.e)) (.n 122 ⟨3, c122, [.tmp 6, .tmp 7], .l [.s 1, .s 1]⟩ (.n 121 ⟨3, c121, [.tmp 6], .x⟩ (.e) (.e)) (.e))) (.n 126 ⟨2, c126, [.tmp 4], .x⟩ (.n 125 ⟨1, c125, [.tmp 2], .x⟩ (.n 124 ⟨2, c124, [.tmp 4], .x⟩ (.e) (.e)) (.e)) (.n 128 ⟨2, c128, [.tmp 4], .x⟩ (.n 127 ⟨1, c127, [.tmp 2], .s 1⟩ (.e) (.e)) (.e)))) (.n 135 ⟨2, c135, [.tmp 4], .x⟩ (.n 132 ⟨2, c132, [.tmp 4], .s 1⟩ (.n 131 ⟨3, c131, [.tmp 6], .x⟩ (.n 130 ⟨1, c130, [.tmp 2], .s 1⟩ (.e) (.e)) (.e)) (.n 134 ⟨3, c134, [.tmp 6, .tmp 7], .l [.s 1, .x]⟩ (.n 133 ⟨3, c133, [.tmp 6], .x⟩ (.e) (.e)) (.e))) (.n 138 ⟨2, c138, [.tmp 4], .s 1⟩ (.n 137 ⟨3, c137, [.tmp 6], .s 1⟩ (.n 136 ⟨3, c136, [.tmp 6, .tmp 7, .tmp 8], .l [.s 1, .s 1, .x]⟩ (.e) (.e)) (.e)) (.n 139 ⟨3, c139, [.tmp 6], .x⟩ (.e) (.e)))))) (.n 163 ⟨3, c163, [.tmp 6], .x⟩ (.n 152 ⟨2, c152, [], .x⟩ (.n 146 ⟨3, c146, [.tmp 6], .x⟩ (.n 143 ⟨1, c143, [.tmp 2], .s 1⟩ (.n 142 ⟨1, c142, [.tmp 2], .x⟩ (.n 141 ⟨1, c141, [.tmp 2], .s 1⟩ (.e) (.e)) (.e)) (.n 145 ⟨2, c145, [.tmp 4], .x⟩ (.n 144 ⟨2, c144, [.tmp 4], .x⟩ (.e) (.e)) (.e))) (.n 149 ⟨3, c149, [.tmp 6, .tmp 7], .l [.x, .x]⟩ (.n 148 ⟨1, c148, [.tmp 2], .s 1⟩ (.n 147 ⟨3, c147, [.tmp 6, .tmp 7], .l [.s 1, .s 1]⟩ (.e) (.e)) (.e)) (.n 151 ⟨1, c151, [], .x⟩ (.n 150 ⟨1, c150, [.tmp 2], .s 1⟩ (.e) (.e)) (.e)))) (.n 158 ⟨3, c158, [], .x⟩ (.n 155 ⟨2, c155, [.tmp 4], .s 1⟩ (.n 154 ⟨2, c154, [.tmp 4], .x⟩ (.n 153 ⟨2, c153, [.tmp 4], .x⟩ (.e) (.e)) (.e)) (.n 157 ⟨1, c157, [.tmp 2], .x⟩ (.n 156 ⟨4, c156, [], .x⟩ (.e) (.e)) (.e))) (.n 161 ⟨3, c161, [.tmp 6, .tmp 7], .l [.x, .x]⟩ (.n 160 ⟨3, c160, [], .x⟩ (.n 159 ⟨3, c159, [], .x⟩ (.e) (.e)) (.e)) (.n 162 ⟨3, c162, [], .x⟩ (.e) (.e))))) (.n 175 ⟨4, c175, [.tmp 8, .tmp 9], .l [.x, .x]⟩ (.n 169 ⟨4, c169, [], .x⟩ (.n 166 ⟨4, c166, [.tmp 8, .tmp 9], .l [.x, .x]⟩ (.n 165 ⟨4, c165, [.tmp 8], .x⟩ (.n 164 ⟨2, c164, [.tmp 4], .x⟩ (.e) (.e)) (.e)) (.n 168 ⟨1, c168, [.tmp 2], .x⟩ (.n 167 ⟨1, c167, [.tmp 2], .x⟩ (.e) (.e)) (.e))) (.n 172 ⟨3, c172, [.tmp 6], .x⟩ (.n 171 ⟨1, c171, [.tmp 2], .x⟩ (.n 170 ⟨1, c170, [.tmp 2], .x⟩ (.e) (.e)) (.e)) (.n 174 ⟨1, c174, [.tmp 2], .x⟩ (.n 173 ⟨5, c173, [.tmp 10], .x⟩ (.e) (.e)) (.e)))) (.n 198 ⟨2, c198, [.tmp 4], .x⟩ (.n 195 ⟨3, c195, [.tmp 6], .x⟩ (.n 194 ⟨2, c194, [.tmp 4], .x⟩ (.n 193 ⟨3, c193, [.tmp 6], .x⟩ (.e) (.e)) (.e)) (.n 197 ⟨3, c197, [.tmp 6], .x⟩ (.n 196 ⟨3, c196, [.tmp 6], .x⟩ (.e) (.e)) (.e))) (.n 201 ⟨2, c201, [.tmp 4], .x⟩ (.n 200 ⟨4, c200, [.tmp 8], .x⟩ (.n 199 ⟨3, c199, [.tmp 6], .x⟩ (.e) (.e)) (.e)) (.n 202 ⟨3, c202, [.tmp 6], .x⟩ (.e) (.e)))))))
def methF : List (Nat × String × Nat) := [(24, "Has", 45), (24, "Power", 39), (24, "dauber/share.above", 67), (24, "dauber/share.below", 47), (24, "dauber/share.has", 64), (24, "dauber/share.imitated", 71), (24, "dauber/share.raise", 62), (24, "dauber/share.secrets", 66), (24, "dauber/share.value", 61), (55, "dauber/share.valid", 70), (82, "dauber/share.inverse", 52), (82, "dauber/share.minus", 50), (82, "dauber/share.plus", 51), (82, "dauber/share.power", 68), (82, "dauber/share.times", 49), (89, "Check", 154), (89, "Divide", 136), (89, "Product", 134), (89, "Sub", 133), (89, "Through", 54), (89, "Value", 149), (89, "dauber/field.areElements", 82), (89, "dauber/field.at", 112), (89, "dauber/field.both", 146), (89, "dauber/field.first", 79), (89, "dauber/field.in", 145), (89, "dauber/field.over", 147), (89, "dauber/field.plus", 113), (89, "dauber/field.through", 84), (89, "dauber/field.times", 114), (97, "Add", 118), (97, "Inverse", 89), (97, "Mul", 117), (97, "Neg", 88), (97, "Pow", 119), (97, "Product", 87), (97, "Scale", 86), (97, "Sub", 90), (97, "Sum", 91), (97, "Through", 58), (122, "dauber/field.difference", 193), (122, "dauber/field.inverse", 194), (122, "dauber/field.product", 195), (122, "dauber/field.sum", 196), (126, "dauber/field.difference", 197), (126, "dauber/field.each", 200), (126, "dauber/field.inverse", 198), (126, "dauber/field.product", 110), (126, "dauber/field.sum", 199), (127, "dauber/field.inverse", 201), (127, "dauber/field.product", 202), (142, "dauber/code.checkErased", 121), (142, "dauber/code.checkWord", 100), (142, "dauber/code.left", 132), (142, "dauber/code.less", 137), (142, "dauber/code.message", 101), (142, "dauber/code.near", 123), (142, "dauber/code.pair", 122), (142, "dauber/code.radius", 135), (142, "dauber/code.word", 138), (203, "Next", 171)]
def tab : Tab := ⟨tabF.find, methF⟩
theorem mixed : Tryz.prog.follows .mixedOrders = true := by kernel_rfl
theorem tab_all : tabF.All Tryz.prog := ⟨ok94, ⟨ok48, ⟨ok25, ⟨ok13, ⟨ok7, ⟨ok4, ⟨ok3, ⟨ok2, trivial, trivial⟩, trivial⟩, ⟨ok6, ⟨ok5, trivial, trivial⟩, trivial⟩⟩, ⟨ok10, ⟨ok9, ⟨ok8, trivial, trivial⟩, trivial⟩, ⟨ok12, ⟨ok11, trivial, trivial⟩, trivial⟩⟩⟩, ⟨ok19, ⟨ok16, ⟨ok15, ⟨ok14, trivial, trivial⟩, trivial⟩, ⟨ok18, ⟨ok17, trivial, trivial⟩, trivial⟩⟩, ⟨ok22, ⟨ok21, ⟨ok20, trivial, trivial⟩, trivial⟩, ⟨ok24, ⟨ok23, trivial, trivial⟩, trivial⟩⟩⟩⟩, ⟨ok37, ⟨ok31, ⟨ok28, ⟨ok27, ⟨ok26, trivial, trivial⟩, trivial⟩, ⟨ok30, ⟨ok29, trivial, trivial⟩, trivial⟩⟩, ⟨ok34, ⟨ok33, ⟨ok32, trivial, trivial⟩, trivial⟩, ⟨ok36, ⟨ok35, trivial, trivial⟩, trivial⟩⟩⟩, ⟨ok43, ⟨ok40, ⟨ok39, ⟨ok38, trivial, trivial⟩, trivial⟩, ⟨ok42, ⟨ok41, trivial, trivial⟩, trivial⟩⟩, ⟨ok46, ⟨ok45, ⟨ok44, trivial, trivial⟩, trivial⟩, ⟨ok47, trivial, trivial⟩⟩⟩⟩⟩, ⟨ok71, ⟨ok60, ⟨ok54, ⟨ok51, ⟨ok50, ⟨ok49, trivial, trivial⟩, trivial⟩, ⟨ok53, ⟨ok52, trivial, trivial⟩, trivial⟩⟩, ⟨ok57, ⟨ok56, ⟨ok55, trivial, trivial⟩, trivial⟩, ⟨ok59, ⟨ok58, trivial, trivial⟩, trivial⟩⟩⟩, ⟨ok66, ⟨ok63, ⟨ok62, ⟨ok61, trivial, trivial⟩, trivial⟩, ⟨ok65, ⟨ok64, trivial, trivial⟩, trivial⟩⟩, ⟨ok69, ⟨ok68, ⟨ok67, trivial, trivial⟩, trivial⟩, ⟨ok70, trivial, trivial⟩⟩⟩⟩, ⟨ok83, ⟨ok77, ⟨ok74, ⟨ok73, ⟨ok72, trivial, trivial⟩, trivial⟩, ⟨ok76, ⟨ok75, trivial, trivial⟩, trivial⟩⟩, ⟨ok80, ⟨ok79, ⟨ok78, trivial, trivial⟩, trivial⟩, ⟨ok82, ⟨ok81, trivial, trivial⟩, trivial⟩⟩⟩, ⟨ok89, ⟨ok86, ⟨ok85, ⟨ok84, trivial, trivial⟩, trivial⟩, ⟨ok88, ⟨ok87, trivial, trivial⟩, trivial⟩⟩, ⟨ok92, ⟨ok91, ⟨ok90, trivial, trivial⟩, trivial⟩, ⟨ok93, trivial, trivial⟩⟩⟩⟩⟩⟩, ⟨ok140, ⟨ok117, ⟨ok106, ⟨ok100, ⟨ok97, ⟨ok96, ⟨ok95, trivial, trivial⟩, trivial⟩, ⟨ok99, ⟨ok98, trivial, trivial⟩, trivial⟩⟩, ⟨ok103, ⟨ok102, ⟨ok101, trivial, trivial⟩, trivial⟩, ⟨ok105, ⟨ok104, trivial, trivial⟩, trivial⟩⟩⟩, ⟨ok112, ⟨ok109, ⟨ok108, ⟨ok107, trivial, trivial⟩, trivial⟩, ⟨ok111, ⟨ok110, trivial, trivial⟩, trivial⟩⟩, ⟨ok115, ⟨ok114, ⟨ok113, trivial, trivial⟩, trivial⟩, ⟨ok116, trivial, trivial⟩⟩⟩⟩, ⟨ok129, ⟨ok123, ⟨ok120, ⟨ok119, ⟨ok118, trivial, trivial⟩, trivial⟩, ⟨ok122, ⟨ok121, trivial, trivial⟩, trivial⟩⟩, ⟨ok126, ⟨ok125, ⟨ok124, trivial, trivial⟩, trivial⟩, ⟨ok128, ⟨ok127, trivial, trivial⟩, trivial⟩⟩⟩, ⟨ok135, ⟨ok132, ⟨ok131, ⟨ok130, trivial, trivial⟩, trivial⟩, ⟨ok134, ⟨ok133, trivial, trivial⟩, trivial⟩⟩, ⟨ok138, ⟨ok137, ⟨ok136, trivial, trivial⟩, trivial⟩, ⟨ok139, trivial, trivial⟩⟩⟩⟩⟩, ⟨ok163, ⟨ok152, ⟨ok146, ⟨ok143, ⟨ok142, ⟨ok141, trivial, trivial⟩, trivial⟩, ⟨ok145, ⟨ok144, trivial, trivial⟩, trivial⟩⟩, ⟨ok149, ⟨ok148, ⟨ok147, trivial, trivial⟩, trivial⟩, ⟨ok151, ⟨ok150, trivial, trivial⟩, trivial⟩⟩⟩, ⟨ok158, ⟨ok155, ⟨ok154, ⟨ok153, trivial, trivial⟩, trivial⟩, ⟨ok157, ⟨ok156, trivial, trivial⟩, trivial⟩⟩, ⟨ok161, ⟨ok160, ⟨ok159, trivial, trivial⟩, trivial⟩, ⟨ok162, trivial, trivial⟩⟩⟩⟩, ⟨ok175, ⟨ok169, ⟨ok166, ⟨ok165, ⟨ok164, trivial, trivial⟩, trivial⟩, ⟨ok168, ⟨ok167, trivial, trivial⟩, trivial⟩⟩, ⟨ok172, ⟨ok171, ⟨ok170, trivial, trivial⟩, trivial⟩, ⟨ok174, ⟨ok173, trivial, trivial⟩, trivial⟩⟩⟩, ⟨ok198, ⟨ok195, ⟨ok194, ⟨ok193, trivial, trivial⟩, trivial⟩, ⟨ok197, ⟨ok196, trivial, trivial⟩, trivial⟩⟩, ⟨ok201, ⟨ok200, ⟨ok199, trivial, trivial⟩, trivial⟩, ⟨ok202, trivial, trivial⟩⟩⟩⟩⟩⟩⟩
theorem meth0 : MethP Tryz.prog 24 "Has" 45 := fun v w => by kernel_rfl
theorem meth1 : MethP Tryz.prog 24 "Power" 39 := fun v w => by kernel_rfl
theorem meth2 : MethP Tryz.prog 24 "dauber/share.above" 67 := fun v w => by kernel_rfl
theorem meth3 : MethP Tryz.prog 24 "dauber/share.below" 47 := fun v w => by kernel_rfl
theorem meth4 : MethP Tryz.prog 24 "dauber/share.has" 64 := fun v w => by kernel_rfl
theorem meth5 : MethP Tryz.prog 24 "dauber/share.imitated" 71 := fun v w => by kernel_rfl
theorem meth6 : MethP Tryz.prog 24 "dauber/share.raise" 62 := fun v w => by kernel_rfl
theorem meth7 : MethP Tryz.prog 24 "dauber/share.secrets" 66 := fun v w => by kernel_rfl
theorem meth8 : MethP Tryz.prog 24 "dauber/share.value" 61 := fun v w => by kernel_rfl
theorem meth9 : MethP Tryz.prog 55 "dauber/share.valid" 70 := fun v w => by kernel_rfl
theorem meth10 : MethP Tryz.prog 82 "dauber/share.inverse" 52 := fun v w => by kernel_rfl
theorem meth11 : MethP Tryz.prog 82 "dauber/share.minus" 50 := fun v w => by kernel_rfl
theorem meth12 : MethP Tryz.prog 82 "dauber/share.plus" 51 := fun v w => by kernel_rfl
theorem meth13 : MethP Tryz.prog 82 "dauber/share.power" 68 := fun v w => by kernel_rfl
theorem meth14 : MethP Tryz.prog 82 "dauber/share.times" 49 := fun v w => by kernel_rfl
theorem meth15 : MethP Tryz.prog 89 "Check" 154 := fun v w => by kernel_rfl
theorem meth16 : MethP Tryz.prog 89 "Divide" 136 := fun v w => by kernel_rfl
theorem meth17 : MethP Tryz.prog 89 "Product" 134 := fun v w => by kernel_rfl
theorem meth18 : MethP Tryz.prog 89 "Sub" 133 := fun v w => by kernel_rfl
theorem meth19 : MethP Tryz.prog 89 "Through" 54 := fun v w => by kernel_rfl
theorem meth20 : MethP Tryz.prog 89 "Value" 149 := fun v w => by kernel_rfl
theorem meth21 : MethP Tryz.prog 89 "dauber/field.areElements" 82 := fun v w => by kernel_rfl
theorem meth22 : MethP Tryz.prog 89 "dauber/field.at" 112 := fun v w => by kernel_rfl
theorem meth23 : MethP Tryz.prog 89 "dauber/field.both" 146 := fun v w => by kernel_rfl
theorem meth24 : MethP Tryz.prog 89 "dauber/field.first" 79 := fun v w => by kernel_rfl
theorem meth25 : MethP Tryz.prog 89 "dauber/field.in" 145 := fun v w => by kernel_rfl
theorem meth26 : MethP Tryz.prog 89 "dauber/field.over" 147 := fun v w => by kernel_rfl
theorem meth27 : MethP Tryz.prog 89 "dauber/field.plus" 113 := fun v w => by kernel_rfl
theorem meth28 : MethP Tryz.prog 89 "dauber/field.through" 84 := fun v w => by kernel_rfl
theorem meth29 : MethP Tryz.prog 89 "dauber/field.times" 114 := fun v w => by kernel_rfl
theorem meth30 : MethP Tryz.prog 97 "Add" 118 := fun v w => by kernel_rfl
theorem meth31 : MethP Tryz.prog 97 "Inverse" 89 := fun v w => by kernel_rfl
theorem meth32 : MethP Tryz.prog 97 "Mul" 117 := fun v w => by kernel_rfl
theorem meth33 : MethP Tryz.prog 97 "Neg" 88 := fun v w => by kernel_rfl
theorem meth34 : MethP Tryz.prog 97 "Pow" 119 := fun v w => by kernel_rfl
theorem meth35 : MethP Tryz.prog 97 "Product" 87 := fun v w => by kernel_rfl
theorem meth36 : MethP Tryz.prog 97 "Scale" 86 := fun v w => by kernel_rfl
theorem meth37 : MethP Tryz.prog 97 "Sub" 90 := fun v w => by kernel_rfl
theorem meth38 : MethP Tryz.prog 97 "Sum" 91 := fun v w => by kernel_rfl
theorem meth39 : MethP Tryz.prog 97 "Through" 58 := fun v w => by kernel_rfl
theorem meth40 : MethP Tryz.prog 122 "dauber/field.difference" 193 := fun v w => by kernel_rfl
theorem meth41 : MethP Tryz.prog 122 "dauber/field.inverse" 194 := fun v w => by kernel_rfl
theorem meth42 : MethP Tryz.prog 122 "dauber/field.product" 195 := fun v w => by kernel_rfl
theorem meth43 : MethP Tryz.prog 122 "dauber/field.sum" 196 := fun v w => by kernel_rfl
theorem meth44 : MethP Tryz.prog 126 "dauber/field.difference" 197 := fun v w => by kernel_rfl
theorem meth45 : MethP Tryz.prog 126 "dauber/field.each" 200 := fun v w => by kernel_rfl
theorem meth46 : MethP Tryz.prog 126 "dauber/field.inverse" 198 := fun v w => by kernel_rfl
theorem meth47 : MethP Tryz.prog 126 "dauber/field.product" 110 := fun v w => by kernel_rfl
theorem meth48 : MethP Tryz.prog 126 "dauber/field.sum" 199 := fun v w => by kernel_rfl
theorem meth49 : MethP Tryz.prog 127 "dauber/field.inverse" 201 := fun v w => by kernel_rfl
theorem meth50 : MethP Tryz.prog 127 "dauber/field.product" 202 := fun v w => by kernel_rfl
theorem meth51 : MethP Tryz.prog 142 "dauber/code.checkErased" 121 := fun v w => by kernel_rfl
theorem meth52 : MethP Tryz.prog 142 "dauber/code.checkWord" 100 := fun v w => by kernel_rfl
theorem meth53 : MethP Tryz.prog 142 "dauber/code.left" 132 := fun v w => by kernel_rfl
theorem meth54 : MethP Tryz.prog 142 "dauber/code.less" 137 := fun v w => by kernel_rfl
theorem meth55 : MethP Tryz.prog 142 "dauber/code.message" 101 := fun v w => by kernel_rfl
theorem meth56 : MethP Tryz.prog 142 "dauber/code.near" 123 := fun v w => by kernel_rfl
theorem meth57 : MethP Tryz.prog 142 "dauber/code.pair" 122 := fun v w => by kernel_rfl
theorem meth58 : MethP Tryz.prog 142 "dauber/code.radius" 135 := fun v w => by kernel_rfl
theorem meth59 : MethP Tryz.prog 142 "dauber/code.word" 138 := fun v w => by kernel_rfl
theorem meth60 : MethP Tryz.prog 203 "Next" 171 := fun v w => by kernel_rfl
theorem meth_all : methAll Tryz.prog methF := ⟨meth0, meth1, meth2, meth3, meth4, meth5, meth6, meth7, meth8, meth9, meth10, meth11, meth12, meth13, meth14, meth15, meth16, meth17, meth18, meth19, meth20, meth21, meth22, meth23, meth24, meth25, meth26, meth27, meth28, meth29, meth30, meth31, meth32, meth33, meth34, meth35, meth36, meth37, meth38, meth39, meth40, meth41, meth42, meth43, meth44, meth45, meth46, meth47, meth48, meth49, meth50, meth51, meth52, meth53, meth54, meth55, meth56, meth57, meth58, meth59, meth60, trivial⟩
theorem tab_ok : TabOk Tryz.prog tab := tabOk_of mixed tab_all meth_all
end Go.Dp
