/-
  Texts that belong together: Dn, Nf1, Nf2.
-/
import Derived.Test.YtkiognclopmciaaDoorD27
import Derived.Test.YtkiognclopmciaaDoorProg
import Derived.KernelRfl
set_option linter.unusedSimpArgs false
set_option linter.unusedVariables false
namespace Go.Proofs.YtkiognclopmciaaDoor
open Go Go.RowKit Go.Am
set_option linter.unusedSimpArgs false
set_option linter.unusedVariables false
theorem ok : POk Tryd.prog := POk.of_check (by kernel_rfl) (by kernel_rfl)
def CO0 : CF := fun _ _ _ => none
theorem ck0 : CFOk Tryd.prog CO0 := fun _ _ _ _ _ _ _ h => by cases h
/-- gansey/needles.Check -/
def d10 : DCode :=
  .seq (
   .reg [
     .ef ⟨some 1, .box (.t 0), false, none⟩,
     .pu ⟨some 2, .mv (.c (.int .i64 0)), false, none⟩] false) (
   .seq (
    .seq (
     .reg [
       .pu ⟨some 3, .fldA 0 1 false (.t 1), false, none⟩,
       .pu ⟨some 4, .load 1 false (.t 3), false, none⟩,
       .pu ⟨some 5, .bin .gtr (.t 4) (.c (.int .u8 1)), false, none⟩,
       .pu ⟨some 6, .mv (.t 5), true, none⟩,
       .pu ⟨some 7, .fldA 1 1 false (.t 1), false, (some (6, false))⟩,
       .pu ⟨some 8, .load 1 false (.t 7), false, (some (6, false))⟩,
       .pu ⟨some 9, .bin .lss (.t 8) (.c (.int .i64 1)), false, (some (6, false))⟩,
       .pu ⟨some 10, .pick (.t 6) (.c (.lit true)) (.t 9), false, none⟩,
       .gh (.mrg 6 10 1984),
       .pu ⟨some 11, .mv (.t 10), true, none⟩,
       .pu ⟨some 12, .fldA 1 1 false (.t 1), false, (some (11, false))⟩,
       .pu ⟨some 13, .load 1 false (.t 12), false, (some (11, false))⟩,
       .pu ⟨some 14, .bin .gtr (.t 13) (.c (.int .i64 40)), false, (some (11, false))⟩,
       .pu ⟨some 15, .pick (.t 11) (.c (.lit true)) (.t 14), false, none⟩,
       .gh (.mrg 11 15 63488),
       .gh (.kp 32768)] false) (
     .cond 15 (
      .seq (
       .reg [
         .pu ⟨some 2, .mv (.c (.int .i64 1)), false, none⟩] false) (
       .ret)) (
      .skip))) (
    .seq (
     .reg [
       .pu ⟨some 2, .mv (.c (.int .i64 0)), false, none⟩] false) (
     .ret)))
def r10 : List DRes := [.t 2]


/-- gansey/needles.spot -/
def d20 : DCode :=
  .seq (
   .reg [
     .ef ⟨some 2, .box (.t 0), false, none⟩,
     .pu ⟨some 4, .mv (.c (.int .i64 0)), false, none⟩] false) (
   .seq (
    .seq (
     .reg [
       .pu ⟨some 5, .fldA 0 1 false (.t 2), false, none⟩,
       .pu ⟨some 6, .load 1 false (.t 5), false, none⟩,
       .pu ⟨some 7, .bin .eql (.t 6) (.c (.int .u8 1)), false, none⟩,
       .gh (.kp 134)] false) (
     .cond 7 (
      .seq (
       .reg [
         .pu ⟨some 8, .fldA 1 1 false (.t 2), false, none⟩,
         .pu ⟨some 9, .load 1 false (.t 8), false, none⟩,
         .pu ⟨some 10, .mv (.t 1), false, none⟩,
         .pu ⟨some 11, .bin .add (.t 9) (.t 10), false, none⟩,
         .pu ⟨some 12, .bin .mul (.c (.int .i64 4)) (.t 11), false, none⟩,
         .pu ⟨some 4, .mv (.t 12), false, none⟩,
         .gh (.kp 16)] false) (
       .ret)) (
      .skip))) (
    .seq (
     .reg [
       .pu ⟨some 13, .fldA 1 1 false (.t 2), false, none⟩,
       .pu ⟨some 14, .load 1 false (.t 13), false, none⟩,
       .pu ⟨some 15, .bin .mul (.c (.int .i64 4)) (.t 14), false, none⟩,
       .pu ⟨some 16, .bin .add (.t 15) (.c (.int .i64 2)), false, none⟩,
       .pu ⟨some 4, .mv (.t 16), false, none⟩,
       .gh (.kp 16)] false) (
     .ret)))
def r20 : List DRes := [.t 4]


/-- gansey/needles.racked -/
def d19 : DCode :=
  .seq (
   .reg [
     .pu ⟨some 2, .mv (.c (.lit false)), false, none⟩] false) (
   .seq (
    .reg [
      .pu ⟨some 3, .mv (.t 0), false, none⟩,
      .pu ⟨some 4, .bin .geq (.t 3) (.c (.int .i64 (-4))), false, none⟩,
      .pu ⟨some 5, .mv (.t 4), true, none⟩,
      .pu ⟨some 6, .mv (.t 0), false, (some (5, true))⟩,
      .pu ⟨some 7, .bin .leq (.t 6) (.c (.int .i64 4)), false, (some (5, true))⟩,
      .pu ⟨some 8, .pick (.t 5) (.t 7) (.c (.lit false)), false, none⟩,
      .gh (.mrg 5 8 480),
      .pu ⟨some 2, .mv (.t 8), false, none⟩,
      .gh (.kp 4)] false) (
    .ret))
def r19 : List DRes := [.t 2]


/-- gansey/ganseylaw01.needle -/
def d15 : DCode :=
  .seq (
   .reg [
     .ef ⟨some 2, .alloc [(.int .u8 0), (.int .i64 0)], false, none⟩] false) (
   .seq (
    .reg [
      .pu ⟨some 3, .mv (.t 0), false, none⟩,
      .pu ⟨some 4, .bin .rem (.t 3) (.c (.int .u8 80)), false, none⟩,
      .pu ⟨some 5, .bin .quo (.t 4) (.c (.int .u8 40)), false, none⟩,
      .pu ⟨some 6, .mv (.t 0), false, none⟩,
      .pu ⟨some 7, .bin .rem (.t 6) (.c (.int .u8 40)), false, none⟩,
      .pu ⟨some 8, .conv .i64 (.t 7), false, none⟩,
      .pu ⟨some 9, .bin .add (.c (.int .i64 1)) (.t 8), false, none⟩,
      .pu ⟨some 10, .build [(.int .u8 0), (.int .i64 0)] [(0, 1, (.t 5)), (1, 1, (.t 9))], false, none⟩,
      .ef ⟨none, .store 2 (.t 2) (.t 10), false, none⟩,
      .gh (.kp 4)] false) (
    .ret))
def r15 : List DRes := [.c 2 2 true]


/-- gansey/ganseylaw01.spot -/
def d14 : DCode :=
  .seq (
   .reg [
     .ef ⟨some 2, .box (.t 0), false, none⟩,
     .pu ⟨some 4, .mv (.c (.int .i64 0)), false, none⟩] false) (
   .seq (
    .seq (
     .reg [
       .pu ⟨some 5, .fldA 0 1 false (.t 2), false, none⟩,
       .pu ⟨some 6, .load 1 false (.t 5), false, none⟩,
       .pu ⟨some 7, .bin .eql (.t 6) (.c (.int .u8 1)), false, none⟩,
       .gh (.kp 134)] false) (
     .cond 7 (
      .seq (
       .reg [
         .pu ⟨some 8, .fldA 1 1 false (.t 2), false, none⟩,
         .pu ⟨some 9, .load 1 false (.t 8), false, none⟩,
         .pu ⟨some 10, .bin .mul (.c (.int .i64 4)) (.t 9), false, none⟩,
         .pu ⟨some 11, .mv (.t 1), false, none⟩,
         .pu ⟨some 12, .bin .mul (.c (.int .i64 4)) (.t 11), false, none⟩,
         .pu ⟨some 13, .bin .add (.t 10) (.t 12), false, none⟩,
         .pu ⟨some 4, .mv (.t 13), false, none⟩,
         .gh (.kp 16)] false) (
       .ret)) (
      .skip))) (
    .seq (
     .reg [
       .pu ⟨some 14, .fldA 1 1 false (.t 2), false, none⟩,
       .pu ⟨some 15, .load 1 false (.t 14), false, none⟩,
       .pu ⟨some 16, .bin .mul (.c (.int .i64 4)) (.t 15), false, none⟩,
       .pu ⟨some 17, .bin .add (.t 16) (.c (.int .i64 2)), false, none⟩,
       .pu ⟨some 4, .mv (.t 17), false, none⟩,
       .gh (.kp 16)] false) (
     .ret)))
def r14 : List DRes := [.t 4]


/-- gansey/needles.Opposite -/
def d16 : DCode :=
  .seq (
   .reg [
     .ef ⟨some 2, .box (.t 0), false, none⟩,
     .ef ⟨some 4, .alloc [(.int .u8 0), (.int .i64 0)], false, none⟩,
     .pu ⟨some 5, .mv (.c (.int .i64 0)), false, none⟩,
     .gh (.kp 22)] false) (
   .seq (
    .seq (
     .reg [
       .pu ⟨some 8, .load 2 true (.t 2), false, none⟩,
       .ca ⟨some 9, .call 10 [(.t 8)], false, none⟩,
       .pu ⟨some 6, .mv (.t 9), false, none⟩,
       .gh (.kp 86)] false) (
     .seq (
      .reg [
        .pu ⟨some 10, .mv (.t 6), false, none⟩,
        .pu ⟨some 11, .bin .neq (.t 10) (.c (.int .i64 0)), false, none⟩] false) (
      .cond 11 (
       .seq (
        .reg [
          .pu ⟨some 12, .build [(.int .u8 0), (.int .i64 0)] [], false, none⟩,
          .pu ⟨some 13, .mv (.t 6), false, none⟩,
          .ef ⟨none, .store 2 (.t 4) (.t 12), false, none⟩,
          .pu ⟨some 5, .mv (.t 13), false, none⟩,
          .gh (.kp 48)] false) (
        .ret)) (
       .skip)))) (
    .seq (
     .seq (
      .reg [
        .pu ⟨some 14, .mv (.t 1), false, none⟩,
        .ca ⟨some 15, .call 19 [(.t 14)], false, none⟩,
        .pu ⟨some 16, .not (.t 15), false, none⟩,
        .gh (.kp 65558)] false) (
      .cond 16 (
       .seq (
        .reg [
          .pu ⟨some 17, .build [(.int .u8 0), (.int .i64 0)] [], false, none⟩,
          .ef ⟨none, .store 2 (.t 4) (.t 17), false, none⟩,
          .pu ⟨some 5, .mv (.c (.int .i64 11)), false, none⟩,
          .gh (.kp 48)] false) (
        .ret)) (
       .skip))) (
     .seq (
      .reg [
        .pu ⟨some 18, .fldA 1 1 false (.t 2), false, none⟩,
        .pu ⟨some 19, .load 1 false (.t 18), false, none⟩,
        .pu ⟨some 20, .mv (.t 1), false, none⟩,
        .pu ⟨some 21, .bin .add (.t 19) (.t 20), false, none⟩,
        .pu ⟨some 22, .build [(.int .u8 0), (.int .i64 0)] [(0, 1, (.c (.int .u8 0))), (1, 1, (.t 21))], false, none⟩,
        .ef ⟨some 7, .alloc [(.int .u8 0), (.int .i64 0)], false, none⟩,
        .ef ⟨none, .store 2 (.t 7) (.t 22), false, none⟩,
        .gh (.kp 150)] false) (
      .seq (
       .seq (
        .reg [
          .pu ⟨some 23, .fldA 0 1 false (.t 2), false, none⟩,
          .pu ⟨some 24, .load 1 false (.t 23), false, none⟩,
          .pu ⟨some 25, .bin .eql (.t 24) (.c (.int .u8 0)), false, none⟩,
          .gh (.kp 33554582)] false) (
        .cond 25 (
         .reg [
           .pu ⟨some 26, .fldA 1 1 false (.t 2), false, none⟩,
           .pu ⟨some 27, .load 1 false (.t 26), false, none⟩,
           .pu ⟨some 28, .mv (.t 1), false, none⟩,
           .pu ⟨some 29, .bin .sub (.t 27) (.t 28), false, none⟩,
           .pu ⟨some 30, .build [(.int .u8 0), (.int .i64 0)] [(0, 1, (.c (.int .u8 1))), (1, 1, (.t 29))], false, none⟩,
           .ef ⟨none, .store 2 (.t 7) (.t 30), false, none⟩,
           .gh (.kp 144)] false) (
         .skip))) (
       .seq (
        .seq (
         .reg [
           .pu ⟨some 31, .load 2 true (.t 7), false, none⟩,
           .ca ⟨some 32, .call 10 [(.t 31)], false, none⟩,
           .pu ⟨some 33, .bin .neq (.t 32) (.c (.int .i64 0)), false, none⟩,
           .gh (.kp 8589934736)] false) (
         .cond 33 (
          .seq (
           .reg [
             .pu ⟨some 34, .build [(.int .u8 0), (.int .i64 0)] [], false, none⟩,
             .ef ⟨none, .store 2 (.t 4) (.t 34), false, none⟩,
             .pu ⟨some 5, .mv (.c (.int .i64 11)), false, none⟩,
             .gh (.kp 48)] false) (
           .ret)) (
          .skip))) (
        .seq (
         .reg [
           .pu ⟨some 35, .load 2 true (.t 7), false, none⟩,
           .ef ⟨none, .store 2 (.t 4) (.t 35), false, none⟩,
           .pu ⟨some 5, .mv (.c (.int .i64 0)), false, none⟩,
           .gh (.kp 48)] false) (
         .ret)))))))
def r16 : List DRes := [.c 4 2 true, .t 5]


/-- gansey/needles.Spot -/
def d11 : DCode :=
  .seq (
   .reg [
     .ef ⟨some 2, .box (.t 0), false, none⟩,
     .pu ⟨some 4, .mv (.c (.int .i64 0)), false, none⟩] false) (
   .seq (
    .seq (
     .reg [
       .pu ⟨some 5, .load 2 true (.t 2), false, none⟩,
       .ca ⟨some 6, .call 10 [(.t 5)], false, none⟩,
       .pu ⟨some 7, .bin .neq (.t 6) (.c (.int .i64 0)), false, none⟩,
       .pu ⟨some 8, .mv (.t 7), true, none⟩,
       .pu ⟨some 9, .mv (.t 1), false, (some (8, false))⟩,
       .ca ⟨some 10, .call 19 [(.t 9)], false, (some (8, false))⟩,
       .pu ⟨some 11, .not (.t 10), false, (some (8, false))⟩,
       .pu ⟨some 12, .pick (.t 8) (.c (.lit true)) (.t 11), false, none⟩,
       .gh (.mrg 8 12 7936),
       .gh (.kp 4102)] false) (
     .cond 12 (
      .seq (
       .reg [
         .pu ⟨some 4, .mv (.c (.int .i64 0)), false, none⟩] false) (
       .ret)) (
      .skip))) (
    .seq (
     .reg [
       .pu ⟨some 13, .load 2 true (.t 2), false, none⟩,
       .pu ⟨some 14, .mv (.t 1), false, none⟩,
       .ca ⟨some 15, .call 20 [(.t 13), (.t 14)], false, none⟩,
       .pu ⟨some 4, .mv (.t 15), false, none⟩,
       .gh (.kp 16)] false) (
     .ret)))
def r11 : List DRes := [.t 4]


/-- gansey/ganseylaw01.NeedlesOrder -/
def d8 : DCode :=
  .seq (
   .reg [
     .pu ⟨some 6, .mv (.c (.lit false)), false, none⟩] false) (
   .seq (
    .reg [
      .pu ⟨some 13, .mv (.t 2), false, none⟩,
      .pu ⟨some 14, .bin .rem (.t 13) (.c (.int .u8 9)), false, none⟩,
      .pu ⟨some 15, .conv .i64 (.t 14), false, none⟩,
      .pu ⟨some 16, .bin .sub (.t 15) (.c (.int .i64 4)), false, none⟩,
      .pu ⟨some 7, .mv (.t 16), false, none⟩,
      .gh (.kp 131)] false) (
    .seq (
     .reg [
       .pu ⟨some 17, .mv (.t 0), false, none⟩,
       .ca ⟨some 18, .call 15 [(.t 17)], false, none⟩,
       .pu ⟨some 19, .mv (.t 1), false, none⟩,
       .ca ⟨some 20, .call 15 [(.t 19)], false, none⟩,
       .ef ⟨some 8, .alloc [(.int .u8 0), (.int .i64 0)], false, none⟩,
       .ef ⟨some 9, .alloc [(.int .u8 0), (.int .i64 0)], false, none⟩,
       .ef ⟨none, .store 2 (.t 8) (.t 18), false, none⟩,
       .ef ⟨none, .store 2 (.t 9) (.t 20), false, none⟩,
       .gh (.kp 896)] false) (
     .seq (
      .reg [
        .pu ⟨some 21, .fldA 1 1 false (.t 8), false, none⟩,
        .pu ⟨some 22, .load 1 false (.t 21), false, none⟩,
        .pu ⟨some 23, .fldA 1 1 false (.t 9), false, none⟩,
        .pu ⟨some 24, .load 1 false (.t 23), false, none⟩,
        .pu ⟨some 10, .mv (.t 22), false, none⟩,
        .pu ⟨some 11, .mv (.t 24), false, none⟩,
        .gh (.kp 3968)] true) (
      .seq (
       .seq (
        .reg [
          .pu ⟨some 25, .fldA 0 1 false (.t 8), false, none⟩,
          .pu ⟨some 26, .load 1 false (.t 25), false, none⟩,
          .pu ⟨some 27, .bin .eql (.t 26) (.c (.int .u8 1)), false, none⟩,
          .gh (.kp 134221696)] false) (
        .cond 27 (
         .reg [
           .pu ⟨some 28, .mv (.t 10), false, none⟩,
           .pu ⟨some 29, .mv (.t 7), false, none⟩,
           .pu ⟨some 30, .bin .add (.t 28) (.t 29), false, none⟩,
           .pu ⟨some 10, .mv (.t 30), false, none⟩,
           .gh (.kp 3968)] false) (
         .skip))) (
       .seq (
        .seq (
         .reg [
           .pu ⟨some 31, .fldA 0 1 false (.t 9), false, none⟩,
           .pu ⟨some 32, .load 1 false (.t 31), false, none⟩,
           .pu ⟨some 33, .bin .eql (.t 32) (.c (.int .u8 1)), false, none⟩,
           .gh (.kp 8589938560)] false) (
         .cond 33 (
          .reg [
            .pu ⟨some 34, .mv (.t 11), false, none⟩,
            .pu ⟨some 35, .mv (.t 7), false, none⟩,
            .pu ⟨some 36, .bin .add (.t 34) (.t 35), false, none⟩,
            .pu ⟨some 11, .mv (.t 36), false, none⟩,
            .gh (.kp 3968)] false) (
          .skip))) (
        .seq (
         .reg [
           .pu ⟨some 37, .mv (.t 10), false, none⟩,
           .pu ⟨some 38, .mv (.t 11), false, none⟩,
           .pu ⟨some 39, .bin .lss (.t 37) (.t 38), false, none⟩,
           .pu ⟨some 40, .mv (.t 39), true, none⟩,
           .pu ⟨some 41, .mv (.t 10), false, (some (40, false))⟩,
           .pu ⟨some 42, .mv (.t 11), false, (some (40, false))⟩,
           .pu ⟨some 43, .bin .eql (.t 41) (.t 42), false, (some (40, false))⟩,
           .pu ⟨some 44, .mv (.t 43), true, (some (40, false))⟩,
           .pu ⟨some 45, .fldA 0 1 false (.t 8), false, (some (44, true))⟩,
           .pu ⟨some 46, .load 1 false (.t 45), false, (some (44, true))⟩,
           .pu ⟨some 47, .fldA 0 1 false (.t 9), false, (some (44, true))⟩,
           .pu ⟨some 48, .load 1 false (.t 47), false, (some (44, true))⟩,
           .pu ⟨some 49, .bin .gtr (.t 46) (.t 48), false, (some (44, true))⟩,
           .pu ⟨some 50, .pick (.t 44) (.t 49) (.c (.lit false)), false, (some (40, false))⟩,
           .gh (.mrg 44 50 2234207627640832),
           .pu ⟨some 51, .pick (.t 40) (.c (.lit true)) (.t 50), false, none⟩,
           .gh (.mrg 40 51 4502500115742720),
           .pu ⟨some 12, .mv (.t 51), false, none⟩,
           .gh (.kp 4992)] false) (
         .seq (
          .reg [
            .pu ⟨some 52, .load 2 true (.t 8), false, none⟩,
            .pu ⟨some 53, .mv (.t 7), false, none⟩,
            .ca ⟨some 54, .call 11 [(.t 52), (.t 53)], false, none⟩,
            .pu ⟨some 55, .load 2 true (.t 9), false, none⟩,
            .pu ⟨some 56, .mv (.t 7), false, none⟩,
            .ca ⟨some 57, .call 11 [(.t 55), (.t 56)], false, none⟩,
            .pu ⟨some 58, .bin .lss (.t 54) (.t 57), false, none⟩,
            .pu ⟨some 59, .mv (.t 12), false, none⟩,
            .pu ⟨some 60, .binB false (.t 58) (.t 59), false, none⟩,
            .pu ⟨some 61, .mv (.t 60), true, none⟩,
            .ca ⟨some 62, .call 12 [], false, (some (61, true))⟩,
            .pu ⟨some 63, .pick (.t 61) (.t 62) (.c (.lit false)), false, none⟩,
            .gh (.mrg 61 63 16140901064495857664),
            .pu ⟨some 6, .mv (.t 63), false, none⟩,
            .gh (.kp 64)] true) (
          .ret))))))))
def r8 : List DRes := [.t 6]


/-- gansey/ganseylaw01.NeedlesApart -/
def l7_0 : DCode :=
              .seq (
               .seq (
                .reg [
                  .pu ⟨some 56, .mv (.t 13), false, none⟩,
                  .pu ⟨some 57, .bin .lss (.t 56) (.c (.int .i64 40)), false, none⟩] false) (
                .cond 57 (
                 .skip) (
                 .exit 0))) (
               .seq (
                .block 1 (
                 .seq (
                  .reg [
                    .pu ⟨some 60, .mv (.t 13), false, none⟩,
                    .pu ⟨some 61, .conv .u8 (.t 60), false, none⟩,
                    .ca ⟨some 62, .call 15 [(.t 61)], false, none⟩,
                    .pu ⟨some 63, .mv (.t 7), false, none⟩,
                    .ca ⟨some 64, .call 11 [(.t 62), (.t 63)], false, none⟩,
                    .pu ⟨some 14, .mv (.t 64), false, none⟩,
                    .gh (.kp 30080)] false) (
                  .seq (
                   .reg [
                     .pu ⟨some 65, .mv (.t 14), false, none⟩,
                     .pu ⟨some 66, .mv (.t 10), false, none⟩,
                     .pu ⟨some 67, .bin .gtr (.t 65) (.t 66), false, none⟩,
                     .pu ⟨some 68, .mv (.t 67), true, none⟩,
                     .pu ⟨some 69, .mv (.t 14), false, (some (68, true))⟩,
                     .pu ⟨some 70, .mv (.t 10), false, (some (68, true))⟩,
                     .pu ⟨some 71, .bin .add (.t 70) (.c (.int .i64 4)), false, (some (68, true))⟩,
                     .pu ⟨some 72, .bin .lss (.t 69) (.t 71), false, (some (68, true))⟩,
                     .pu ⟨some 73, .pick (.t 68) (.t 72) (.c (.lit false)), false, none⟩,
                     .gh (.mrg 68 73 18594318026299228028928),
                     .gh (.kp 9444732965739290441088)] false) (
                   .cond 73 (
                    .reg [
                      .pu ⟨some 74, .mv (.t 12), false, none⟩,
                      .pu ⟨some 75, .bin .add (.t 74) (.c (.int .i64 1)), false, none⟩,
                      .pu ⟨some 12, .mv (.t 75), false, none⟩,
                      .gh (.kp 13696)] false) (
                    .skip))))) (
                .reg [
                  .pu ⟨some 58, .mv (.t 13), false, none⟩,
                  .pu ⟨some 59, .bin .add (.t 58) (.c (.int .i64 1)), false, none⟩,
                  .pu ⟨some 13, .mv (.t 59), false, none⟩,
                  .gh (.kp 13696)] false))
def d7 : DCode :=
  .seq (
   .reg [
     .pu ⟨some 6, .mv (.c (.lit false)), false, none⟩] false) (
   .seq (
    .reg [
      .pu ⟨some 16, .mv (.t 2), false, none⟩,
      .pu ⟨some 17, .bin .rem (.t 16) (.c (.int .u8 8)), false, none⟩,
      .pu ⟨some 18, .conv .i64 (.t 17), false, none⟩,
      .pu ⟨some 19, .bin .sub (.t 18) (.c (.int .i64 4)), false, none⟩,
      .pu ⟨some 7, .mv (.t 19), false, none⟩,
      .gh (.kp 131)] false) (
    .seq (
     .reg [
       .pu ⟨some 20, .mv (.t 0), false, none⟩,
       .ca ⟨some 21, .call 15 [(.t 20)], false, none⟩,
       .pu ⟨some 22, .mv (.t 1), false, none⟩,
       .ca ⟨some 23, .call 15 [(.t 22)], false, none⟩,
       .ef ⟨some 8, .alloc [(.int .u8 0), (.int .i64 0)], false, none⟩,
       .ef ⟨some 9, .alloc [(.int .u8 0), (.int .i64 0)], false, none⟩,
       .ef ⟨none, .store 2 (.t 8) (.t 21), false, none⟩,
       .ef ⟨none, .store 2 (.t 9) (.t 23), false, none⟩,
       .gh (.kp 896)] false) (
     .seq (
      .reg [
        .pu ⟨some 24, .load 2 true (.t 8), false, none⟩,
        .pu ⟨some 25, .mv (.t 7), false, none⟩,
        .ca ⟨some 26, .call 11 [(.t 24), (.t 25)], false, none⟩,
        .pu ⟨some 27, .load 2 true (.t 9), false, none⟩,
        .pu ⟨some 28, .mv (.t 7), false, none⟩,
        .ca ⟨some 29, .call 11 [(.t 27), (.t 28)], false, none⟩,
        .pu ⟨some 10, .mv (.t 26), false, none⟩,
        .pu ⟨some 11, .mv (.t 29), false, none⟩,
        .gh (.kp 3968)] true) (
      .seq (
       .seq (
        .reg [
          .pu ⟨some 30, .mv (.t 10), false, none⟩,
          .pu ⟨some 31, .mv (.t 11), false, none⟩,
          .pu ⟨some 32, .bin .eql (.t 30) (.t 31), false, none⟩,
          .pu ⟨some 33, .load 2 true (.t 8), false, none⟩,
          .pu ⟨some 34, .load 2 true (.t 9), false, none⟩,
          .pu ⟨some 35, .eqs [(.int .u8), (.int .i64)] false (.t 33) (.t 34), false, none⟩,
          .pu ⟨some 36, .binB true (.t 32) (.t 35), false, none⟩,
          .gh (.kp 68719478144)] false) (
        .cond 36 (
         .seq (
          .reg [
            .pu ⟨some 6, .mv (.c (.lit false)), false, none⟩] false) (
          .ret)) (
         .skip))) (
       .seq (
        .seq (
         .reg [
           .pu ⟨some 37, .fldA 0 1 false (.t 8), false, none⟩,
           .pu ⟨some 38, .load 1 false (.t 37), false, none⟩,
           .pu ⟨some 39, .bin .eql (.t 38) (.c (.int .u8 0)), false, none⟩,
           .gh (.kp 549755815296)] false) (
         .cond 39 (
          .seq (
           .reg [
             .pu ⟨some 40, .load 2 true (.t 8), false, none⟩,
             .pu ⟨some 41, .mv (.t 7), false, none⟩,
             .pu ⟨some 42, .bin .add (.t 41) (.c (.int .i64 1)), false, none⟩,
             .ca ⟨some 43, .call 11 [(.t 40), (.t 42)], false, none⟩,
             .pu ⟨some 44, .mv (.t 10), false, none⟩,
             .pu ⟨some 45, .bin .eql (.t 43) (.t 44), false, none⟩,
             .pu ⟨some 46, .mv (.t 45), true, none⟩,
             .ca ⟨some 47, .call 12 [], false, (some (46, true))⟩,
             .pu ⟨some 48, .pick (.t 46) (.t 47) (.c (.lit false)), false, none⟩,
             .gh (.mrg 46 48 492581209243648),
             .pu ⟨some 6, .mv (.t 48), false, none⟩,
             .gh (.kp 64)] false) (
           .ret)) (
          .skip))) (
        .seq (
         .seq (
          .reg [
            .pu ⟨some 49, .load 2 true (.t 8), false, none⟩,
            .pu ⟨some 50, .mv (.t 7), false, none⟩,
            .pu ⟨some 51, .bin .add (.t 50) (.c (.int .i64 1)), false, none⟩,
            .ca ⟨some 52, .call 11 [(.t 49), (.t 51)], false, none⟩,
            .pu ⟨some 53, .mv (.t 10), false, none⟩,
            .pu ⟨some 54, .bin .add (.t 53) (.c (.int .i64 4)), false, none⟩,
            .pu ⟨some 55, .bin .neq (.t 52) (.t 54), false, none⟩,
            .gh (.kp 36028797018965376)] false) (
          .cond 55 (
           .seq (
            .reg [
              .pu ⟨some 6, .mv (.c (.lit false)), false, none⟩] false) (
            .ret)) (
           .skip))) (
         .seq (
          .reg [
            .pu ⟨some 12, .mv (.c (.int .i64 0)), false, none⟩] false) (
          .seq (
           .seq (
            .reg [
              .pu ⟨some 13, .mv (.c (.int .i64 0)), false, none⟩] false) (
            .block 0 (
             .loop l7_0))) (
           .seq (
            .reg [
              .pu ⟨some 15, .mv (.c (.int .i64 0)), false, none⟩] false) (
            .seq (
             .seq (
              .reg [
                .pu ⟨some 76, .fldA 1 1 false (.t 8), false, none⟩,
                .pu ⟨some 77, .load 1 false (.t 76), false, none⟩,
                .pu ⟨some 78, .mv (.t 7), false, none⟩,
                .pu ⟨some 79, .bin .add (.t 77) (.t 78), false, none⟩,
                .pu ⟨some 80, .bin .geq (.t 79) (.c (.int .i64 1)), false, none⟩,
                .pu ⟨some 81, .mv (.t 80), true, none⟩,
                .pu ⟨some 82, .fldA 1 1 false (.t 8), false, (some (81, true))⟩,
                .pu ⟨some 83, .load 1 false (.t 82), false, (some (81, true))⟩,
                .pu ⟨some 84, .mv (.t 7), false, (some (81, true))⟩,
                .pu ⟨some 85, .bin .add (.t 83) (.t 84), false, (some (81, true))⟩,
                .pu ⟨some 86, .bin .leq (.t 85) (.c (.int .i64 40)), false, (some (81, true))⟩,
                .pu ⟨some 87, .pick (.t 81) (.t 86) (.c (.lit false)), false, none⟩,
                .gh (.mrg 81 87 307067158182115810375368704),
                .gh (.kp 154742504910672534362427392)] false) (
              .cond 87 (
               .reg [
                 .pu ⟨some 15, .mv (.c (.int .i64 1)), false, none⟩] false) (
               .skip))) (
             .seq (
              .reg [
                .pu ⟨some 88, .mv (.t 12), false, none⟩,
                .pu ⟨some 89, .mv (.t 15), false, none⟩,
                .pu ⟨some 90, .bin .eql (.t 88) (.t 89), false, none⟩,
                .pu ⟨some 91, .mv (.t 90), true, none⟩,
                .ca ⟨some 92, .call 12 [], false, (some (91, true))⟩,
                .pu ⟨some 93, .pick (.t 91) (.t 92) (.c (.lit false)), false, none⟩,
                .gh (.mrg 91 93 17331160549995323848587739136),
                .pu ⟨some 6, .mv (.t 93), false, none⟩,
                .gh (.kp 64)] false) (
              .ret))))))))))))
def r7 : List DRes := [.t 6]


/-- gansey/ganseylaw01.NeedlesSpots -/
def d3 : DCode :=
  .seq (
   .reg [
     .ef ⟨some 2, .box (.t 0), false, none⟩,
     .pu ⟨some 4, .mv (.c (.lit false)), false, none⟩] false) (
   .seq (
    .reg [
      .pu ⟨some 5, .mv (.c (.int .i64 0)), false, none⟩] false) (
    .seq (
     .seq (
      .reg [
        .pu ⟨some 9, .load 2 true (.t 2), false, none⟩,
        .ca ⟨some 10, .call 9 [(.t 9)], false, none⟩,
        .pu ⟨some 11, .bin .eql (.t 10) (.c (.int .i64 0)), false, none⟩,
        .gh (.kp 2086)] false) (
      .cond 11 (
       .reg [
         .pu ⟨some 5, .mv (.c (.int .i64 1)), false, none⟩] false) (
       .skip))) (
     .seq (
      .seq (
       .reg [
         .pu ⟨some 12, .load 2 true (.t 2), false, none⟩,
         .ca ⟨some 13, .call 10 [(.t 12)], false, none⟩,
         .pu ⟨some 14, .mv (.t 5), false, none⟩,
         .pu ⟨some 15, .bin .neq (.t 13) (.t 14), false, none⟩,
         .gh (.kp 32806)] false) (
       .cond 15 (
        .seq (
         .reg [
           .pu ⟨some 4, .mv (.c (.lit false)), false, none⟩] false) (
         .ret)) (
        .skip))) (
      .seq (
       .reg [
         .pu ⟨some 16, .load 2 true (.t 2), false, none⟩,
         .pu ⟨some 17, .mv (.t 1), false, none⟩,
         .ca ⟨some 18, .call 11 [(.t 16), (.t 17)], false, none⟩,
         .pu ⟨some 6, .mv (.t 18), false, none⟩,
         .gh (.kp 102)] false) (
       .seq (
        .seq (
         .reg [
           .pu ⟨some 19, .mv (.t 5), false, none⟩,
           .pu ⟨some 20, .bin .neq (.t 19) (.c (.int .i64 0)), false, none⟩,
           .pu ⟨some 21, .mv (.t 20), true, none⟩,
           .pu ⟨some 22, .mv (.t 1), false, (some (21, false))⟩,
           .pu ⟨some 23, .bin .lss (.t 22) (.c (.int .i64 (-4))), false, (some (21, false))⟩,
           .pu ⟨some 24, .pick (.t 21) (.c (.lit true)) (.t 23), false, none⟩,
           .gh (.mrg 21 24 31457280),
           .pu ⟨some 25, .mv (.t 24), true, none⟩,
           .pu ⟨some 26, .mv (.t 1), false, (some (25, false))⟩,
           .pu ⟨some 27, .bin .gtr (.t 26) (.c (.int .i64 4)), false, (some (25, false))⟩,
           .pu ⟨some 28, .pick (.t 25) (.c (.lit true)) (.t 27), false, none⟩,
           .gh (.mrg 25 28 503316480),
           .gh (.kp 268435526)] false) (
         .cond 28 (
          .seq (
           .reg [
             .pu ⟨some 29, .mv (.t 6), false, none⟩,
             .pu ⟨some 30, .bin .eql (.t 29) (.c (.int .i64 0)), false, none⟩,
             .pu ⟨some 31, .mv (.t 30), true, none⟩,
             .ca ⟨some 32, .call 12 [], false, (some (31, true))⟩,
             .pu ⟨some 33, .pick (.t 31) (.t 32) (.c (.lit false)), false, none⟩,
             .gh (.mrg 31 33 15032385536),
             .pu ⟨some 4, .mv (.t 33), false, none⟩,
             .gh (.kp 16)] false) (
           .ret)) (
          .skip))) (
        .seq (
         .reg [
           .pu ⟨some 35, .mv (.t 6), false, none⟩,
           .pu ⟨some 36, .mv (.t 1), false, none⟩,
           .ca ⟨some 37, .call 13 [(.t 35), (.t 36)], false, none⟩,
           .pu ⟨some 34, .mv (.t 37), false, none⟩,
           .pu ⟨some 38, .ext (.t 34) 0, false, none⟩,
           .pu ⟨some 39, .ext (.t 34) 1, false, none⟩,
           .ef ⟨some 7, .alloc [(.int .u8 0), (.int .i64 0)], false, none⟩,
           .ef ⟨none, .store 2 (.t 7) (.t 38), false, none⟩,
           .pu ⟨some 8, .mv (.t 39), false, none⟩,
           .gh (.kp 454)] false) (
         .seq (
          .reg [
            .pu ⟨some 40, .mv (.t 6), false, none⟩,
            .pu ⟨some 41, .load 2 true (.t 2), false, none⟩,
            .pu ⟨some 42, .mv (.t 1), false, none⟩,
            .ca ⟨some 43, .call 14 [(.t 41), (.t 42)], false, none⟩,
            .pu ⟨some 44, .bin .eql (.t 40) (.t 43), false, none⟩,
            .pu ⟨some 45, .mv (.t 44), true, none⟩,
            .pu ⟨some 46, .load 2 true (.t 7), false, (some (45, true))⟩,
            .pu ⟨some 47, .load 2 true (.t 2), false, (some (45, true))⟩,
            .pu ⟨some 48, .eqs [(.int .u8), (.int .i64)] false (.t 46) (.t 47), false, (some (45, true))⟩,
            .pu ⟨some 49, .pick (.t 45) (.t 48) (.c (.lit false)), false, none⟩,
            .gh (.mrg 45 49 1090715534753792),
            .pu ⟨some 50, .mv (.t 49), true, none⟩,
            .pu ⟨some 51, .mv (.t 8), false, (some (50, true))⟩,
            .pu ⟨some 52, .bin .eql (.t 51) (.c (.int .i64 0)), false, (some (50, true))⟩,
            .pu ⟨some 53, .pick (.t 50) (.t 52) (.c (.lit false)), false, none⟩,
            .gh (.mrg 50 53 16888498602639360),
            .pu ⟨some 54, .mv (.t 53), true, none⟩,
            .pu ⟨some 55, .mv (.t 6), false, (some (54, true))⟩,
            .pu ⟨some 56, .bin .rem (.t 55) (.c (.int .i64 2)), false, (some (54, true))⟩,
            .pu ⟨some 57, .bin .eql (.t 56) (.c (.int .i64 0)), false, (some (54, true))⟩,
            .pu ⟨some 58, .pick (.t 54) (.t 57) (.c (.lit false)), false, none⟩,
            .gh (.mrg 54 58 558446353793941504),
            .pu ⟨some 59, .mv (.t 58), true, none⟩,
            .pu ⟨some 60, .mv (.t 6), false, (some (59, true))⟩,
            .pu ⟨some 61, .bin .gtr (.t 60) (.c (.int .i64 (-13))), false, (some (59, true))⟩,
            .pu ⟨some 62, .pick (.t 59) (.t 61) (.c (.lit false)), false, none⟩,
            .gh (.mrg 59 62 8646911284551352320),
            .pu ⟨some 63, .mv (.t 62), true, none⟩,
            .pu ⟨some 64, .mv (.t 6), false, (some (63, true))⟩,
            .pu ⟨some 65, .bin .lss (.t 64) (.c (.int .i64 179)), false, (some (63, true))⟩,
            .pu ⟨some 66, .pick (.t 63) (.t 65) (.c (.lit false)), false, none⟩,
            .gh (.mrg 63 66 138350580552821637120),
            .pu ⟨some 67, .mv (.t 66), true, none⟩,
            .ca ⟨some 68, .call 12 [], false, (some (67, true))⟩,
            .pu ⟨some 69, .pick (.t 67) (.t 68) (.c (.lit false)), false, none⟩,
            .gh (.mrg 67 69 1033017668127734890496),
            .pu ⟨some 4, .mv (.t 69), false, none⟩,
            .gh (.kp 16)] false) (
          .ret))))))))
def r3 : List DRes := [.t 4]


/-- gansey/ganseylaw01.NeedlesAt -/
def l4_0 : DCode :=
           .seq (
            .seq (
             .reg [
               .pu ⟨some 33, .mv (.t 9), false, none⟩,
               .pu ⟨some 34, .bin .lss (.t 33) (.c (.int .i64 80)), false, none⟩] false) (
             .cond 34 (
              .skip) (
              .exit 0))) (
            .seq (
             .block 1 (
              .seq (
               .reg [
                 .pu ⟨some 37, .mv (.t 9), false, none⟩,
                 .pu ⟨some 38, .conv .u8 (.t 37), false, none⟩,
                 .ca ⟨some 39, .call 15 [(.t 38)], false, none⟩,
                 .ef ⟨some 10, .alloc [(.int .u8 0), (.int .i64 0)], false, none⟩,
                 .ef ⟨none, .store 2 (.t 10) (.t 39), false, none⟩,
                 .gh (.kp 2019)] false) (
               .seq (
                .reg [
                  .pu ⟨some 40, .load 2 true (.t 10), false, none⟩,
                  .pu ⟨some 41, .mv (.t 1), false, none⟩,
                  .ca ⟨some 42, .call 14 [(.t 40), (.t 41)], false, none⟩,
                  .pu ⟨some 43, .mv (.t 0), false, none⟩,
                  .pu ⟨some 44, .bin .eql (.t 42) (.t 43), false, none⟩,
                  .gh (.kp 17592186046435)] false) (
                .cond 44 (
                 .seq (
                  .reg [
                    .pu ⟨some 45, .mv (.t 7), false, none⟩,
                    .pu ⟨some 46, .bin .add (.t 45) (.c (.int .i64 1)), false, none⟩,
                    .pu ⟨some 7, .mv (.t 46), false, none⟩,
                    .gh (.kp 2019)] false) (
                  .reg [
                    .pu ⟨some 47, .load 2 true (.t 10), false, none⟩,
                    .ef ⟨none, .store 2 (.t 8) (.t 47), false, none⟩] false)) (
                 .skip))))) (
             .reg [
               .pu ⟨some 35, .mv (.t 9), false, none⟩,
               .pu ⟨some 36, .bin .add (.t 35) (.c (.int .i64 1)), false, none⟩,
               .pu ⟨some 9, .mv (.t 36), false, none⟩,
               .gh (.kp 995)] false))
def d4 : DCode :=
  .seq (
   .reg [
     .pu ⟨some 4, .mv (.c (.lit false)), false, none⟩] false) (
   .seq (
    .reg [
      .pu ⟨some 12, .mv (.t 0), false, none⟩,
      .pu ⟨some 13, .mv (.t 1), false, none⟩,
      .ca ⟨some 14, .call 13 [(.t 12), (.t 13)], false, none⟩,
      .pu ⟨some 11, .mv (.t 14), false, none⟩,
      .pu ⟨some 15, .ext (.t 11) 0, false, none⟩,
      .pu ⟨some 16, .ext (.t 11) 1, false, none⟩,
      .ef ⟨some 5, .alloc [(.int .u8 0), (.int .i64 0)], false, none⟩,
      .ef ⟨none, .store 2 (.t 5) (.t 15), false, none⟩,
      .pu ⟨some 6, .mv (.t 16), false, none⟩,
      .gh (.kp 99)] false) (
    .seq (
     .seq (
      .reg [
        .pu ⟨some 17, .mv (.t 1), false, none⟩,
        .pu ⟨some 18, .bin .lss (.t 17) (.c (.int .i64 (-4))), false, none⟩,
        .pu ⟨some 19, .mv (.t 18), true, none⟩,
        .pu ⟨some 20, .mv (.t 1), false, (some (19, false))⟩,
        .pu ⟨some 21, .bin .gtr (.t 20) (.c (.int .i64 4)), false, (some (19, false))⟩,
        .pu ⟨some 22, .pick (.t 19) (.c (.lit true)) (.t 21), false, none⟩,
        .gh (.mrg 19 22 7864320),
        .gh (.kp 4194403)] false) (
      .cond 22 (
       .seq (
        .reg [
          .pu ⟨some 23, .mv (.t 6), false, none⟩,
          .pu ⟨some 24, .bin .eql (.t 23) (.c (.int .i64 11)), false, none⟩,
          .pu ⟨some 25, .mv (.t 24), true, none⟩,
          .pu ⟨some 26, .load 2 true (.t 5), false, (some (25, true))⟩,
          .pu ⟨some 27, .build [(.int .u8 0), (.int .i64 0)] [], false, (some (25, true))⟩,
          .pu ⟨some 28, .eqs [(.int .u8), (.int .i64)] false (.t 26) (.t 27), false, (some (25, true))⟩,
          .pu ⟨some 29, .pick (.t 25) (.t 28) (.c (.lit false)), false, none⟩,
          .gh (.mrg 25 29 1040187392),
          .pu ⟨some 30, .mv (.t 29), true, none⟩,
          .ca ⟨some 31, .call 12 [], false, (some (30, true))⟩,
          .pu ⟨some 32, .pick (.t 30) (.t 31) (.c (.lit false)), false, none⟩,
          .gh (.mrg 30 32 7516192768),
          .pu ⟨some 4, .mv (.t 32), false, none⟩,
          .gh (.kp 16)] false) (
        .ret)) (
       .skip))) (
     .seq (
      .reg [
        .pu ⟨some 7, .mv (.c (.int .i64 0)), false, none⟩] false) (
      .seq (
       .reg [
         .ef ⟨some 8, .alloc [(.int .u8 0), (.int .i64 0)], false, none⟩] false) (
       .seq (
        .seq (
         .reg [
           .pu ⟨some 9, .mv (.c (.int .i64 0)), false, none⟩] false) (
         .block 0 (
          .loop l4_0))) (
        .seq (
         .seq (
          .reg [
            .pu ⟨some 48, .mv (.t 7), false, none⟩,
            .pu ⟨some 49, .bin .eql (.t 48) (.c (.int .i64 0)), false, none⟩] false) (
          .cond 49 (
           .seq (
            .reg [
              .pu ⟨some 50, .mv (.t 6), false, none⟩,
              .pu ⟨some 51, .bin .eql (.t 50) (.c (.int .i64 7)), false, none⟩,
              .pu ⟨some 52, .mv (.t 51), true, none⟩,
              .pu ⟨some 53, .load 2 true (.t 5), false, (some (52, true))⟩,
              .pu ⟨some 54, .build [(.int .u8 0), (.int .i64 0)] [], false, (some (52, true))⟩,
              .pu ⟨some 55, .eqs [(.int .u8), (.int .i64)] false (.t 53) (.t 54), false, (some (52, true))⟩,
              .pu ⟨some 56, .pick (.t 52) (.t 55) (.c (.lit false)), false, none⟩,
              .gh (.mrg 52 56 139611588448485376),
              .pu ⟨some 57, .mv (.t 56), true, none⟩,
              .ca ⟨some 58, .call 12 [], false, (some (57, true))⟩,
              .pu ⟨some 59, .pick (.t 57) (.t 58) (.c (.lit false)), false, none⟩,
              .gh (.mrg 57 59 1008806316530991104),
              .pu ⟨some 4, .mv (.t 59), false, none⟩,
              .gh (.kp 16)] false) (
            .ret)) (
           .skip))) (
         .seq (
          .reg [
            .pu ⟨some 60, .mv (.t 7), false, none⟩,
            .pu ⟨some 61, .bin .eql (.t 60) (.c (.int .i64 1)), false, none⟩,
            .pu ⟨some 62, .mv (.t 61), true, none⟩,
            .pu ⟨some 63, .mv (.t 6), false, (some (62, true))⟩,
            .pu ⟨some 64, .bin .eql (.t 63) (.c (.int .i64 0)), false, (some (62, true))⟩,
            .pu ⟨some 65, .pick (.t 62) (.t 64) (.c (.lit false)), false, none⟩,
            .gh (.mrg 62 65 69175290276410818560),
            .pu ⟨some 66, .mv (.t 65), true, none⟩,
            .pu ⟨some 67, .load 2 true (.t 5), false, (some (66, true))⟩,
            .pu ⟨some 68, .load 2 true (.t 8), false, (some (66, true))⟩,
            .pu ⟨some 69, .eqs [(.int .u8), (.int .i64)] false (.t 67) (.t 68), false, (some (66, true))⟩,
            .pu ⟨some 70, .pick (.t 66) (.t 69) (.c (.lit false)), false, none⟩,
            .gh (.mrg 66 70 2287396265139984400384),
            .pu ⟨some 71, .mv (.t 70), true, none⟩,
            .ca ⟨some 72, .call 12 [], false, (some (71, true))⟩,
            .pu ⟨some 73, .pick (.t 71) (.t 72) (.c (.lit false)), false, none⟩,
            .gh (.mrg 71 73 16528282690043758247936),
            .pu ⟨some 4, .mv (.t 73), false, none⟩,
            .gh (.kp 16)] false) (
          .ret))))))))
def r4 : List DRes := [.t 4]


/-- gansey/ganseylaw01.NeedlesOpposite -/
def l5_0 : DCode :=
          .seq (
           .seq (
            .reg [
              .pu ⟨some 48, .mv (.t 7), false, none⟩,
              .pu ⟨some 49, .bin .lss (.t 48) (.c (.int .i64 80)), false, none⟩] false) (
            .cond 49 (
             .skip) (
             .exit 0))) (
           .seq (
            .block 1 (
             .seq (
              .reg [
                .pu ⟨some 52, .mv (.t 7), false, none⟩,
                .pu ⟨some 53, .conv .u8 (.t 52), false, none⟩,
                .ca ⟨some 54, .call 15 [(.t 53)], false, none⟩,
                .ef ⟨some 8, .alloc [(.int .u8 0), (.int .i64 0)], false, none⟩,
                .ef ⟨none, .store 2 (.t 8) (.t 54), false, none⟩,
                .gh (.kp 486)] false) (
              .seq (
               .seq (
                .reg [
                  .pu ⟨some 55, .fldA 0 1 false (.t 8), false, none⟩,
                  .pu ⟨some 56, .load 1 false (.t 55), false, none⟩,
                  .pu ⟨some 57, .fldA 0 1 false (.t 2), false, none⟩,
                  .pu ⟨some 58, .load 1 false (.t 57), false, none⟩,
                  .pu ⟨some 59, .bin .eql (.t 56) (.t 58), false, none⟩,
                  .gh (.kp 576460752303423974)] false) (
                .cond 59 (
                 .exit 1) (
                 .skip))) (
               .seq (
                .reg [
                  .pu ⟨some 60, .load 2 true (.t 2), false, none⟩,
                  .pu ⟨some 61, .load 2 true (.t 8), false, none⟩,
                  .ef ⟨some 9, .alloc [(.int .u8 0), (.int .i64 0)], false, none⟩,
                  .ef ⟨some 10, .alloc [(.int .u8 0), (.int .i64 0)], false, none⟩,
                  .ef ⟨none, .store 2 (.t 9) (.t 60), false, none⟩,
                  .ef ⟨none, .store 2 (.t 10) (.t 61), false, none⟩,
                  .gh (.kp 2022)] true) (
                .seq (
                 .seq (
                  .reg [
                    .pu ⟨some 62, .fldA 0 1 false (.t 2), false, none⟩,
                    .pu ⟨some 63, .load 1 false (.t 62), false, none⟩,
                    .pu ⟨some 64, .bin .eql (.t 63) (.c (.int .u8 1)), false, none⟩,
                    .gh (.kp 18446744073709553638)] false) (
                  .cond 64 (
                   .reg [
                     .pu ⟨some 65, .load 2 true (.t 8), false, none⟩,
                     .pu ⟨some 66, .load 2 true (.t 2), false, none⟩,
                     .ef ⟨none, .store 2 (.t 9) (.t 65), false, none⟩,
                     .ef ⟨none, .store 2 (.t 10) (.t 66), false, none⟩,
                     .gh (.kp 2022)] true) (
                   .skip))) (
                 .seq (
                  .seq (
                   .reg [
                     .pu ⟨some 67, .fldA 1 1 false (.t 9), false, none⟩,
                     .pu ⟨some 68, .load 1 false (.t 67), false, none⟩,
                     .pu ⟨some 69, .fldA 1 1 false (.t 10), false, none⟩,
                     .pu ⟨some 70, .load 1 false (.t 69), false, none⟩,
                     .pu ⟨some 71, .mv (.t 1), false, none⟩,
                     .pu ⟨some 72, .bin .add (.t 70) (.t 71), false, none⟩,
                     .pu ⟨some 73, .bin .neq (.t 68) (.t 72), false, none⟩,
                     .gh (.kp 9444732965739290429414)] false) (
                   .cond 73 (
                    .exit 1) (
                    .skip))) (
                  .seq (
                   .reg [
                     .pu ⟨some 75, .load 2 true (.t 5), false, none⟩,
                     .pu ⟨some 76, .mv (.t 1), false, none⟩,
                     .ca ⟨some 77, .call 16 [(.t 75), (.t 76)], false, none⟩,
                     .pu ⟨some 74, .mv (.t 77), false, none⟩,
                     .pu ⟨some 78, .ext (.t 74) 0, false, none⟩,
                     .pu ⟨some 79, .ext (.t 74) 1, false, none⟩,
                     .ef ⟨some 11, .alloc [(.int .u8 0), (.int .i64 0)], false, none⟩,
                     .ef ⟨none, .store 2 (.t 11) (.t 78), false, none⟩,
                     .pu ⟨some 12, .mv (.t 79), false, none⟩,
                     .gh (.kp 8038)] false) (
                   .seq (
                    .reg [
                      .pu ⟨some 80, .mv (.t 6), false, none⟩,
                      .pu ⟨some 81, .bin .eql (.t 80) (.c (.int .i64 0)), false, none⟩,
                      .pu ⟨some 82, .mv (.t 81), true, none⟩,
                      .pu ⟨some 83, .load 2 true (.t 5), false, (some (82, true))⟩,
                      .pu ⟨some 84, .load 2 true (.t 8), false, (some (82, true))⟩,
                      .pu ⟨some 85, .eqs [(.int .u8), (.int .i64)] false (.t 83) (.t 84), false, (some (82, true))⟩,
                      .pu ⟨some 86, .pick (.t 82) (.t 85) (.c (.lit false)), false, none⟩,
                      .gh (.mrg 82 86 149906801632214017663565824),
                      .pu ⟨some 87, .mv (.t 86), true, none⟩,
                      .pu ⟨some 88, .mv (.t 12), false, (some (87, true))⟩,
                      .pu ⟨some 89, .bin .eql (.t 88) (.c (.int .i64 0)), false, (some (87, true))⟩,
                      .pu ⟨some 90, .pick (.t 87) (.t 89) (.c (.lit false)), false, none⟩,
                      .gh (.mrg 87 90 2321137573660088015435857920),
                      .pu ⟨some 91, .mv (.t 90), true, none⟩,
                      .pu ⟨some 92, .load 2 true (.t 11), false, (some (91, true))⟩,
                      .pu ⟨some 93, .load 2 true (.t 2), false, (some (91, true))⟩,
                      .pu ⟨some 94, .eqs [(.int .u8), (.int .i64)] false (.t 92) (.t 93), false, (some (91, true))⟩,
                      .pu ⟨some 95, .pick (.t 91) (.t 94) (.c (.lit false)), false, none⟩,
                      .gh (.mrg 91 95 76752282435693577043745701888),
                      .pu ⟨some 96, .mv (.t 95), true, none⟩,
                      .pu ⟨some 97, .load 2 true (.t 9), false, (some (96, true))⟩,
                      .pu ⟨some 98, .mv (.t 1), false, (some (96, true))⟩,
                      .ca ⟨some 99, .call 11 [(.t 97), (.t 98)], false, (some (96, true))⟩,
                      .pu ⟨some 100, .load 2 true (.t 10), false, (some (96, true))⟩,
                      .pu ⟨some 101, .mv (.t 1), false, (some (96, true))⟩,
                      .ca ⟨some 102, .call 11 [(.t 100), (.t 101)], false, (some (96, true))⟩,
                      .pu ⟨some 103, .bin .add (.t 102) (.c (.int .i64 2)), false, (some (96, true))⟩,
                      .pu ⟨some 104, .bin .eql (.t 99) (.t 103), false, (some (96, true))⟩,
                      .pu ⟨some 105, .pick (.t 96) (.t 104) (.c (.lit false)), false, none⟩,
                      .gh (.mrg 96 105 81050410252092417358195461193728),
                      .pu ⟨some 106, .mv (.t 105), true, none⟩,
                      .ca ⟨some 107, .call 12 [], false, (some (106, true))⟩,
                      .pu ⟨some 108, .pick (.t 106) (.t 107) (.c (.lit false)), false, none⟩,
                      .gh (.mrg 106 108 567907468902246771870523036008448),
                      .pu ⟨some 4, .mv (.t 108), false, none⟩,
                      .gh (.kp 16)] true) (
                    .ret))))))))) (
            .reg [
              .pu ⟨some 50, .mv (.t 7), false, none⟩,
              .pu ⟨some 51, .bin .add (.t 50) (.c (.int .i64 1)), false, none⟩,
              .pu ⟨some 7, .mv (.t 51), false, none⟩,
              .gh (.kp 230)] false))
def d5 : DCode :=
  .seq (
   .reg [
     .ef ⟨some 2, .box (.t 0), false, none⟩,
     .pu ⟨some 4, .mv (.c (.lit false)), false, none⟩] false) (
   .seq (
    .reg [
      .pu ⟨some 14, .load 2 true (.t 2), false, none⟩,
      .pu ⟨some 15, .mv (.t 1), false, none⟩,
      .ca ⟨some 16, .call 16 [(.t 14), (.t 15)], false, none⟩,
      .pu ⟨some 13, .mv (.t 16), false, none⟩,
      .pu ⟨some 17, .ext (.t 13) 0, false, none⟩,
      .pu ⟨some 18, .ext (.t 13) 1, false, none⟩,
      .ef ⟨some 5, .alloc [(.int .u8 0), (.int .i64 0)], false, none⟩,
      .ef ⟨none, .store 2 (.t 5) (.t 17), false, none⟩,
      .pu ⟨some 6, .mv (.t 18), false, none⟩,
      .gh (.kp 102)] false) (
    .seq (
     .seq (
      .reg [
        .pu ⟨some 19, .load 2 true (.t 2), false, none⟩,
        .ca ⟨some 20, .call 9 [(.t 19)], false, none⟩,
        .pu ⟨some 21, .bin .eql (.t 20) (.c (.int .i64 0)), false, none⟩,
        .gh (.kp 2097254)] false) (
      .cond 21 (
       .seq (
        .reg [
          .pu ⟨some 22, .mv (.t 6), false, none⟩,
          .pu ⟨some 23, .bin .eql (.t 22) (.c (.int .i64 1)), false, none⟩,
          .pu ⟨some 24, .mv (.t 23), true, none⟩,
          .pu ⟨some 25, .load 2 true (.t 5), false, (some (24, true))⟩,
          .pu ⟨some 26, .build [(.int .u8 0), (.int .i64 0)] [], false, (some (24, true))⟩,
          .pu ⟨some 27, .eqs [(.int .u8), (.int .i64)] false (.t 25) (.t 26), false, (some (24, true))⟩,
          .pu ⟨some 28, .pick (.t 24) (.t 27) (.c (.lit false)), false, none⟩,
          .gh (.mrg 24 28 520093696),
          .pu ⟨some 29, .mv (.t 28), true, none⟩,
          .ca ⟨some 30, .call 12 [], false, (some (29, true))⟩,
          .pu ⟨some 31, .pick (.t 29) (.t 30) (.c (.lit false)), false, none⟩,
          .gh (.mrg 29 31 3758096384),
          .pu ⟨some 4, .mv (.t 31), false, none⟩,
          .gh (.kp 16)] false) (
        .ret)) (
       .skip))) (
     .seq (
      .seq (
       .reg [
         .pu ⟨some 32, .mv (.t 1), false, none⟩,
         .pu ⟨some 33, .bin .lss (.t 32) (.c (.int .i64 (-4))), false, none⟩,
         .pu ⟨some 34, .mv (.t 33), true, none⟩,
         .pu ⟨some 35, .mv (.t 1), false, (some (34, false))⟩,
         .pu ⟨some 36, .bin .gtr (.t 35) (.c (.int .i64 4)), false, (some (34, false))⟩,
         .pu ⟨some 37, .pick (.t 34) (.c (.lit true)) (.t 36), false, none⟩,
         .gh (.mrg 34 37 257698037760),
         .gh (.kp 137438953574)] false) (
       .cond 37 (
        .seq (
         .reg [
           .pu ⟨some 38, .mv (.t 6), false, none⟩,
           .pu ⟨some 39, .bin .eql (.t 38) (.c (.int .i64 11)), false, none⟩,
           .pu ⟨some 40, .mv (.t 39), true, none⟩,
           .pu ⟨some 41, .load 2 true (.t 5), false, (some (40, true))⟩,
           .pu ⟨some 42, .build [(.int .u8 0), (.int .i64 0)] [], false, (some (40, true))⟩,
           .pu ⟨some 43, .eqs [(.int .u8), (.int .i64)] false (.t 41) (.t 42), false, (some (40, true))⟩,
           .pu ⟨some 44, .pick (.t 40) (.t 43) (.c (.lit false)), false, none⟩,
           .gh (.mrg 40 44 34084860461056),
           .pu ⟨some 45, .mv (.t 44), true, none⟩,
           .ca ⟨some 46, .call 12 [], false, (some (45, true))⟩,
           .pu ⟨some 47, .pick (.t 45) (.t 46) (.c (.lit false)), false, none⟩,
           .gh (.mrg 45 47 246290604621824),
           .pu ⟨some 4, .mv (.t 47), false, none⟩,
           .gh (.kp 16)] false) (
         .ret)) (
        .skip))) (
      .seq (
       .seq (
        .reg [
          .pu ⟨some 7, .mv (.c (.int .i64 0)), false, none⟩] false) (
        .block 0 (
         .loop l5_0))) (
       .seq (
        .reg [
          .pu ⟨some 109, .mv (.t 6), false, none⟩,
          .pu ⟨some 110, .bin .eql (.t 109) (.c (.int .i64 11)), false, none⟩,
          .pu ⟨some 111, .mv (.t 110), true, none⟩,
          .pu ⟨some 112, .load 2 true (.t 5), false, (some (111, true))⟩,
          .pu ⟨some 113, .build [(.int .u8 0), (.int .i64 0)] [], false, (some (111, true))⟩,
          .pu ⟨some 114, .eqs [(.int .u8), (.int .i64)] false (.t 112) (.t 113), false, (some (111, true))⟩,
          .pu ⟨some 115, .pick (.t 111) (.t 114) (.c (.lit false)), false, none⟩,
          .gh (.mrg 111 115 80480601307289828242222693102911488),
          .pu ⟨some 116, .mv (.t 115), true, none⟩,
          .ca ⟨some 117, .call 12 [], false, (some (116, true))⟩,
          .pu ⟨some 118, .pick (.t 116) (.t 117) (.c (.lit false)), false, none⟩,
          .gh (.mrg 116 118 581537248155900694395415588872650752),
          .pu ⟨some 4, .mv (.t 118), false, none⟩,
          .gh (.kp 16)] false) (
        .ret))))))
def r5 : List DRes := [.t 4]


/-- gansey/ganseylaw01.valid -/
def d9 : DCode :=
  .seq (
   .reg [
     .ef ⟨some 1, .box (.t 0), false, none⟩,
     .pu ⟨some 2, .mv (.c (.int .i64 0)), false, none⟩] false) (
   .seq (
    .seq (
     .reg [
       .pu ⟨some 3, .fldA 0 1 false (.t 1), false, none⟩,
       .pu ⟨some 4, .load 1 false (.t 3), false, none⟩,
       .pu ⟨some 5, .bin .leq (.t 4) (.c (.int .u8 1)), false, none⟩,
       .pu ⟨some 6, .mv (.t 5), true, none⟩,
       .pu ⟨some 7, .fldA 1 1 false (.t 1), false, (some (6, true))⟩,
       .pu ⟨some 8, .load 1 false (.t 7), false, (some (6, true))⟩,
       .pu ⟨some 9, .bin .geq (.t 8) (.c (.int .i64 1)), false, (some (6, true))⟩,
       .pu ⟨some 10, .pick (.t 6) (.t 9) (.c (.lit false)), false, none⟩,
       .gh (.mrg 6 10 1984),
       .pu ⟨some 11, .mv (.t 10), true, none⟩,
       .pu ⟨some 12, .fldA 1 1 false (.t 1), false, (some (11, true))⟩,
       .pu ⟨some 13, .load 1 false (.t 12), false, (some (11, true))⟩,
       .pu ⟨some 14, .bin .leq (.t 13) (.c (.int .i64 40)), false, (some (11, true))⟩,
       .pu ⟨some 15, .pick (.t 11) (.t 14) (.c (.lit false)), false, none⟩,
       .gh (.mrg 11 15 63488),
       .gh (.kp 32768)] false) (
     .cond 15 (
      .seq (
       .reg [
         .pu ⟨some 2, .mv (.c (.int .i64 1)), false, none⟩] false) (
       .ret)) (
      .skip))) (
    .seq (
     .reg [
       .pu ⟨some 2, .mv (.c (.int .i64 0)), false, none⟩] false) (
     .ret)))
def r9 : List DRes := [.t 2]


/-- gansey/needles.At -/
def l13_1 : DCode :=
                    .seq (
                     .reg [
                       .pu ⟨some 21, .bin .lss (.t 20) (.c (.int .i64 40)), false, none⟩] false) (
                     .seq (
                      .cond 21 (
                       .skip) (
                       .exit 2)) (
                      .seq (
                       .block 3 (
                        .seq (
                         .reg [
                           .pu ⟨some 22, .mv (.t 20), false, none⟩,
                           .pu ⟨some 9, .mv (.t 22), false, none⟩] false) (
                         .seq (
                          .reg [
                            .pu ⟨some 23, .mv (.t 8), false, none⟩,
                            .pu ⟨some 24, .mv (.t 9), false, none⟩,
                            .pu ⟨some 25, .bin .add (.t 24) (.c (.int .i64 1)), false, none⟩,
                            .pu ⟨some 26, .build [(.int .u8 0), (.int .i64 0)] [(0, 1, (.t 23)), (1, 1, (.t 25))], false, none⟩,
                            .ef ⟨none, .store 2 (.t 6) (.t 26), false, none⟩,
                            .gh (.kp 1163603)] false) (
                          .seq (
                           .reg [
                             .pu ⟨some 27, .load 2 true (.t 6), false, none⟩,
                             .pu ⟨some 28, .mv (.t 1), false, none⟩,
                             .ca ⟨some 29, .call 20 [(.t 27), (.t 28)], false, none⟩,
                             .pu ⟨some 30, .mv (.t 0), false, none⟩,
                             .pu ⟨some 31, .bin .eql (.t 29) (.t 30), false, none⟩,
                             .gh (.kp 2148647251)] false) (
                           .cond 31 (
                            .exit 0) (
                            .skip)))))) (
                       .reg [
                         .pu ⟨some 32, .bin .add (.t 20) (.c (.int .i64 1)), false, none⟩,
                         .pu ⟨some 20, .mv (.t 32), false, none⟩] false)))
def l13_0 : DCode :=
           .seq (
            .reg [
              .pu ⟨some 17, .bin .lss (.t 16) (.t 15), false, none⟩] false) (
            .seq (
             .cond 17 (
              .skip) (
              .exit 0)) (
             .seq (
              .block 1 (
               .seq (
                .reg [
                  .pu ⟨some 18, .idxA 1 (.t 14) (.t 16), false, none⟩,
                  .pu ⟨some 19, .load 1 false (.t 18), false, none⟩,
                  .pu ⟨some 8, .mv (.t 19), false, none⟩,
                  .gh (.kp 115027)] false) (
                .seq (
                 .seq (
                  .reg [
                    .pu ⟨some 20, .mv (.c (.int .i64 0)), false, none⟩] false) (
                  .block 2 (
                   .loop l13_1))) (
                 .reg [
                   .pu ⟨some 33, .build [(.int .u8 0), (.int .i64 0)] [], false, none⟩,
                   .ef ⟨none, .store 2 (.t 6) (.t 33), false, none⟩] false)))) (
              .reg [
                .pu ⟨some 34, .bin .add (.t 16) (.c (.int .i64 1)), false, none⟩,
                .pu ⟨some 16, .mv (.t 34), false, none⟩] false)))
def d13 : DCode :=
  .seq (
   .reg [
     .ef ⟨some 4, .alloc [(.int .u8 0), (.int .i64 0)], false, none⟩,
     .pu ⟨some 5, .mv (.c (.int .i64 0)), false, none⟩] false) (
   .scope (
    .seq (
     .seq (
      .reg [
        .pu ⟨some 10, .mv (.t 1), false, none⟩,
        .ca ⟨some 11, .call 19 [(.t 10)], false, none⟩,
        .pu ⟨some 12, .not (.t 11), false, none⟩,
        .gh (.kp 4115)] false) (
      .cond 12 (
       .seq (
        .reg [
          .pu ⟨some 13, .build [(.int .u8 0), (.int .i64 0)] [], false, none⟩,
          .ef ⟨none, .store 2 (.t 4) (.t 13), false, none⟩,
          .pu ⟨some 5, .mv (.c (.int .i64 11)), false, none⟩,
          .gh (.kp 48)] false) (
        .ret)) (
       .skip))) (
     .seq (
      .reg [
        .ef ⟨some 6, .alloc [(.int .u8 0), (.int .i64 0)], false, none⟩] false) (
      .seq (
       .label 0) (
       .seq (
        .seq (
         .reg [
           .ef ⟨some 14, .bldS (.int .u8) 2 [(.c (.int .u8 0)), (.c (.int .u8 1))], false, none⟩,
           .pu ⟨some 15, .len (.t 14), false, none⟩,
           .pu ⟨some 16, .mv (.c (.int .i64 0)), false, none⟩,
           .gh (.kp 114771)] false) (
         .block 0 (
          .loop l13_0))) (
        .seq (
         .seq (
          .reg [
            .pu ⟨some 35, .fldA 1 1 false (.t 6), false, none⟩,
            .pu ⟨some 36, .load 1 false (.t 35), false, none⟩,
            .pu ⟨some 37, .bin .eql (.t 36) (.c (.int .i64 0)), false, none⟩,
            .gh (.kp 137438953552)] false) (
          .cond 37 (
           .seq (
            .reg [
              .pu ⟨some 38, .build [(.int .u8 0), (.int .i64 0)] [], false, none⟩,
              .ef ⟨none, .store 2 (.t 4) (.t 38), false, none⟩,
              .pu ⟨some 5, .mv (.c (.int .i64 7)), false, none⟩,
              .gh (.kp 48)] false) (
            .ret)) (
           .skip))) (
         .seq (
          .reg [
            .pu ⟨some 39, .load 2 true (.t 6), false, none⟩,
            .ef ⟨none, .store 2 (.t 4) (.t 39), false, none⟩,
            .pu ⟨some 5, .mv (.c (.int .i64 0)), false, none⟩,
            .gh (.kp 48)] false) (
          .ret))))))))
def r13 : List DRes := [.c 4 2 true, .t 5]


end Go.Proofs.YtkiognclopmciaaDoor

namespace Go.Proofs.YtkiognclopmciaaDoor
open Go Go.RowKit Go.Am
set_option linter.unusedSimpArgs false
set_option linter.unusedVariables false
set_option maxRecDepth 20000
set_option maxHeartbeats 4000000

theorem wrap64' {i : Int} (h : -9223372036854775808 ≤ i ∧ i < 9223372036854775808) : IntKind.i64.wrap i = i := IntWalk.i64_in i (by omega)
theorem wrapU8 {i : Int} (h : 0 ≤ i ∧ i < 256) : IntKind.u8.wrap i = i := IntWalk.u8_in i (by omega)
abbrev okN (b p : Int) : Prop := b ≤ 1 ∧ 1 ≤ p ∧ p ≤ 40
abbrev okR (r : Int) : Prop := -4 ≤ r ∧ r ≤ 4
def spotN (b p r : Int) : Int := if b = 1 then 4 * (p + r) else 4 * p + 2

theorem c10 (b p : Int) : PCalls Tryd.prog 10 [.agg [.int .u8 b, .int .i64 p]] (fun d => d = .int .i64 (if okN b p then 0 else 1)) := by
  refine PCalls.go ok ck0 (c := d10) (rs := r10) Tryd.func10 rfl (by kernel_rfl) (by kernel_rfl) rfl rfl rfl ?_
  simp (config := { maxSteps := 20000000 }) only [d10, r10, go_nil, go_skip, go_reg, go_seq, go_cond, go_block, go_loop, go_exit, go_ret, go_label, go_gh, go_rfn, go_codeX, go_codeG, go_codeR, go_ops0, go_opsK, go_opsM, keepM, dropM, FB, Nat.reducePow, Nat.reduceDiv, Nat.reduceMod, go_opsG1, go_opsG2, go_opsG3, go_opsG4, go_opsG5, go_opsG6, go_opsG7, go_opsP, go_opsE, go_opsC, go_blkN, go_blkX, go_blkG, go_blkR, go_rndN, go_rndX, go_rndG, go_rndR, go_scope, go_scpN, go_scpX, go_scpG, go_scpR, endP, ↓brB_true, ↓brB_false, brB_not, brB_dec, ↓brM_true, ↓brM_false, unS_stp, unS_and, unS_False, brM_mm, brM_sm, brM_ms, brM_ss, and_goS, bif_ff, bif_tt, bif_tf, tgtD, unl, callD, nilqD, eff1, eStore, eApp, gh1, frzP, frzOne, List.map_cons, List.map_nil, wantD, dpure, ev, evs, evO, lk, putD, killT, memN, List.any_cons, List.any_nil, Bool.or_false, lkO, stO, rmO, newO, setO, renew, killO, Loc.kill, argsD, nbeqB,  ↓cond_true, ↓cond_false, Option.map_some, Option.map_none, sideP, lenD, capD, dBin, dIdx, dLoad, dPick, dFld, dFldA, dSlc, dSlcS, dToS, elB, elemsOf, asTy, unflat, DV.cellA, DV.cell, DV.cells, setAllD, partsD, boolD, eqCells, eqCell, dMm, dMmGo, subT, flat, Ty.size, Ty.isAgg, Ty.zero, Ty.D, fnQ, dress, dres1, unl, finDV, frzV, frzVs, sidesP, DV.kill, DV.killL, geN, cutO, own0, decide_true, decide_false, Nat.reduceAdd, Nat.zero_add, Nat.add_zero, beq_self_eq_true, bTF, bFT, Bool.and_self, Bool.and_true, Bool.true_and, Bool.false_eq_true, Bool.true_eq_false, if_false, if_true, Bool.and_false, Bool.false_and, Option.getD_none, Option.getD_some, List.append_nil, List.nil_append, List.cons_append, Nat.ble, Nat.blt, List.length_cons, List.length_nil, List.all_cons, List.all_nil, List.getD_cons_zero, dite_true, dite_false, eq_self, reduceCtorEq, List.getElem?_cons_zero, List.getElem?_cons_succ, Option.some.injEq, List.set_cons_zero, List.set_cons_succ, List.drop_zero, List.drop_succ_cons, List.take_succ_cons, List.take_zero, true_implies, false_implies, and_true, true_and, implies_true, Nat.reduceSub, Nat.reduceMul, Nat.reduceLeDiff, Bool.not_true, Bool.not_false, Nat.not_lt_zero, Nat.le_refl, forall_const, Nat.reduceEqDiff, Ty.int.injEq, forall_eq, Bool.and_eq_true, and_self, Nat.succ_eq_add_one, Int.reduceLE, Int.reduceLT, Int.reduceEq, Int.reduceNeg, Int.toNat_zero, Nat.zero_le, Nat.reduceLT, Int.reduceToNat, Int.zero_add, Int.sub_zero, List.replicate_zero, List.replicate, List.drop_nil, List.take_nil, Nat.reduceBEq, Bool.true_or, Bool.or_true, Bool.or_self, Bool.false_or, CO0]
  simp only [brB_eq, Bool.or_eq_false_iff, Bool.and_eq_false_imp, decide_eq_true_eq, decide_eq_false_iff_not, Bool.not_eq_true', Bool.not_eq_false', Bool.not_eq_true, Bool.and_eq_true, Bool.or_eq_true, Int.not_lt, Int.not_le, Int.toNat_natCast, DV.int.injEq, DV.bool.injEq, DV.tup.injEq, DV.sl.injEq, List.cons.injEq, heq_eq_eq, true_and, and_true, eq_self, Bool.not_true, Bool.not_false, DV.agg.injEq]
  unfold okN
  refine ⟨fun _ => ?_, fun _ => ?_⟩ <;> split <;> first | rfl | omega
def CO10 : CF := fun f args L => bif Nat.beq f 10 then (match args with
  | [.agg [.int .u8 b, .int .i64 p]] => some (none, .int .i64 (if okN b p then 0 else 1), L, [])
  | _ => none) else CO0 f args L
theorem ck10 : CFOk Tryd.prog CO10 := by
  intro f args L side d L' ks hc hs
  unfold CO10 at hc
  cases hb : Nat.beq f 10 with
  | false => rw [hb] at hc; exact ck0 f args L side d L' ks hc hs
  | true =>
    have := Nat.eq_of_beq_eq_true hb
    subst this
    simp only [hb, cond_true] at hc
    split at hc
    · simp only [Option.some.injEq, Prod.mk.injEq] at hc
      obtain ⟨rfl, rfl, rfl, rfl⟩ := hc
      exact c10 _ _ L
    · cases hc
theorem c19 (r : Int) : PCalls Tryd.prog 19 [.int .i64 r] (fun d => d = .bool (decide (okR r))) := by
  refine PCalls.go ok ck10 (c := d19) (rs := r19) Tryd.func19 rfl (by kernel_rfl) (by kernel_rfl) rfl rfl rfl ?_
  simp (config := { maxSteps := 20000000 }) only [d19, r19, go_nil, go_skip, go_reg, go_seq, go_cond, go_block, go_loop, go_exit, go_ret, go_label, go_gh, go_rfn, go_codeX, go_codeG, go_codeR, go_ops0, go_opsK, go_opsM, keepM, dropM, FB, Nat.reducePow, Nat.reduceDiv, Nat.reduceMod, go_opsG1, go_opsG2, go_opsG3, go_opsG4, go_opsG5, go_opsG6, go_opsG7, go_opsP, go_opsE, go_opsC, go_blkN, go_blkX, go_blkG, go_blkR, go_rndN, go_rndX, go_rndG, go_rndR, go_scope, go_scpN, go_scpX, go_scpG, go_scpR, endP, ↓brB_true, ↓brB_false, brB_not, brB_dec, ↓brM_true, ↓brM_false, unS_stp, unS_and, unS_False, brM_mm, brM_sm, brM_ms, brM_ss, and_goS, bif_ff, bif_tt, bif_tf, tgtD, unl, callD, nilqD, eff1, eStore, eApp, gh1, frzP, frzOne, List.map_cons, List.map_nil, wantD, dpure, ev, evs, evO, lk, putD, killT, memN, List.any_cons, List.any_nil, Bool.or_false, lkO, stO, rmO, newO, setO, renew, killO, Loc.kill, argsD, nbeqB,  ↓cond_true, ↓cond_false, Option.map_some, Option.map_none, sideP, lenD, capD, dBin, dIdx, dLoad, dPick, dFld, dFldA, dSlc, dSlcS, dToS, elB, elemsOf, asTy, unflat, DV.cellA, DV.cell, DV.cells, setAllD, partsD, boolD, eqCells, eqCell, dMm, dMmGo, subT, flat, Ty.size, Ty.isAgg, Ty.zero, Ty.D, fnQ, dress, dres1, unl, finDV, frzV, frzVs, sidesP, DV.kill, DV.killL, geN, cutO, own0, decide_true, decide_false, Nat.reduceAdd, Nat.zero_add, Nat.add_zero, beq_self_eq_true, bTF, bFT, Bool.and_self, Bool.and_true, Bool.true_and, Bool.false_eq_true, Bool.true_eq_false, if_false, if_true, Bool.and_false, Bool.false_and, Option.getD_none, Option.getD_some, List.append_nil, List.nil_append, List.cons_append, Nat.ble, Nat.blt, List.length_cons, List.length_nil, List.all_cons, List.all_nil, List.getD_cons_zero, dite_true, dite_false, eq_self, reduceCtorEq, List.getElem?_cons_zero, List.getElem?_cons_succ, Option.some.injEq, List.set_cons_zero, List.set_cons_succ, List.drop_zero, List.drop_succ_cons, List.take_succ_cons, List.take_zero, true_implies, false_implies, and_true, true_and, implies_true, Nat.reduceSub, Nat.reduceMul, Nat.reduceLeDiff, Bool.not_true, Bool.not_false, Nat.not_lt_zero, Nat.le_refl, forall_const, Nat.reduceEqDiff, Ty.int.injEq, forall_eq, Bool.and_eq_true, and_self, Nat.succ_eq_add_one, Int.reduceLE, Int.reduceLT, Int.reduceEq, Int.reduceNeg, Int.toNat_zero, Nat.zero_le, Nat.reduceLT, Int.reduceToNat, Int.zero_add, Int.sub_zero, List.replicate_zero, List.replicate, List.drop_nil, List.take_nil, Nat.reduceBEq, Bool.true_or, Bool.or_true, Bool.or_self, Bool.false_or, CO10, CO0]
  simp only [brB_eq, Bool.or_eq_false_iff, Bool.and_eq_false_imp, decide_eq_true_eq, decide_eq_false_iff_not, Bool.not_eq_true', Bool.not_eq_false', Bool.not_eq_true, Bool.and_eq_true, Bool.or_eq_true, Int.not_lt, Int.not_le, Int.toNat_natCast, DV.int.injEq, DV.bool.injEq, DV.tup.injEq, DV.sl.injEq, List.cons.injEq, heq_eq_eq, true_and, and_true, eq_self, Bool.not_true, Bool.not_false, DV.agg.injEq, and_true]
  unfold okR
  simp
def CO19 : CF := fun f args L => bif Nat.beq f 19 then (match args with
  | [.int .i64 r] => some (none, .bool (decide (okR r)), L, [])
  | _ => none) else CO10 f args L
theorem ck19 : CFOk Tryd.prog CO19 := by
  intro f args L side d L' ks hc hs
  unfold CO19 at hc
  cases hb : Nat.beq f 19 with
  | false => rw [hb] at hc; exact ck10 f args L side d L' ks hc hs
  | true =>
    have := Nat.eq_of_beq_eq_true hb
    subst this
    simp only [hb, cond_true] at hc
    split at hc
    · simp only [Option.some.injEq, Prod.mk.injEq] at hc
      obtain ⟨rfl, rfl, rfl, rfl⟩ := hc
      exact c19 _ L
    · cases hc
theorem c20 (b p r : Int) (hp : (-1000 ≤ p ∧ p ≤ 1000) ∧ (-1000 ≤ r ∧ r ≤ 1000)) : PCalls Tryd.prog 20 [.agg [.int .u8 b, .int .i64 p], .int .i64 r] (fun d => d = .int .i64 (spotN b p r)) := by
  refine PCalls.go ok ck19 (c := d20) (rs := r20) Tryd.func20 rfl (by kernel_rfl) (by kernel_rfl) rfl rfl rfl ?_
  simp (config := { maxSteps := 20000000 }) only [d20, r20, go_nil, go_skip, go_reg, go_seq, go_cond, go_block, go_loop, go_exit, go_ret, go_label, go_gh, go_rfn, go_codeX, go_codeG, go_codeR, go_ops0, go_opsK, go_opsM, keepM, dropM, FB, Nat.reducePow, Nat.reduceDiv, Nat.reduceMod, go_opsG1, go_opsG2, go_opsG3, go_opsG4, go_opsG5, go_opsG6, go_opsG7, go_opsP, go_opsE, go_opsC, go_blkN, go_blkX, go_blkG, go_blkR, go_rndN, go_rndX, go_rndG, go_rndR, go_scope, go_scpN, go_scpX, go_scpG, go_scpR, endP, ↓brB_true, ↓brB_false, brB_not, brB_dec, ↓brM_true, ↓brM_false, unS_stp, unS_and, unS_False, brM_mm, brM_sm, brM_ms, brM_ss, and_goS, bif_ff, bif_tt, bif_tf, tgtD, unl, callD, nilqD, eff1, eStore, eApp, gh1, frzP, frzOne, List.map_cons, List.map_nil, wantD, dpure, ev, evs, evO, lk, putD, killT, memN, List.any_cons, List.any_nil, Bool.or_false, lkO, stO, rmO, newO, setO, renew, killO, Loc.kill, argsD, nbeqB,  ↓cond_true, ↓cond_false, Option.map_some, Option.map_none, sideP, lenD, capD, dBin, dIdx, dLoad, dPick, dFld, dFldA, dSlc, dSlcS, dToS, elB, elemsOf, asTy, unflat, DV.cellA, DV.cell, DV.cells, setAllD, partsD, boolD, eqCells, eqCell, dMm, dMmGo, subT, flat, Ty.size, Ty.isAgg, Ty.zero, Ty.D, fnQ, dress, dres1, unl, finDV, frzV, frzVs, sidesP, DV.kill, DV.killL, geN, cutO, own0, decide_true, decide_false, Nat.reduceAdd, Nat.zero_add, Nat.add_zero, beq_self_eq_true, bTF, bFT, Bool.and_self, Bool.and_true, Bool.true_and, Bool.false_eq_true, Bool.true_eq_false, if_false, if_true, Bool.and_false, Bool.false_and, Option.getD_none, Option.getD_some, List.append_nil, List.nil_append, List.cons_append, Nat.ble, Nat.blt, List.length_cons, List.length_nil, List.all_cons, List.all_nil, List.getD_cons_zero, dite_true, dite_false, eq_self, reduceCtorEq, List.getElem?_cons_zero, List.getElem?_cons_succ, Option.some.injEq, List.set_cons_zero, List.set_cons_succ, List.drop_zero, List.drop_succ_cons, List.take_succ_cons, List.take_zero, true_implies, false_implies, and_true, true_and, implies_true, Nat.reduceSub, Nat.reduceMul, Nat.reduceLeDiff, Bool.not_true, Bool.not_false, Nat.not_lt_zero, Nat.le_refl, forall_const, Nat.reduceEqDiff, Ty.int.injEq, forall_eq, Bool.and_eq_true, and_self, Nat.succ_eq_add_one, Int.reduceLE, Int.reduceLT, Int.reduceEq, Int.reduceNeg, Int.toNat_zero, Nat.zero_le, Nat.reduceLT, Int.reduceToNat, Int.zero_add, Int.sub_zero, List.replicate_zero, List.replicate, List.drop_nil, List.take_nil, Nat.reduceBEq, Bool.true_or, Bool.or_true, Bool.or_self, Bool.false_or, CO19, CO0, CO10]
  simp only [brB_eq, Bool.or_eq_false_iff, Bool.and_eq_false_imp, decide_eq_true_eq, decide_eq_false_iff_not, Bool.not_eq_true', Bool.not_eq_false', Bool.not_eq_true, Bool.and_eq_true, Bool.or_eq_true, Int.not_lt, Int.not_le, Int.toNat_natCast, DV.int.injEq, DV.bool.injEq, DV.tup.injEq, DV.sl.injEq, List.cons.injEq, heq_eq_eq, true_and, and_true, eq_self, Bool.not_true, Bool.not_false, DV.agg.injEq]
  unfold spotN
  refine ⟨fun _ => ?_, fun _ => ?_⟩
  · rw [if_pos (by assumption), wrap64' (i := p + r) (by omega), wrap64' (by omega)]
  · rw [if_neg (by assumption), wrap64' (i := 4 * p) (by omega), wrap64' (by omega)]
def CO20 : CF := fun f args L => bif Nat.beq f 20 then (match args with
  | [.agg [.int .u8 b, .int .i64 p], .int .i64 r] => some (some ((-1000 ≤ p ∧ p ≤ 1000) ∧ (-1000 ≤ r ∧ r ≤ 1000)), .int .i64 (spotN b p r), L, [])
  | _ => none) else CO19 f args L
theorem ck20 : CFOk Tryd.prog CO20 := by
  intro f args L side d L' ks hc hs
  unfold CO20 at hc
  cases hb : Nat.beq f 20 with
  | false => rw [hb] at hc; exact ck19 f args L side d L' ks hc hs
  | true =>
    have := Nat.eq_of_beq_eq_true hb
    subst this
    simp only [hb, cond_true] at hc
    split at hc
    · simp only [Option.some.injEq, Prod.mk.injEq] at hc
      obtain ⟨rfl, rfl, rfl, rfl⟩ := hc
      exact c20 _ _ _ (hs _ rfl) L
    · cases hc
theorem c11 (b p r : Int) : PCalls Tryd.prog 11 [.agg [.int .u8 b, .int .i64 p], .int .i64 r] (fun d => d = .int .i64 (if okN b p ∧ okR r then spotN b p r else 0)) := by
  refine PCalls.go ok ck20 (c := d11) (rs := r11) Tryd.func11 rfl (by kernel_rfl) (by kernel_rfl) rfl rfl rfl ?_
  simp (config := { maxSteps := 20000000 }) only [d11, r11, go_nil, go_skip, go_reg, go_seq, go_cond, go_block, go_loop, go_exit, go_ret, go_label, go_gh, go_rfn, go_codeX, go_codeG, go_codeR, go_ops0, go_opsK, go_opsM, keepM, dropM, FB, Nat.reducePow, Nat.reduceDiv, Nat.reduceMod, go_opsG1, go_opsG2, go_opsG3, go_opsG4, go_opsG5, go_opsG6, go_opsG7, go_opsP, go_opsE, go_opsC, go_blkN, go_blkX, go_blkG, go_blkR, go_rndN, go_rndX, go_rndG, go_rndR, go_scope, go_scpN, go_scpX, go_scpG, go_scpR, endP, ↓brB_true, ↓brB_false, brB_not, brB_dec, ↓brM_true, ↓brM_false, unS_stp, unS_and, unS_False, brM_mm, brM_sm, brM_ms, brM_ss, and_goS, bif_ff, bif_tt, bif_tf, tgtD, unl, callD, nilqD, eff1, eStore, eApp, gh1, frzP, frzOne, List.map_cons, List.map_nil, wantD, dpure, ev, evs, evO, lk, putD, killT, memN, List.any_cons, List.any_nil, Bool.or_false, lkO, stO, rmO, newO, setO, renew, killO, Loc.kill, argsD, nbeqB,  ↓cond_true, ↓cond_false, Option.map_some, Option.map_none, sideP, lenD, capD, dBin, dIdx, dLoad, dPick, dFld, dFldA, dSlc, dSlcS, dToS, elB, elemsOf, asTy, unflat, DV.cellA, DV.cell, DV.cells, setAllD, partsD, boolD, eqCells, eqCell, dMm, dMmGo, subT, flat, Ty.size, Ty.isAgg, Ty.zero, Ty.D, fnQ, dress, dres1, unl, finDV, frzV, frzVs, sidesP, DV.kill, DV.killL, geN, cutO, own0, decide_true, decide_false, Nat.reduceAdd, Nat.zero_add, Nat.add_zero, beq_self_eq_true, bTF, bFT, Bool.and_self, Bool.and_true, Bool.true_and, Bool.false_eq_true, Bool.true_eq_false, if_false, if_true, Bool.and_false, Bool.false_and, Option.getD_none, Option.getD_some, List.append_nil, List.nil_append, List.cons_append, Nat.ble, Nat.blt, List.length_cons, List.length_nil, List.all_cons, List.all_nil, List.getD_cons_zero, dite_true, dite_false, eq_self, reduceCtorEq, List.getElem?_cons_zero, List.getElem?_cons_succ, Option.some.injEq, List.set_cons_zero, List.set_cons_succ, List.drop_zero, List.drop_succ_cons, List.take_succ_cons, List.take_zero, true_implies, false_implies, and_true, true_and, implies_true, Nat.reduceSub, Nat.reduceMul, Nat.reduceLeDiff, Bool.not_true, Bool.not_false, Nat.not_lt_zero, Nat.le_refl, forall_const, Nat.reduceEqDiff, Ty.int.injEq, forall_eq, Bool.and_eq_true, and_self, Nat.succ_eq_add_one, Int.reduceLE, Int.reduceLT, Int.reduceEq, Int.reduceNeg, Int.toNat_zero, Nat.zero_le, Nat.reduceLT, Int.reduceToNat, Int.zero_add, Int.sub_zero, List.replicate_zero, List.replicate, List.drop_nil, List.take_nil, Nat.reduceBEq, Bool.true_or, Bool.or_true, Bool.or_self, Bool.false_or, CO20, CO0, CO10, CO19]
  simp only [brB_eq, Bool.or_eq_false_iff, Bool.and_eq_false_imp, decide_eq_true_eq, decide_eq_false_iff_not, Bool.not_eq_true', Bool.not_eq_false', Bool.not_eq_true, Bool.and_eq_true, Bool.or_eq_true, Int.not_lt, Int.not_le, Int.toNat_natCast, DV.int.injEq, DV.bool.injEq, DV.tup.injEq, DV.sl.injEq, List.cons.injEq, heq_eq_eq, true_and, and_true, eq_self, Bool.not_true, Bool.not_false, DV.agg.injEq]
  by_cases h1 : okN b p <;> by_cases h2 : okR r <;> simp [h1, h2] <;> (unfold okN okR at *; omega)
def CO11 : CF := fun f args L => bif Nat.beq f 11 then (match args with
  | [.agg [.int .u8 b, .int .i64 p], .int .i64 r] => some (none, .int .i64 (if okN b p ∧ okR r then spotN b p r else 0), L, [])
  | _ => none) else CO20 f args L
theorem ck11 : CFOk Tryd.prog CO11 := by
  intro f args L side d L' ks hc hs
  unfold CO11 at hc
  cases hb : Nat.beq f 11 with
  | false => rw [hb] at hc; exact ck20 f args L side d L' ks hc hs
  | true =>
    have := Nat.eq_of_beq_eq_true hb
    subst this
    simp only [hb, cond_true] at hc
    split at hc
    · simp only [Option.some.injEq, Prod.mk.injEq] at hc
      obtain ⟨rfl, rfl, rfl, rfl⟩ := hc
      exact c11 _ _ _ L
    · cases hc
theorem c9 (b p : Int) : PCalls Tryd.prog 9 [.agg [.int .u8 b, .int .i64 p]] (fun d => d = .int .i64 (if okN b p then 1 else 0)) := by
  refine PCalls.go ok ck11 (c := d9) (rs := r9) Tryd.func9 rfl (by kernel_rfl) (by kernel_rfl) rfl rfl rfl ?_
  simp (config := { maxSteps := 20000000 }) only [d9, r9, go_nil, go_skip, go_reg, go_seq, go_cond, go_block, go_loop, go_exit, go_ret, go_label, go_gh, go_rfn, go_codeX, go_codeG, go_codeR, go_ops0, go_opsK, go_opsM, keepM, dropM, FB, Nat.reducePow, Nat.reduceDiv, Nat.reduceMod, go_opsG1, go_opsG2, go_opsG3, go_opsG4, go_opsG5, go_opsG6, go_opsG7, go_opsP, go_opsE, go_opsC, go_blkN, go_blkX, go_blkG, go_blkR, go_rndN, go_rndX, go_rndG, go_rndR, go_scope, go_scpN, go_scpX, go_scpG, go_scpR, endP, ↓brB_true, ↓brB_false, brB_not, brB_dec, ↓brM_true, ↓brM_false, unS_stp, unS_and, unS_False, brM_mm, brM_sm, brM_ms, brM_ss, and_goS, bif_ff, bif_tt, bif_tf, tgtD, unl, callD, nilqD, eff1, eStore, eApp, gh1, frzP, frzOne, List.map_cons, List.map_nil, wantD, dpure, ev, evs, evO, lk, putD, killT, memN, List.any_cons, List.any_nil, Bool.or_false, lkO, stO, rmO, newO, setO, renew, killO, Loc.kill, argsD, nbeqB,  ↓cond_true, ↓cond_false, Option.map_some, Option.map_none, sideP, lenD, capD, dBin, dIdx, dLoad, dPick, dFld, dFldA, dSlc, dSlcS, dToS, elB, elemsOf, asTy, unflat, DV.cellA, DV.cell, DV.cells, setAllD, partsD, boolD, eqCells, eqCell, dMm, dMmGo, subT, flat, Ty.size, Ty.isAgg, Ty.zero, Ty.D, fnQ, dress, dres1, unl, finDV, frzV, frzVs, sidesP, DV.kill, DV.killL, geN, cutO, own0, decide_true, decide_false, Nat.reduceAdd, Nat.zero_add, Nat.add_zero, beq_self_eq_true, bTF, bFT, Bool.and_self, Bool.and_true, Bool.true_and, Bool.false_eq_true, Bool.true_eq_false, if_false, if_true, Bool.and_false, Bool.false_and, Option.getD_none, Option.getD_some, List.append_nil, List.nil_append, List.cons_append, Nat.ble, Nat.blt, List.length_cons, List.length_nil, List.all_cons, List.all_nil, List.getD_cons_zero, dite_true, dite_false, eq_self, reduceCtorEq, List.getElem?_cons_zero, List.getElem?_cons_succ, Option.some.injEq, List.set_cons_zero, List.set_cons_succ, List.drop_zero, List.drop_succ_cons, List.take_succ_cons, List.take_zero, true_implies, false_implies, and_true, true_and, implies_true, Nat.reduceSub, Nat.reduceMul, Nat.reduceLeDiff, Bool.not_true, Bool.not_false, Nat.not_lt_zero, Nat.le_refl, forall_const, Nat.reduceEqDiff, Ty.int.injEq, forall_eq, Bool.and_eq_true, and_self, Nat.succ_eq_add_one, Int.reduceLE, Int.reduceLT, Int.reduceEq, Int.reduceNeg, Int.toNat_zero, Nat.zero_le, Nat.reduceLT, Int.reduceToNat, Int.zero_add, Int.sub_zero, List.replicate_zero, List.replicate, List.drop_nil, List.take_nil, Nat.reduceBEq, Bool.true_or, Bool.or_true, Bool.or_self, Bool.false_or, CO11, CO0, CO10, CO19, CO20]
  simp only [brB_eq, Bool.or_eq_false_iff, Bool.and_eq_false_imp, decide_eq_true_eq, decide_eq_false_iff_not, Bool.not_eq_true', Bool.not_eq_false', Bool.not_eq_true, Bool.and_eq_true, Bool.or_eq_true, Int.not_lt, Int.not_le, Int.toNat_natCast, DV.int.injEq, DV.bool.injEq, DV.tup.injEq, DV.sl.injEq, List.cons.injEq, heq_eq_eq, true_and, and_true, eq_self, Bool.not_true, Bool.not_false, DV.agg.injEq]
  unfold okN
  refine ⟨fun _ => ?_, fun _ => ?_⟩ <;> split <;> first | rfl | omega
def CO9 : CF := fun f args L => bif Nat.beq f 9 then (match args with
  | [.agg [.int .u8 b, .int .i64 p]] => some (none, .int .i64 (if okN b p then 1 else 0), L, [])
  | _ => none) else CO11 f args L
theorem ck9 : CFOk Tryd.prog CO9 := by
  intro f args L side d L' ks hc hs
  unfold CO9 at hc
  cases hb : Nat.beq f 9 with
  | false => rw [hb] at hc; exact ck11 f args L side d L' ks hc hs
  | true =>
    have := Nat.eq_of_beq_eq_true hb
    subst this
    simp only [hb, cond_true] at hc
    split at hc
    · simp only [Option.some.injEq, Prod.mk.injEq] at hc
      obtain ⟨rfl, rfl, rfl, rfl⟩ := hc
      exact c9 _ _ L
    · cases hc
theorem c14 (b p r : Int) (hp : (-1000 ≤ p ∧ p ≤ 1000) ∧ (-1000 ≤ r ∧ r ≤ 1000)) : PCalls Tryd.prog 14 [.agg [.int .u8 b, .int .i64 p], .int .i64 r] (fun d => d = .int .i64 (spotN b p r)) := by
  refine PCalls.go ok ck9 (c := d14) (rs := r14) Tryd.func14 rfl (by kernel_rfl) (by kernel_rfl) rfl rfl rfl ?_
  simp (config := { maxSteps := 20000000 }) only [d14, r14, go_nil, go_skip, go_reg, go_seq, go_cond, go_block, go_loop, go_exit, go_ret, go_label, go_gh, go_rfn, go_codeX, go_codeG, go_codeR, go_ops0, go_opsK, go_opsM, keepM, dropM, FB, Nat.reducePow, Nat.reduceDiv, Nat.reduceMod, go_opsG1, go_opsG2, go_opsG3, go_opsG4, go_opsG5, go_opsG6, go_opsG7, go_opsP, go_opsE, go_opsC, go_blkN, go_blkX, go_blkG, go_blkR, go_rndN, go_rndX, go_rndG, go_rndR, go_scope, go_scpN, go_scpX, go_scpG, go_scpR, endP, ↓brB_true, ↓brB_false, brB_not, brB_dec, ↓brM_true, ↓brM_false, unS_stp, unS_and, unS_False, brM_mm, brM_sm, brM_ms, brM_ss, and_goS, bif_ff, bif_tt, bif_tf, tgtD, unl, callD, nilqD, eff1, eStore, eApp, gh1, frzP, frzOne, List.map_cons, List.map_nil, wantD, dpure, ev, evs, evO, lk, putD, killT, memN, List.any_cons, List.any_nil, Bool.or_false, lkO, stO, rmO, newO, setO, renew, killO, Loc.kill, argsD, nbeqB,  ↓cond_true, ↓cond_false, Option.map_some, Option.map_none, sideP, lenD, capD, dBin, dIdx, dLoad, dPick, dFld, dFldA, dSlc, dSlcS, dToS, elB, elemsOf, asTy, unflat, DV.cellA, DV.cell, DV.cells, setAllD, partsD, boolD, eqCells, eqCell, dMm, dMmGo, subT, flat, Ty.size, Ty.isAgg, Ty.zero, Ty.D, fnQ, dress, dres1, unl, finDV, frzV, frzVs, sidesP, DV.kill, DV.killL, geN, cutO, own0, decide_true, decide_false, Nat.reduceAdd, Nat.zero_add, Nat.add_zero, beq_self_eq_true, bTF, bFT, Bool.and_self, Bool.and_true, Bool.true_and, Bool.false_eq_true, Bool.true_eq_false, if_false, if_true, Bool.and_false, Bool.false_and, Option.getD_none, Option.getD_some, List.append_nil, List.nil_append, List.cons_append, Nat.ble, Nat.blt, List.length_cons, List.length_nil, List.all_cons, List.all_nil, List.getD_cons_zero, dite_true, dite_false, eq_self, reduceCtorEq, List.getElem?_cons_zero, List.getElem?_cons_succ, Option.some.injEq, List.set_cons_zero, List.set_cons_succ, List.drop_zero, List.drop_succ_cons, List.take_succ_cons, List.take_zero, true_implies, false_implies, and_true, true_and, implies_true, Nat.reduceSub, Nat.reduceMul, Nat.reduceLeDiff, Bool.not_true, Bool.not_false, Nat.not_lt_zero, Nat.le_refl, forall_const, Nat.reduceEqDiff, Ty.int.injEq, forall_eq, Bool.and_eq_true, and_self, Nat.succ_eq_add_one, Int.reduceLE, Int.reduceLT, Int.reduceEq, Int.reduceNeg, Int.toNat_zero, Nat.zero_le, Nat.reduceLT, Int.reduceToNat, Int.zero_add, Int.sub_zero, List.replicate_zero, List.replicate, List.drop_nil, List.take_nil, Nat.reduceBEq, Bool.true_or, Bool.or_true, Bool.or_self, Bool.false_or, CO9, CO0, CO10, CO19, CO20, CO11]
  simp only [brB_eq, Bool.or_eq_false_iff, Bool.and_eq_false_imp, decide_eq_true_eq, decide_eq_false_iff_not, Bool.not_eq_true', Bool.not_eq_false', Bool.not_eq_true, Bool.and_eq_true, Bool.or_eq_true, Int.not_lt, Int.not_le, Int.toNat_natCast, DV.int.injEq, DV.bool.injEq, DV.tup.injEq, DV.sl.injEq, List.cons.injEq, heq_eq_eq, true_and, and_true, eq_self, Bool.not_true, Bool.not_false, DV.agg.injEq]
  unfold spotN
  refine ⟨fun _ => ?_, fun _ => ?_⟩
  · rw [if_pos (by assumption), wrap64' (i := 4 * p) (by omega), wrap64' (i := 4 * r) (by omega), wrap64' (by omega)]; omega
  · rw [if_neg (by assumption), wrap64' (i := 4 * p) (by omega), wrap64' (by omega)]
def CO14 : CF := fun f args L => bif Nat.beq f 14 then (match args with
  | [.agg [.int .u8 b, .int .i64 p], .int .i64 r] => some (some ((-1000 ≤ p ∧ p ≤ 1000) ∧ (-1000 ≤ r ∧ r ≤ 1000)), .int .i64 (spotN b p r), L, [])
  | _ => none) else CO9 f args L
theorem ck14 : CFOk Tryd.prog CO14 := by
  intro f args L side d L' ks hc hs
  unfold CO14 at hc
  cases hb : Nat.beq f 14 with
  | false => rw [hb] at hc; exact ck9 f args L side d L' ks hc hs
  | true =>
    have := Nat.eq_of_beq_eq_true hb
    subst this
    simp only [hb, cond_true] at hc
    split at hc
    · simp only [Option.some.injEq, Prod.mk.injEq] at hc
      obtain ⟨rfl, rfl, rfl, rfl⟩ := hc
      exact c14 _ _ _ (hs _ rfl) L
    · cases hc
theorem c15 (i : Int) (hp : 0 ≤ i ∧ i < 256) : PCalls Tryd.prog 15 [.int .u8 i] (fun d => d = .agg [.int .u8 (i % 80 / 40), .int .i64 (1 + i % 40)]) := by
  refine PCalls.go ok ck14 (c := d15) (rs := r15) Tryd.func15 rfl (by kernel_rfl) (by kernel_rfl) rfl rfl rfl ?_
  simp (config := { maxSteps := 20000000 }) only [d15, r15, go_nil, go_skip, go_reg, go_seq, go_cond, go_block, go_loop, go_exit, go_ret, go_label, go_gh, go_rfn, go_codeX, go_codeG, go_codeR, go_ops0, go_opsK, go_opsM, keepM, dropM, FB, Nat.reducePow, Nat.reduceDiv, Nat.reduceMod, go_opsG1, go_opsG2, go_opsG3, go_opsG4, go_opsG5, go_opsG6, go_opsG7, go_opsP, go_opsE, go_opsC, go_blkN, go_blkX, go_blkG, go_blkR, go_rndN, go_rndX, go_rndG, go_rndR, go_scope, go_scpN, go_scpX, go_scpG, go_scpR, endP, ↓brB_true, ↓brB_false, brB_not, brB_dec, ↓brM_true, ↓brM_false, unS_stp, unS_and, unS_False, brM_mm, brM_sm, brM_ms, brM_ss, and_goS, bif_ff, bif_tt, bif_tf, tgtD, unl, callD, nilqD, eff1, eStore, eApp, gh1, frzP, frzOne, List.map_cons, List.map_nil, wantD, dpure, ev, evs, evO, lk, putD, killT, memN, List.any_cons, List.any_nil, Bool.or_false, lkO, stO, rmO, newO, setO, renew, killO, Loc.kill, argsD, nbeqB,  ↓cond_true, ↓cond_false, Option.map_some, Option.map_none, sideP, lenD, capD, dBin, dIdx, dLoad, dPick, dFld, dFldA, dSlc, dSlcS, dToS, elB, elemsOf, asTy, unflat, DV.cellA, DV.cell, DV.cells, setAllD, partsD, boolD, eqCells, eqCell, dMm, dMmGo, subT, flat, Ty.size, Ty.isAgg, Ty.zero, Ty.D, fnQ, dress, dres1, unl, finDV, frzV, frzVs, sidesP, DV.kill, DV.killL, geN, cutO, own0, decide_true, decide_false, Nat.reduceAdd, Nat.zero_add, Nat.add_zero, beq_self_eq_true, bTF, bFT, Bool.and_self, Bool.and_true, Bool.true_and, Bool.false_eq_true, Bool.true_eq_false, if_false, if_true, Bool.and_false, Bool.false_and, Option.getD_none, Option.getD_some, List.append_nil, List.nil_append, List.cons_append, Nat.ble, Nat.blt, List.length_cons, List.length_nil, List.all_cons, List.all_nil, List.getD_cons_zero, dite_true, dite_false, eq_self, reduceCtorEq, List.getElem?_cons_zero, List.getElem?_cons_succ, Option.some.injEq, List.set_cons_zero, List.set_cons_succ, List.drop_zero, List.drop_succ_cons, List.take_succ_cons, List.take_zero, true_implies, false_implies, and_true, true_and, implies_true, Nat.reduceSub, Nat.reduceMul, Nat.reduceLeDiff, Bool.not_true, Bool.not_false, Nat.not_lt_zero, Nat.le_refl, forall_const, Nat.reduceEqDiff, Ty.int.injEq, forall_eq, Bool.and_eq_true, and_self, Nat.succ_eq_add_one, Int.reduceLE, Int.reduceLT, Int.reduceEq, Int.reduceNeg, Int.toNat_zero, Nat.zero_le, Nat.reduceLT, Int.reduceToNat, Int.zero_add, Int.sub_zero, List.replicate_zero, List.replicate, List.drop_nil, List.take_nil, Nat.reduceBEq, Bool.true_or, Bool.or_true, Bool.or_self, Bool.false_or, CO14, CO0, CO10, CO19, CO20, CO11, CO9]
  simp only [brB_eq, Bool.or_eq_false_iff, Bool.and_eq_false_imp, decide_eq_true_eq, decide_eq_false_iff_not, Bool.not_eq_true', Bool.not_eq_false', Bool.not_eq_true, Bool.and_eq_true, Bool.or_eq_true, Int.not_lt, Int.not_le, Int.toNat_natCast, DV.int.injEq, DV.bool.injEq, DV.tup.injEq, DV.sl.injEq, List.cons.injEq, heq_eq_eq, true_and, and_true, eq_self, Bool.not_true, Bool.not_false, DV.agg.injEq]
  refine ⟨by omega, by omega, by omega, ?_⟩
  have e1 : i.tmod 80 = i % 80 := Int.tmod_eq_emod_of_nonneg hp.1
  have e2 : i.tmod 40 = i % 40 := Int.tmod_eq_emod_of_nonneg hp.1
  have e3 : (i % 80).tdiv 40 = i % 80 / 40 := Int.tdiv_eq_ediv_of_nonneg (by omega)
  rw [e1, e2, e3, wrapU8 (by omega), wrap64' (i := i % 40) (by omega), wrap64' (by omega)]; exact ⟨rfl, rfl⟩
def CO15 : CF := fun f args L => bif Nat.beq f 15 then (match args with
  | [.int .u8 i] => some (some (0 ≤ i ∧ i < 256), .agg [.int .u8 (i % 80 / 40), .int .i64 (1 + i % 40)], L, [])
  | _ => none) else CO14 f args L
theorem ck15 : CFOk Tryd.prog CO15 := by
  intro f args L side d L' ks hc hs
  unfold CO15 at hc
  cases hb : Nat.beq f 15 with
  | false => rw [hb] at hc; exact ck14 f args L side d L' ks hc hs
  | true =>
    have := Nat.eq_of_beq_eq_true hb
    subst this
    simp only [hb, cond_true] at hc
    split at hc
    · simp only [Option.some.injEq, Prod.mk.injEq] at hc
      obtain ⟨rfl, rfl, rfl, rfl⟩ := hc
      exact c15 _ (hs _ rfl) L
    · cases hc
end Go.Proofs.YtkiognclopmciaaDoor

namespace Go.Proofs.YtkiognclopmciaaDoor
open Go Go.RowKit Go.Am
set_option linter.unusedSimpArgs false
set_option linter.unusedVariables false
set_option maxRecDepth 20000
set_option maxHeartbeats 4000000

/-- The needle with a spot: its bed, its place, and the error. -/
def atB (a r : Int) : Int := if okR r ∧ ¬ (a % 4 = 2 ∧ 6 ≤ a ∧ a ≤ 162) ∧ a % 4 = 0 ∧ 1 ≤ a / 4 - r ∧ a / 4 - r ≤ 40 then 1 else 0
def atP (a r : Int) : Int := if okR r then (if a % 4 = 2 ∧ 6 ≤ a ∧ a ≤ 162 then a / 4 else if a % 4 = 0 ∧ 1 ≤ a / 4 - r ∧ a / 4 - r ≤ 40 then a / 4 - r else 0) else 0
def atE (a r : Int) : Int := if okR r then (if a % 4 = 2 ∧ 6 ≤ a ∧ a ≤ 162 then 0 else if a % 4 = 0 ∧ 1 ≤ a / 4 - r ∧ a / 4 - r ≤ 40 then 0 else 7) else 11

theorem c13 (a r : Int) : PCalls Tryd.prog 13 [.int .i64 a, .int .i64 r] (fun d => d = .tup [.agg [.int .u8 (atB a r), .int .i64 (atP a r)], .int .i64 (atE a r)]) := by
  refine PCalls.go ok ck15 (c := d13) (rs := r13) Tryd.func13 rfl (by kernel_rfl) (by kernel_rfl) rfl rfl rfl ?_
  simp (config := { maxSteps := 20000000 }) only [d13, r13, go_nil, go_skip, go_reg, go_seq, go_cond, go_block, go_loop, go_exit, go_ret, go_label, go_gh, go_rfn, go_codeX, go_codeG, go_codeR, go_ops0, go_opsK, go_opsM, keepM, dropM, FB, Nat.reducePow, Nat.reduceDiv, Nat.reduceMod, go_opsG1, go_opsG2, go_opsG3, go_opsG4, go_opsG5, go_opsG6, go_opsG7, go_opsP, go_opsE, go_opsC, go_blkN, go_blkX, go_blkG, go_blkR, go_rndN, go_rndX, go_rndG, go_rndR, go_scope, go_scpN, go_scpX, go_scpG, go_scpR, endP, ↓brB_true, ↓brB_false, brB_not, brB_dec, ↓brM_true, ↓brM_false, unS_stp, unS_and, unS_False, brM_mm, brM_sm, brM_ms, brM_ss, and_goS, bif_ff, bif_tt, bif_tf, tgtD, unl, callD, nilqD, eff1, eStore, eApp, gh1, frzP, frzOne, List.map_cons, List.map_nil, wantD, dpure, ev, evs, evO, lk, putD, killT, memN, List.any_cons, List.any_nil, Bool.or_false, lkO, stO, rmO, newO, setO, renew, killO, Loc.kill, argsD, nbeqB,  ↓cond_true, ↓cond_false, Option.map_some, Option.map_none, sideP, lenD, capD, dBin, dIdx, dLoad, dPick, dFld, dFldA, dSlc, dSlcS, dToS, elB, elemsOf, asTy, unflat, DV.cellA, DV.cell, DV.cells, setAllD, partsD, boolD, eqCells, eqCell, dMm, dMmGo, subT, flat, Ty.size, Ty.isAgg, Ty.zero, Ty.D, fnQ, dress, dres1, unl, finDV, frzV, frzVs, sidesP, DV.kill, DV.killL, geN, cutO, own0, decide_true, decide_false, Nat.reduceAdd, Nat.zero_add, Nat.add_zero, beq_self_eq_true, bTF, bFT, Bool.and_self, Bool.and_true, Bool.true_and, Bool.false_eq_true, Bool.true_eq_false, if_false, if_true, Bool.and_false, Bool.false_and, Option.getD_none, Option.getD_some, List.append_nil, List.nil_append, List.cons_append, Nat.ble, Nat.blt, List.length_cons, List.length_nil, List.all_cons, List.all_nil, List.getD_cons_zero, dite_true, dite_false, eq_self, reduceCtorEq, List.getElem?_cons_zero, List.getElem?_cons_succ, Option.some.injEq, List.set_cons_zero, List.set_cons_succ, List.drop_zero, List.drop_succ_cons, List.take_succ_cons, List.take_zero, true_implies, false_implies, and_true, true_and, implies_true, Nat.reduceSub, Nat.reduceMul, Nat.reduceLeDiff, Bool.not_true, Bool.not_false, Nat.not_lt_zero, Nat.le_refl, forall_const, Nat.reduceEqDiff, Ty.int.injEq, forall_eq, Bool.and_eq_true, and_self, Nat.succ_eq_add_one, Int.reduceLE, Int.reduceLT, Int.reduceEq, Int.reduceNeg, Int.toNat_zero, Nat.zero_le, Nat.reduceLT, Int.reduceToNat, Int.zero_add, Int.sub_zero, List.replicate_zero, List.replicate, List.drop_nil, List.take_nil, Nat.reduceBEq, Bool.true_or, Bool.or_true, Bool.or_self, Bool.false_or, CO15, CO10, CO19, CO20, CO11, CO9, CO14, CO0]
  simp only [brB_eq, Bool.or_eq_false_iff, Bool.and_eq_false_imp, decide_eq_true_eq, decide_eq_false_iff_not, Bool.not_eq_true', Bool.not_eq_false', Bool.not_eq_true, Bool.and_eq_true, Bool.or_eq_true, Int.not_lt, Int.not_le, Int.toNat_natCast, DV.int.injEq, DV.bool.injEq, DV.tup.injEq, DV.sl.injEq, List.cons.injEq, heq_eq_eq, true_and, and_true, eq_self, Bool.not_true, Bool.not_false, DV.agg.injEq]
  refine ⟨fun h => ?_, fun h => by simp [atB, atP, atE, h]⟩
  · refine DWc.loopG ok ck15 (α := Nat) (fun i => ⟨[(0, .int .i64 a), (1, .int .i64 r), (4, .bptr 3 0), (6, .bptr 4 0), (14, .osl 5 (.int .u8) 0 2 (some 2)), (15, .int .i64 2), (16, .int .i64 i)], ⟨6, 0, [(5, .arr (.int .u8) [(0 : Int), (1 : Int)]), (4, .box [.int .u8 0, .int .i64 0]), (3, .box [.int .u8 0, .int .i64 0])]⟩⟩) (fun i => i ≤ 2 ∧ (1 ≤ i → ∀ p : Int, 1 ≤ p → p ≤ 40 → 4 * p + 2 ≠ a) ∧ (2 ≤ i → ∀ p : Int, 1 ≤ p → p ≤ 40 → 4 * (p + r) ≠ a)) (fun i => 2 - i) 0 ?_ ?_ ?_
    · exact .sub rfl (Nat.zero_le _) ⟨⟨_, rfl, rfl⟩, ⟨_, rfl, rfl⟩, ⟨_, rfl, rfl⟩, ⟨_, rfl, rfl⟩, ⟨_, rfl, rfl⟩, ⟨_, rfl, rfl⟩, ⟨_, rfl, rfl⟩, trivial⟩ ⟨⟨Nat.le_of_ble_eq_true rfl, _, rfl, rfl⟩, ⟨Nat.le_of_ble_eq_true rfl, _, rfl, rfl⟩, ⟨Nat.le_of_ble_eq_true rfl, _, rfl, rfl⟩, trivial⟩
    · exact ⟨by omega, fun h => absurd h (by omega), fun h => absurd h (by omega)⟩
    · intro i hi
      simp only [l13_0, go_nil, go_skip, go_reg, go_seq, go_cond, go_block, go_loop, go_exit, go_ret, go_label, go_gh, go_rfn, go_codeX, go_codeG, go_codeR, go_ops0, go_opsK, go_opsM, keepM, dropM, FB, Nat.reducePow, Nat.reduceDiv, Nat.reduceMod, go_opsG1, go_opsG2, go_opsG3, go_opsG4, go_opsG5, go_opsG6, go_opsG7, go_opsP, go_opsE, go_opsC, go_blkN, go_blkX, go_blkG, go_blkR, go_rndN, go_rndX, go_rndG, go_rndR, go_scope, go_scpN, go_scpX, go_scpG, go_scpR, endP, ↓brB_true, ↓brB_false, brB_not, brB_dec, ↓brM_true, ↓brM_false, unS_stp, unS_and, unS_False, brM_mm, brM_sm, brM_ms, brM_ss, and_goS, bif_ff, bif_tt, bif_tf, tgtD, unl, callD, nilqD, eff1, eStore, eApp, gh1, frzP, frzOne, List.map_cons, List.map_nil, wantD, dpure, ev, evs, evO, lk, putD, killT, memN, List.any_cons, List.any_nil, Bool.or_false, lkO, stO, rmO, newO, setO, renew, killO, Loc.kill, argsD, nbeqB,  ↓cond_true, ↓cond_false, Option.map_some, Option.map_none, sideP, lenD, capD, dBin, dIdx, dLoad, dPick, dFld, dFldA, dSlc, dSlcS, dToS, elB, elemsOf, asTy, unflat, DV.cellA, DV.cell, DV.cells, setAllD, partsD, boolD, eqCells, eqCell, dMm, dMmGo, subT, flat, Ty.size, Ty.isAgg, Ty.zero, Ty.D, fnQ, dress, dres1, unl, finDV, frzV, frzVs, sidesP, DV.kill, DV.killL, geN, cutO, own0, decide_true, decide_false, Nat.reduceAdd, Nat.zero_add, Nat.add_zero, beq_self_eq_true, bTF, bFT, Bool.and_self, Bool.and_true, Bool.true_and, Bool.false_eq_true, Bool.true_eq_false, if_false, if_true, Bool.and_false, Bool.false_and, Option.getD_none, Option.getD_some, List.append_nil, List.nil_append, List.cons_append, Nat.ble, Nat.blt, List.length_cons, List.length_nil, List.all_cons, List.all_nil, List.getD_cons_zero, dite_true, dite_false, eq_self, reduceCtorEq, List.getElem?_cons_zero, List.getElem?_cons_succ, Option.some.injEq, List.set_cons_zero, List.set_cons_succ, List.drop_zero, List.drop_succ_cons, List.take_succ_cons, List.take_zero, true_implies, false_implies, and_true, true_and, implies_true, Nat.reduceSub, Nat.reduceMul, Nat.reduceLeDiff, Bool.not_true, Bool.not_false, Nat.not_lt_zero, Nat.le_refl, forall_const, Nat.reduceEqDiff, Ty.int.injEq, forall_eq, Bool.and_eq_true, and_self, Nat.succ_eq_add_one, Int.reduceLE, Int.reduceLT, Int.reduceEq, Int.reduceNeg, Int.toNat_zero, Nat.zero_le, Nat.reduceLT, Int.reduceToNat, Int.zero_add, Int.sub_zero, List.replicate_zero, List.replicate, List.drop_nil, List.take_nil, Nat.reduceBEq, Bool.true_or, Bool.or_true, Bool.or_self, Bool.false_or, CO15, CO10, CO19, CO20, CO11, CO9, CO14, CO0, brB_eq, Bool.or_eq_false_iff, Bool.and_eq_false_imp, decide_eq_true_eq, decide_eq_false_iff_not, Bool.not_eq_true', Bool.not_eq_false', Bool.not_eq_true, Bool.and_eq_true, Bool.or_eq_true, Int.not_lt, Int.not_le, Int.toNat_natCast, DV.int.injEq, DV.bool.injEq, DV.tup.injEq, DV.sl.injEq, List.cons.injEq, heq_eq_eq, true_and, and_true, eq_self, Bool.not_true, Bool.not_false, DV.agg.injEq]
      refine ⟨fun hlt => ⟨by omega, by omega, ?_⟩, fun hge => ?_⟩
      · have hbed : ([0, 1] : List Int).getD i 0 = (i : Int) := by
          have : i = 0 ∨ i = 1 := by omega
          rcases this with rfl | rfl <;> rfl
        rw [hbed]
        refine DWc.loopG ok ck15 (α := Nat × Int × Int) (fun x => ⟨[(0, .int .i64 a), (1, .int .i64 r), (4, .bptr 3 0), (6, .bptr 4 0), (8, .int .u8 i), (14, .osl 5 (.int .u8) 0 2 (some 2)), (15, .int .i64 2), (16, .int .i64 i), (20, .int .i64 x.1)], ⟨6, 0, [(5, .arr (.int .u8) [(0 : Int), (1 : Int)]), (4, .box [.int .u8 x.2.1, .int .i64 x.2.2]), (3, .box [.int .u8 0, .int .i64 0])]⟩⟩) (fun x => x.1 ≤ 40 ∧ ∀ p : Int, 1 ≤ p → p ≤ x.1 → spotN i p r ≠ a) (fun x => 40 - x.1) (0, 0, 0) ?_ ?_ ?_
        · exact .sub rfl (Nat.zero_le _) ⟨⟨_, rfl, rfl⟩, ⟨_, rfl, rfl⟩, ⟨_, rfl, rfl⟩, ⟨_, rfl, rfl⟩, ⟨_, rfl, rfl⟩, ⟨_, rfl, rfl⟩, ⟨_, rfl, rfl⟩, ⟨_, rfl, rfl⟩, ⟨_, rfl, rfl⟩, trivial⟩ ⟨⟨Nat.le_of_ble_eq_true rfl, _, rfl, rfl⟩, ⟨Nat.le_of_ble_eq_true rfl, _, rfl, rfl⟩, ⟨Nat.le_of_ble_eq_true rfl, _, rfl, rfl⟩, trivial⟩
        · exact ⟨by simp, fun p h1 h2 => by simp at h2; omega⟩
        · rintro ⟨x, b, p⟩ hx
          simp only at hx
          simp only [l13_1, go_nil, go_skip, go_reg, go_seq, go_cond, go_block, go_loop, go_exit, go_ret, go_label, go_gh, go_rfn, go_codeX, go_codeG, go_codeR, go_ops0, go_opsK, go_opsM, keepM, dropM, FB, Nat.reducePow, Nat.reduceDiv, Nat.reduceMod, go_opsG1, go_opsG2, go_opsG3, go_opsG4, go_opsG5, go_opsG6, go_opsG7, go_opsP, go_opsE, go_opsC, go_blkN, go_blkX, go_blkG, go_blkR, go_rndN, go_rndX, go_rndG, go_rndR, go_scope, go_scpN, go_scpX, go_scpG, go_scpR, endP, ↓brB_true, ↓brB_false, brB_not, brB_dec, ↓brM_true, ↓brM_false, unS_stp, unS_and, unS_False, brM_mm, brM_sm, brM_ms, brM_ss, and_goS, bif_ff, bif_tt, bif_tf, tgtD, unl, callD, nilqD, eff1, eStore, eApp, gh1, frzP, frzOne, List.map_cons, List.map_nil, wantD, dpure, ev, evs, evO, lk, putD, killT, memN, List.any_cons, List.any_nil, Bool.or_false, lkO, stO, rmO, newO, setO, renew, killO, Loc.kill, argsD, nbeqB,  ↓cond_true, ↓cond_false, Option.map_some, Option.map_none, sideP, lenD, capD, dBin, dIdx, dLoad, dPick, dFld, dFldA, dSlc, dSlcS, dToS, elB, elemsOf, asTy, unflat, DV.cellA, DV.cell, DV.cells, setAllD, partsD, boolD, eqCells, eqCell, dMm, dMmGo, subT, flat, Ty.size, Ty.isAgg, Ty.zero, Ty.D, fnQ, dress, dres1, unl, finDV, frzV, frzVs, sidesP, DV.kill, DV.killL, geN, cutO, own0, decide_true, decide_false, Nat.reduceAdd, Nat.zero_add, Nat.add_zero, beq_self_eq_true, bTF, bFT, Bool.and_self, Bool.and_true, Bool.true_and, Bool.false_eq_true, Bool.true_eq_false, if_false, if_true, Bool.and_false, Bool.false_and, Option.getD_none, Option.getD_some, List.append_nil, List.nil_append, List.cons_append, Nat.ble, Nat.blt, List.length_cons, List.length_nil, List.all_cons, List.all_nil, List.getD_cons_zero, dite_true, dite_false, eq_self, reduceCtorEq, List.getElem?_cons_zero, List.getElem?_cons_succ, Option.some.injEq, List.set_cons_zero, List.set_cons_succ, List.drop_zero, List.drop_succ_cons, List.take_succ_cons, List.take_zero, true_implies, false_implies, and_true, true_and, implies_true, Nat.reduceSub, Nat.reduceMul, Nat.reduceLeDiff, Bool.not_true, Bool.not_false, Nat.not_lt_zero, Nat.le_refl, forall_const, Nat.reduceEqDiff, Ty.int.injEq, forall_eq, Bool.and_eq_true, and_self, Nat.succ_eq_add_one, Int.reduceLE, Int.reduceLT, Int.reduceEq, Int.reduceNeg, Int.toNat_zero, Nat.zero_le, Nat.reduceLT, Int.reduceToNat, Int.zero_add, Int.sub_zero, List.replicate_zero, List.replicate, List.drop_nil, List.take_nil, Nat.reduceBEq, Bool.true_or, Bool.or_true, Bool.or_self, Bool.false_or, CO15, CO10, CO19, CO20, CO11, CO9, CO14, CO0, brB_eq, Bool.or_eq_false_iff, Bool.and_eq_false_imp, decide_eq_true_eq, decide_eq_false_iff_not, Bool.not_eq_true', Bool.not_eq_false', Bool.not_eq_true, Bool.and_eq_true, Bool.or_eq_true, Int.not_lt, Int.not_le, Int.toNat_natCast, DV.int.injEq, DV.bool.injEq, DV.tup.injEq, DV.sl.injEq, List.cons.injEq, heq_eq_eq, true_and, and_true, eq_self, Bool.not_true, Bool.not_false, DV.agg.injEq]
          refine ⟨fun hx1 => ?_, fun hx2 => ?_⟩
          · rw [wrap64' (i := (x : Int) + 1) (by omega)]
            refine ⟨by omega, fun hs => ⟨fun h0 => by omega, fun _ => ?_⟩, fun hs => ?_⟩
            · have hi01 : i = 0 ∨ i = 1 := by omega
              rcases hi01 with rfl | rfl
              · simp only [spotN] at hs
                rw [if_neg (by decide)] at hs
                have e1 : a % 4 = 2 ∧ 6 ≤ a ∧ a ≤ 162 := by omega
                have e2 : a / 4 = (x : Int) + 1 := by omega
                simp [atB, atP, atE, h, e1, e2]
              · simp only [spotN] at hs
                rw [if_pos (by decide)] at hs
                have e1 : ¬ (a % 4 = 2 ∧ 6 ≤ a ∧ a ≤ 162) := by omega
                have e2 : a % 4 = 0 ∧ 1 ≤ a / 4 - r ∧ a / 4 - r ≤ 40 := by omega
                have e3 : a / 4 - r = (x : Int) + 1 := by omega
                have e4 : a % 4 = 0 := e2.1
                simp only [atB, atP, atE, h, if_true, true_and, e1, if_false, e2, not_false_eq_true, and_true, and_self]
                simp [e1, e3]; omega
            · exact ⟨(x + 1, i, x + 1), by simp; omega, ⟨by simp; omega, fun p h1 h2 => by
                simp only [Int.natCast_add, Int.cast_ofNat_Int] at h2
                rcases Int.lt_or_eq_of_le h2 with h3 | h3
                · exact hx.2 p h1 (by omega)
                · rw [h3]; exact hs⟩, .sub rfl (Nat.zero_le _) ⟨⟨_, rfl, rfl⟩, ⟨_, rfl, rfl⟩, ⟨_, rfl, rfl⟩, ⟨_, rfl, rfl⟩, ⟨_, rfl, rfl⟩, ⟨_, rfl, rfl⟩, ⟨_, rfl, rfl⟩, ⟨_, rfl, rfl⟩, ⟨_, rfl, by simp [DV.kill]⟩, trivial⟩ ⟨⟨Nat.le_of_ble_eq_true rfl, _, rfl, rfl⟩, ⟨Nat.le_of_ble_eq_true rfl, _, rfl, rfl⟩, ⟨Nat.le_of_ble_eq_true rfl, _, rfl, rfl⟩, trivial⟩⟩
          · have hx40 : x = 40 := by omega
            subst hx40
            have hi01 : i = 0 ∨ i = 1 := by omega
            refine ⟨i + 1, by omega, ⟨by omega, fun _ => ?_, fun h2 => ?_⟩, .sub rfl (Nat.zero_le _) ⟨⟨_, rfl, rfl⟩, ⟨_, rfl, rfl⟩, ⟨_, rfl, rfl⟩, ⟨_, rfl, rfl⟩, ⟨_, rfl, rfl⟩, ⟨_, rfl, rfl⟩, ⟨_, rfl, by rw [wrap64' (by omega)]; rfl⟩, trivial⟩ ⟨⟨Nat.le_of_ble_eq_true rfl, _, rfl, rfl⟩, ⟨Nat.le_of_ble_eq_true rfl, _, rfl, rfl⟩, ⟨Nat.le_of_ble_eq_true rfl, _, rfl, rfl⟩, trivial⟩⟩
            · rcases hi01 with rfl | rfl
              · intro p h1 h2
                have := hx.2 p h1 (by simpa using h2)
                simpa [spotN] using this
              · exact hi.2.1 (by omega)
            · have hi1 : i = 1 := by omega
              subst hi1
              intro p h1 h2
              have := hx.2 p h1 (by simpa using h2)
              simpa [spotN] using this
      · have h1 := hi.2.1 (by omega)
        have h2 := hi.2.2 (by omega)
        have e1 : ¬ (a % 4 = 2 ∧ 6 ≤ a ∧ a ≤ 162) := fun hh => h1 (a / 4) (by omega) (by omega) (by omega)
        have e2 : ¬ (a % 4 = 0 ∧ 1 ≤ a / 4 - r ∧ a / 4 - r ≤ 40) := fun hh => h2 (a / 4 - r) (by omega) (by omega) (by omega)
        simp [atB, atP, atE, h, e1, e2]
def CO13 : CF := fun f args L => bif Nat.beq f 13 then (match args with
  | [.int .i64 a, .int .i64 r] => some (none, .tup [.agg [.int .u8 (atB a r), .int .i64 (atP a r)], .int .i64 (atE a r)], L, [])
  | _ => none) else CO15 f args L
theorem ck13 : CFOk Tryd.prog CO13 := by
  intro f args L side d L' ks hc hs
  unfold CO13 at hc
  cases hb : Nat.beq f 13 with
  | false => rw [hb] at hc; exact ck15 f args L side d L' ks hc hs
  | true =>
    have := Nat.eq_of_beq_eq_true hb
    subst this
    simp only [hb, cond_true] at hc
    split at hc
    · simp only [Option.some.injEq, Prod.mk.injEq] at hc
      obtain ⟨rfl, rfl, rfl, rfl⟩ := hc
      exact c13 _ _ L
    · cases hc
end Go.Proofs.YtkiognclopmciaaDoor

