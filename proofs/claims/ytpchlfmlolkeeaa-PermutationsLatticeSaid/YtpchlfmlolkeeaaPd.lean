/-
  Texts that belong together: Dp, PrmFns0, Pf1, Pf2.
-/
import Derived.Test.YtpchlfmlolkeeaaD34
import Derived.Test.YtpchlfmlolkeeaaProg
import Derived.KernelRfl
import Derived.Test.YtpchlfmlolkeeaaD27
import Derived.Test.YtpchlfmlolkeeaaAmB
set_option linter.unusedSimpArgs false
set_option linter.unusedVariables false
namespace Go.Proofs.Ytpchlfmlolkeeaa
open Go Go.RowKit Go.Am
set_option linter.unusedSimpArgs false
set_option linter.unusedVariables false
theorem ok : POk Try.prog := POk.of_check (by kernel_rfl) (by kernel_rfl)
def CO0 : CF := fun _ _ _ => none
theorem ck0 : CFOk Try.prog CO0 := fun _ _ _ _ _ _ _ h => by cases h
/-- slices.Index[[]uint8,uint8] -/
def l50_0 : DCode :=
       .seq (
        .reg [
          .pu ⟨some 9, .bin .lss (.t 8) (.t 7), false, none⟩] false) (
        .seq (
         .cond 9 (
          .skip) (
          .exit 0)) (
         .seq (
          .block 1 (
           .seq (
            .reg [
              .pu ⟨some 10, .mv (.t 8), false, none⟩,
              .pu ⟨some 5, .mv (.t 10), false, none⟩] false) (
            .seq (
             .reg [
               .pu ⟨some 11, .mv (.t 1), false, none⟩,
               .pu ⟨some 12, .mv (.t 0), false, none⟩,
               .pu ⟨some 13, .mv (.t 5), false, none⟩,
               .pu ⟨some 14, .idxA 1 (.t 12) (.t 13), false, none⟩,
               .pu ⟨some 15, .load 1 false (.t 14), false, none⟩,
               .pu ⟨some 16, .bin .eql (.t 11) (.t 15), false, none⟩,
               .gh (.kp 65955)] false) (
             .cond 16 (
              .seq (
               .reg [
                 .pu ⟨some 17, .mv (.t 5), false, none⟩,
                 .pu ⟨some 4, .mv (.t 17), false, none⟩] false) (
               .ret)) (
              .skip))))) (
          .reg [
            .pu ⟨some 18, .bin .add (.t 8) (.c (.int .i64 1)), false, none⟩,
            .pu ⟨some 8, .mv (.t 18), false, none⟩] false)))
def d50 : DCode :=
  .seq (
   .reg [
     .pu ⟨some 4, .mv (.c (.int .i64 0)), false, none⟩] false) (
   .seq (
    .seq (
     .reg [
       .pu ⟨some 6, .mv (.t 0), false, none⟩,
       .pu ⟨some 7, .len (.t 6), false, none⟩,
       .pu ⟨some 8, .mv (.c (.int .i64 0)), false, none⟩,
       .gh (.kp 387)] false) (
     .block 0 (
      .loop l50_0))) (
    .seq (
     .reg [
       .pu ⟨some 4, .mv (.c (.int .i64 (-1))), false, none⟩] false) (
     .ret)))
def r50 : List DRes := [.t 4]


/-- slices.Contains[[]uint8,uint8] -/
def d35 : DCode :=
  .seq (
   .reg [
     .pu ⟨some 4, .mv (.c (.lit false)), false, none⟩] false) (
   .seq (
    .reg [
      .pu ⟨some 5, .mv (.t 0), false, none⟩,
      .pu ⟨some 6, .mv (.t 1), false, none⟩,
      .ca ⟨some 7, .call 50 [(.t 5), (.t 6)], false, none⟩,
      .pu ⟨some 8, .bin .geq (.t 7) (.c (.int .i64 0)), false, none⟩,
      .pu ⟨some 4, .mv (.t 8), false, none⟩,
      .gh (.kp 16)] false) (
    .ret))
def r35 : List DRes := [.t 4]


/-- gansey/permutations.Check -/
def l12_0 : DCode :=
        .seq (
         .reg [
           .pu ⟨some 10, .bin .lss (.t 9) (.t 8), false, none⟩] false) (
         .seq (
          .cond 10 (
           .skip) (
           .exit 0)) (
          .seq (
           .block 1 (
            .seq (
             .reg [
               .pu ⟨some 11, .mv (.t 9), false, none⟩,
               .pu ⟨some 3, .mv (.t 11), false, none⟩] false) (
             .seq (
              .reg [
                .pu ⟨some 12, .mv (.t 0), false, none⟩,
                .pu ⟨some 13, .mv (.t 3), false, none⟩,
                .pu ⟨some 14, .bin .add (.t 13) (.c (.int .i64 1)), false, none⟩,
                .pu ⟨some 15, .conv .u8 (.t 14), false, none⟩,
                .ca ⟨some 16, .call 35 [(.t 12), (.t 15)], false, none⟩,
                .pu ⟨some 17, .not (.t 16), false, none⟩,
                .gh (.kp 131841)] false) (
              .cond 17 (
               .seq (
                .reg [
                  .pu ⟨some 2, .mv (.c (.int .i64 1)), false, none⟩] false) (
                .ret)) (
               .skip))))) (
           .reg [
             .pu ⟨some 18, .bin .add (.t 9) (.c (.int .i64 1)), false, none⟩,
             .pu ⟨some 9, .mv (.t 18), false, none⟩] false)))
def d12 : DCode :=
  .seq (
   .reg [
     .pu ⟨some 2, .mv (.c (.int .i64 0)), false, none⟩] false) (
   .seq (
    .seq (
     .reg [
       .pu ⟨some 4, .mv (.t 0), false, none⟩,
       .pu ⟨some 5, .len (.t 4), false, none⟩,
       .pu ⟨some 6, .bin .gtr (.t 5) (.c (.int .i64 8)), false, none⟩,
       .gh (.kp 65)] false) (
     .cond 6 (
      .seq (
       .reg [
         .pu ⟨some 2, .mv (.c (.int .i64 3)), false, none⟩] false) (
       .ret)) (
      .skip))) (
    .seq (
     .seq (
      .reg [
        .pu ⟨some 7, .mv (.t 0), false, none⟩,
        .pu ⟨some 8, .len (.t 7), false, none⟩,
        .pu ⟨some 9, .mv (.c (.int .i64 0)), false, none⟩,
        .gh (.kp 769)] false) (
      .block 0 (
       .loop l12_0))) (
     .seq (
      .seq (
       .reg [
         .pu ⟨some 19, .mv (.t 0), false, none⟩,
         .pu ⟨some 20, .len (.t 19), false, none⟩,
         .pu ⟨some 21, .bin .eql (.t 20) (.c (.int .i64 0)), false, none⟩,
         .gh (.kp 2097152)] false) (
       .cond 21 (
        .seq (
         .reg [
           .pu ⟨some 2, .mv (.c (.int .i64 1)), false, none⟩] false) (
         .ret)) (
        .skip))) (
      .seq (
       .reg [
         .pu ⟨some 2, .mv (.c (.int .i64 0)), false, none⟩] false) (
       .ret)))))
def r12 : List DRes := [.t 2]


/-- gansey/permutations.both -/
def d30 : DCode :=
  .seq (
   .reg [
     .pu ⟨some 4, .mv (.c (.int .i64 0)), false, none⟩] false) (
   .seq (
    .seq (
     .reg [
       .pu ⟨some 7, .mv (.t 0), false, none⟩,
       .ca ⟨some 8, .call 12 [(.t 7)], false, none⟩,
       .pu ⟨some 5, .mv (.t 8), false, none⟩,
       .gh (.kp 35)] false) (
     .seq (
      .reg [
        .pu ⟨some 9, .mv (.t 5), false, none⟩,
        .pu ⟨some 10, .bin .neq (.t 9) (.c (.int .i64 0)), false, none⟩] false) (
      .cond 10 (
       .seq (
        .reg [
          .pu ⟨some 11, .mv (.t 5), false, none⟩,
          .pu ⟨some 4, .mv (.t 11), false, none⟩] false) (
        .ret)) (
       .skip)))) (
    .seq (
     .seq (
      .reg [
        .pu ⟨some 12, .mv (.t 1), false, none⟩,
        .ca ⟨some 13, .call 12 [(.t 12)], false, none⟩,
        .pu ⟨some 6, .mv (.t 13), false, none⟩,
        .gh (.kp 67)] false) (
      .seq (
       .reg [
         .pu ⟨some 14, .mv (.t 6), false, none⟩,
         .pu ⟨some 15, .bin .neq (.t 14) (.c (.int .i64 0)), false, none⟩] false) (
       .cond 15 (
        .seq (
         .reg [
           .pu ⟨some 16, .mv (.t 6), false, none⟩,
           .pu ⟨some 4, .mv (.t 16), false, none⟩] false) (
         .ret)) (
        .skip)))) (
     .seq (
      .seq (
       .reg [
         .pu ⟨some 17, .mv (.t 0), false, none⟩,
         .pu ⟨some 18, .len (.t 17), false, none⟩,
         .pu ⟨some 19, .mv (.t 1), false, none⟩,
         .pu ⟨some 20, .len (.t 19), false, none⟩,
         .pu ⟨some 21, .bin .neq (.t 18) (.t 20), false, none⟩,
         .gh (.kp 2097152)] false) (
       .cond 21 (
        .seq (
         .reg [
           .pu ⟨some 4, .mv (.c (.int .i64 5)), false, none⟩] false) (
         .ret)) (
        .skip))) (
      .seq (
       .reg [
         .pu ⟨some 4, .mv (.c (.int .i64 0)), false, none⟩] false) (
       .ret)))))
def r30 : List DRes := [.t 4]


/-- gansey/permutations.strands -/
def d42 : DCode :=
  .seq (
   .reg [
     .pu ⟨some 2, .mv (.c (.int .i64 0)), false, none⟩] false) (
   .seq (
    .block 0 (
     .seq (
      .reg [
        .pu ⟨some 4, .mv (.t 0), false, none⟩,
        .pu ⟨some 5, .bin .lss (.t 4) (.c (.int .i64 1)), false, none⟩,
        .pu ⟨some 3, .mv (.t 5), false, none⟩,
        .gh (.kp 9)] false) (
      .cond 3 (
       .seq (
        .reg [
          .pu ⟨some 2, .mv (.c (.int .i64 1)), false, none⟩] false) (
        .ret)) (
       .seq (
        .reg [
          .pu ⟨some 7, .mv (.t 0), false, none⟩,
          .pu ⟨some 8, .bin .gtr (.t 7) (.c (.int .i64 8)), false, none⟩,
          .pu ⟨some 6, .mv (.t 8), false, none⟩,
          .gh (.kp 64)] false) (
        .cond 6 (
         .seq (
          .reg [
            .pu ⟨some 2, .mv (.c (.int .i64 3)), false, none⟩] false) (
          .ret)) (
         .skip)))))) (
    .seq (
     .reg [
       .pu ⟨some 2, .mv (.c (.int .i64 0)), false, none⟩] false) (
     .ret)))
def r42 : List DRes := [.t 2]


/-- gansey/permutations.made -/
def l33_0 : DCode :=
        .seq (
         .reg [
           .pu ⟨some 11, .bin .lss (.t 10) (.t 9), false, none⟩] false) (
         .seq (
          .cond 11 (
           .skip) (
           .exit 0)) (
          .seq (
           .block 1 (
            .seq (
             .reg [
               .pu ⟨some 12, .mv (.t 10), false, none⟩,
               .pu ⟨some 6, .mv (.t 12), false, none⟩] false) (
             .reg [
               .pu ⟨some 13, .mv (.t 5), false, none⟩,
               .pu ⟨some 14, .mv (.t 6), false, none⟩,
               .pu ⟨some 15, .mv (.t 1), false, none⟩,
               .pu ⟨some 16, .mv (.t 6), false, none⟩,
               .ca ⟨some 17, .callV (.t 15) [(.t 16)], false, none⟩,
               .pu ⟨some 18, .idxA 1 (.t 13) (.t 14), false, none⟩,
               .ef ⟨none, .store 1 (.t 18) (.t 17), false, none⟩,
               .gh (.kp 1570)] false))) (
           .reg [
             .pu ⟨some 19, .bin .add (.t 10) (.c (.int .i64 1)), false, none⟩,
             .pu ⟨some 10, .mv (.t 19), false, none⟩] false)))
def d33 : DCode :=
  .seq (
   .reg [
     .pu ⟨some 4, .mv (.c .nils), false, none⟩] false) (
   .seq (
    .reg [
      .pu ⟨some 7, .mv (.t 0), false, none⟩,
      .ef ⟨some 8, .mkS (.int .u8) 1 (.t 7) (.t 7), false, none⟩,
      .pu ⟨some 5, .mv (.t 8), false, none⟩,
      .gh (.kp 35)] false) (
    .seq (
     .seq (
      .reg [
        .pu ⟨some 9, .mv (.t 0), false, none⟩,
        .pu ⟨some 10, .mv (.c (.int .i64 0)), false, none⟩] false) (
      .block 0 (
       .loop l33_0))) (
     .seq (
      .reg [
        .pu ⟨some 20, .mv (.t 5), false, none⟩,
        .pu ⟨some 4, .mv (.t 20), false, none⟩] false) (
      .gh (.ty 4 (.int .u8)) (      .ret)))))
def r33 : List DRes := [.t 4]


/-- gansey/permutations.meet$1 -/
def d47 : DCode :=
  .seq (
   .reg [
     .pu ⟨some 2, .mv (.c (.int .u8 0)), false, none⟩] false) (
   .seq (
    .reg [
      .pu ⟨some 3, .mv (.t 0), false, none⟩,
      .pu ⟨some 4, .conv .u8 (.t 3), false, none⟩,
      .pu ⟨some 2, .mv (.t 4), false, none⟩,
      .gh (.kp 4)] false) (
    .ret))
def r47 : List DRes := [.t 2]


/-- gansey/permutations.meet$2 -/
def d48 : DCode :=
  .seq (
   .reg [
     .pu ⟨some 5, .mv (.c (.lit false)), false, none⟩] false) (
   .seq (
    .reg [
      .pu ⟨some 6, .load 1 false (.t 2), false, none⟩,
      .pu ⟨some 7, .mv (.t 1), false, none⟩,
      .pu ⟨some 8, .idxA 1 (.t 6) (.t 7), false, none⟩,
      .pu ⟨some 9, .load 1 false (.t 8), false, none⟩,
      .pu ⟨some 10, .load 1 false (.t 2), false, none⟩,
      .pu ⟨some 11, .mv (.t 1), false, none⟩,
      .pu ⟨some 12, .bin .add (.t 11) (.c (.int .i64 1)), false, none⟩,
      .pu ⟨some 13, .idxA 1 (.t 10) (.t 12), false, none⟩,
      .pu ⟨some 14, .load 1 false (.t 13), false, none⟩,
      .pu ⟨some 15, .bin .lss (.t 9) (.t 14), false, none⟩,
      .pu ⟨some 16, .mv (.t 15), true, none⟩,
      .pu ⟨some 17, .mv (.t 0), false, (some (16, true))⟩,
      .pu ⟨some 18, .load 1 false (.t 2), false, (some (16, true))⟩,
      .pu ⟨some 19, .mv (.t 1), false, (some (16, true))⟩,
      .pu ⟨some 20, .idxA 1 (.t 18) (.t 19), false, (some (16, true))⟩,
      .pu ⟨some 21, .load 1 false (.t 20), false, (some (16, true))⟩,
      .pu ⟨some 22, .idxA 1 (.t 17) (.t 21), false, (some (16, true))⟩,
      .pu ⟨some 23, .load 1 false (.t 22), false, (some (16, true))⟩,
      .pu ⟨some 24, .mv (.t 0), false, (some (16, true))⟩,
      .pu ⟨some 25, .load 1 false (.t 2), false, (some (16, true))⟩,
      .pu ⟨some 26, .mv (.t 1), false, (some (16, true))⟩,
      .pu ⟨some 27, .bin .add (.t 26) (.c (.int .i64 1)), false, (some (16, true))⟩,
      .pu ⟨some 28, .idxA 1 (.t 25) (.t 27), false, (some (16, true))⟩,
      .pu ⟨some 29, .load 1 false (.t 28), false, (some (16, true))⟩,
      .pu ⟨some 30, .idxA 1 (.t 24) (.t 29), false, (some (16, true))⟩,
      .pu ⟨some 31, .load 1 false (.t 30), false, (some (16, true))⟩,
      .pu ⟨some 32, .bin .gtr (.t 23) (.t 31), false, (some (16, true))⟩,
      .pu ⟨some 33, .pick (.t 16) (.t 32) (.c (.lit false)), false, none⟩,
      .gh (.mrg 16 33 17179803648),
      .pu ⟨some 5, .mv (.t 33), false, none⟩,
      .gh (.kp 32)] true) (
    .ret))
def r48 : List DRes := [.t 5]


/-- gansey/permutations.meet$3 -/
def d49 : DCode :=
  .seq (
   .reg [
     .pu ⟨some 3, .mv (.c (.int .u8 0)), false, none⟩] false) (
   .seq (
    .reg [
      .pu ⟨some 4, .load 1 false (.t 1), false, none⟩,
      .pu ⟨some 5, .mv (.t 0), false, none⟩,
      .pu ⟨some 6, .idxA 1 (.t 4) (.t 5), false, none⟩,
      .pu ⟨some 7, .load 1 false (.t 6), false, none⟩,
      .pu ⟨some 8, .bin .add (.t 7) (.c (.int .u8 1)), false, none⟩,
      .pu ⟨some 3, .mv (.t 8), false, none⟩,
      .gh (.kp 8)] false) (
    .ret))
def r49 : List DRes := [.t 3]


/-- gansey/permutations.then$1 -/
def d52 : DCode :=
  .seq (
   .reg [
     .pu ⟨some 4, .mv (.c (.int .u8 0)), false, none⟩] false) (
   .seq (
    .reg [
      .pu ⟨some 5, .load 1 false (.t 1), false, none⟩,
      .pu ⟨some 6, .load 1 false (.t 2), false, none⟩,
      .pu ⟨some 7, .mv (.t 0), false, none⟩,
      .pu ⟨some 8, .idxA 1 (.t 6) (.t 7), false, none⟩,
      .pu ⟨some 9, .load 1 false (.t 8), false, none⟩,
      .pu ⟨some 10, .bin .sub (.t 9) (.c (.int .u8 1)), false, none⟩,
      .pu ⟨some 11, .idxA 1 (.t 5) (.t 10), false, none⟩,
      .pu ⟨some 12, .load 1 false (.t 11), false, none⟩,
      .pu ⟨some 4, .mv (.t 12), false, none⟩,
      .gh (.kp 16)] true) (
    .ret))
def r52 : List DRes := [.t 4]


/-- gansey/permutations.then -/
def d40 : DCode :=
  .seq (
   .reg [
     .ef ⟨some 2, .box (.t 0), false, none⟩,
     .gh (.frzB 2 (.sl (.int .u8))),
     .ef ⟨some 3, .box (.t 1), false, none⟩,
     .gh (.frzB 3 (.sl (.int .u8))),
     .pu ⟨some 4, .mv (.c .nils), false, none⟩,
     .gh (.kp 12)] false) (
   .seq (
    .reg [
      .pu ⟨some 5, .load 1 false (.t 2), false, none⟩,
      .pu ⟨some 6, .len (.t 5), false, none⟩,
      .pu ⟨some 7, .mkF 52 [] [(.t 3), (.t 2)], false, none⟩,
      .ca ⟨some 8, .call 33 [(.t 6), (.t 7)], false, none⟩,
      .pu ⟨some 4, .mv (.t 8), false, none⟩,
      .gh (.kp 16)] false) (
    .gh (.ty 4 (.int .u8)) (    .ret)))
def r40 : List DRes := [.t 4]


/-- gansey/permutations.Times -/
def d24 : DCode :=
  .seq (
   .reg [
     .pu ⟨some 4, .mv (.c .nils), false, none⟩,
     .pu ⟨some 5, .mv (.c (.int .i64 0)), false, none⟩] false) (
   .seq (
    .seq (
     .reg [
       .pu ⟨some 7, .mv (.t 0), false, none⟩,
       .pu ⟨some 8, .mv (.t 1), false, none⟩,
       .ca ⟨some 9, .call 30 [(.t 7), (.t 8)], false, none⟩,
       .pu ⟨some 6, .mv (.t 9), false, none⟩,
       .gh (.kp 67)] false) (
     .seq (
      .reg [
        .pu ⟨some 10, .mv (.t 6), false, none⟩,
        .pu ⟨some 11, .bin .neq (.t 10) (.c (.int .i64 0)), false, none⟩] false) (
      .cond 11 (
       .seq (
        .reg [
          .pu ⟨some 12, .mv (.t 6), false, none⟩,
          .pu ⟨some 4, .mv (.c .nils), false, none⟩,
          .pu ⟨some 5, .mv (.t 12), false, none⟩,
          .gh (.kp 48)] false) (
        .gh (.ty 4 (.int .u8)) (        .ret))) (
       .skip)))) (
    .seq (
     .reg [
       .pu ⟨some 13, .mv (.t 0), false, none⟩,
       .pu ⟨some 14, .mv (.t 1), false, none⟩,
       .ca ⟨some 15, .call 40 [(.t 13), (.t 14)], false, none⟩,
       .pu ⟨some 4, .mv (.t 15), false, none⟩,
       .pu ⟨some 5, .mv (.c (.int .i64 0)), false, none⟩,
       .gh (.kp 48)] false) (
     .gh (.ty 4 (.int .u8)) (     .ret))))
def r24 : List DRes := [.t 4, .t 5]


/-- gansey/permutations.back -/
def l39_0 : DCode :=
        .seq (
         .reg [
           .pu ⟨some 12, .bin .lss (.t 11) (.t 10), false, none⟩] false) (
         .seq (
          .cond 12 (
           .skip) (
           .exit 0)) (
          .seq (
           .block 1 (
            .seq (
             .reg [
               .pu ⟨some 13, .mv (.t 11), false, none⟩,
               .pu ⟨some 14, .idxA 1 (.t 9) (.t 11), false, none⟩,
               .pu ⟨some 15, .load 1 false (.t 14), false, none⟩,
               .pu ⟨some 4, .mv (.t 13), false, none⟩,
               .pu ⟨some 5, .mv (.t 15), false, none⟩,
               .gh (.kp 3640)] false) (
             .reg [
               .pu ⟨some 16, .mv (.t 3), false, none⟩,
               .pu ⟨some 17, .mv (.t 5), false, none⟩,
               .pu ⟨some 18, .bin .sub (.t 17) (.c (.int .u8 1)), false, none⟩,
               .pu ⟨some 19, .mv (.t 4), false, none⟩,
               .pu ⟨some 20, .bin .add (.t 19) (.c (.int .i64 1)), false, none⟩,
               .pu ⟨some 21, .conv .u8 (.t 20), false, none⟩,
               .pu ⟨some 22, .idxA 1 (.t 16) (.t 18), false, none⟩,
               .ef ⟨none, .store 1 (.t 22) (.t 21), false, none⟩,
               .gh (.kp 3592)] false))) (
           .reg [
             .pu ⟨some 23, .bin .add (.t 11) (.c (.int .i64 1)), false, none⟩,
             .pu ⟨some 11, .mv (.t 23), false, none⟩] false)))
def d39 : DCode :=
  .seq (
   .reg [
     .pu ⟨some 2, .mv (.c .nils), false, none⟩] false) (
   .seq (
    .reg [
      .pu ⟨some 6, .mv (.t 0), false, none⟩,
      .pu ⟨some 7, .len (.t 6), false, none⟩,
      .ef ⟨some 8, .mkS (.int .u8) 1 (.t 7) (.t 7), false, none⟩,
      .pu ⟨some 3, .mv (.t 8), false, none⟩,
      .gh (.kp 9)] false) (
    .seq (
     .seq (
      .reg [
        .pu ⟨some 9, .mv (.t 0), false, none⟩,
        .pu ⟨some 10, .len (.t 9), false, none⟩,
        .pu ⟨some 11, .mv (.c (.int .i64 0)), false, none⟩,
        .gh (.kp 3592)] false) (
      .block 0 (
       .loop l39_0))) (
     .seq (
      .reg [
        .pu ⟨some 24, .mv (.t 3), false, none⟩,
        .pu ⟨some 2, .mv (.t 24), false, none⟩] false) (
      .gh (.ty 2 (.int .u8)) (      .ret)))))
def r39 : List DRes := [.t 2]


/-- gansey/permutations.Inverse -/
def d25 : DCode :=
  .seq (
   .reg [
     .pu ⟨some 2, .mv (.c .nils), false, none⟩,
     .pu ⟨some 3, .mv (.c (.int .i64 0)), false, none⟩] false) (
   .seq (
    .seq (
     .reg [
       .pu ⟨some 5, .mv (.t 0), false, none⟩,
       .ca ⟨some 6, .call 12 [(.t 5)], false, none⟩,
       .pu ⟨some 4, .mv (.t 6), false, none⟩,
       .gh (.kp 17)] false) (
     .seq (
      .reg [
        .pu ⟨some 7, .mv (.t 4), false, none⟩,
        .pu ⟨some 8, .bin .neq (.t 7) (.c (.int .i64 0)), false, none⟩] false) (
      .cond 8 (
       .seq (
        .reg [
          .pu ⟨some 9, .mv (.t 4), false, none⟩,
          .pu ⟨some 2, .mv (.c .nils), false, none⟩,
          .pu ⟨some 3, .mv (.t 9), false, none⟩,
          .gh (.kp 12)] false) (
        .gh (.ty 2 (.int .u8)) (        .ret))) (
       .skip)))) (
    .seq (
     .reg [
       .pu ⟨some 10, .mv (.t 0), false, none⟩,
       .ca ⟨some 11, .call 39 [(.t 10)], false, none⟩,
       .pu ⟨some 2, .mv (.t 11), false, none⟩,
       .pu ⟨some 3, .mv (.c (.int .i64 0)), false, none⟩,
       .gh (.kp 12)] false) (
     .gh (.ty 2 (.int .u8)) (     .ret))))
def r25 : List DRes := [.t 2, .t 3]


/-- gansey/permutations.Flip$1 -/
def d41 : DCode :=
  .seq (
   .reg [
     .pu ⟨some 4, .mv (.c (.int .u8 0)), false, none⟩] false) (
   .seq (
    .reg [
      .pu ⟨some 5, .load 1 false (.t 1), false, none⟩,
      .pu ⟨some 6, .bin .add (.t 5) (.c (.int .i64 1)), false, none⟩,
      .pu ⟨some 7, .conv .u8 (.t 6), false, none⟩,
      .pu ⟨some 8, .load 1 false (.t 2), false, none⟩,
      .pu ⟨some 9, .load 1 false (.t 1), false, none⟩,
      .pu ⟨some 10, .bin .sub (.t 9) (.c (.int .i64 1)), false, none⟩,
      .pu ⟨some 11, .mv (.t 0), false, none⟩,
      .pu ⟨some 12, .bin .sub (.t 10) (.t 11), false, none⟩,
      .pu ⟨some 13, .idxA 1 (.t 8) (.t 12), false, none⟩,
      .pu ⟨some 14, .load 1 false (.t 13), false, none⟩,
      .pu ⟨some 15, .bin .sub (.t 7) (.t 14), false, none⟩,
      .pu ⟨some 4, .mv (.t 15), false, none⟩,
      .gh (.kp 16)] true) (
    .ret))
def r41 : List DRes := [.t 4]


/-- gansey/permutations.Flip -/
def d26 : DCode :=
  .seq (
   .reg [
     .ef ⟨some 1, .box (.t 0), false, none⟩,
     .gh (.frzB 1 (.sl (.int .u8))),
     .pu ⟨some 2, .mv (.c .nils), false, none⟩,
     .pu ⟨some 3, .mv (.c (.int .i64 0)), false, none⟩,
     .gh (.kp 2)] false) (
   .seq (
    .seq (
     .reg [
       .pu ⟨some 6, .load 1 false (.t 1), false, none⟩,
       .ca ⟨some 7, .call 12 [(.t 6)], false, none⟩,
       .pu ⟨some 4, .mv (.t 7), false, none⟩,
       .gh (.kp 18)] false) (
     .seq (
      .reg [
        .pu ⟨some 8, .mv (.t 4), false, none⟩,
        .pu ⟨some 9, .bin .neq (.t 8) (.c (.int .i64 0)), false, none⟩] false) (
      .cond 9 (
       .seq (
        .reg [
          .pu ⟨some 10, .mv (.t 4), false, none⟩,
          .pu ⟨some 2, .mv (.c .nils), false, none⟩,
          .pu ⟨some 3, .mv (.t 10), false, none⟩,
          .gh (.kp 12)] false) (
        .gh (.ty 2 (.int .u8)) (        .ret))) (
       .skip)))) (
    .seq (
     .reg [
       .pu ⟨some 11, .load 1 false (.t 1), false, none⟩,
       .pu ⟨some 12, .len (.t 11), false, none⟩,
       .ef ⟨some 5, .alloc [(.int .i64 0)], false, none⟩,
       .ef ⟨none, .store 1 (.t 5) (.t 12), false, none⟩,
       .gh (.frzB 5 (.int .i64)),
       .gh (.kp 34)] false) (
     .seq (
      .reg [
        .pu ⟨some 13, .load 1 false (.t 5), false, none⟩,
        .pu ⟨some 14, .mkF 41 [] [(.t 5), (.t 1)], false, none⟩,
        .ca ⟨some 15, .call 33 [(.t 13), (.t 14)], false, none⟩,
        .pu ⟨some 2, .mv (.t 15), false, none⟩,
        .pu ⟨some 3, .mv (.c (.int .i64 0)), false, none⟩,
        .gh (.kp 12)] false) (
      .gh (.ty 2 (.int .u8)) (      .ret)))))
def r26 : List DRes := [.t 2, .t 3]


/-- gansey/permutations.Identity$1 -/
def d43 : DCode :=
  .seq (
   .reg [
     .pu ⟨some 2, .mv (.c (.int .u8 0)), false, none⟩] false) (
   .seq (
    .reg [
      .pu ⟨some 3, .mv (.t 0), false, none⟩,
      .pu ⟨some 4, .bin .add (.t 3) (.c (.int .i64 1)), false, none⟩,
      .pu ⟨some 5, .conv .u8 (.t 4), false, none⟩,
      .pu ⟨some 2, .mv (.t 5), false, none⟩,
      .gh (.kp 4)] false) (
    .ret))
def r43 : List DRes := [.t 2]


/-- gansey/permutations.Identity -/
def d27 : DCode :=
  .seq (
   .reg [
     .pu ⟨some 2, .mv (.c .nils), false, none⟩,
     .pu ⟨some 3, .mv (.c (.int .i64 0)), false, none⟩] false) (
   .seq (
    .seq (
     .reg [
       .pu ⟨some 5, .mv (.t 0), false, none⟩,
       .ca ⟨some 6, .call 42 [(.t 5)], false, none⟩,
       .pu ⟨some 4, .mv (.t 6), false, none⟩,
       .gh (.kp 17)] false) (
     .seq (
      .reg [
        .pu ⟨some 7, .mv (.t 4), false, none⟩,
        .pu ⟨some 8, .bin .neq (.t 7) (.c (.int .i64 0)), false, none⟩] false) (
      .cond 8 (
       .seq (
        .reg [
          .pu ⟨some 9, .mv (.t 4), false, none⟩,
          .pu ⟨some 2, .mv (.c .nils), false, none⟩,
          .pu ⟨some 3, .mv (.t 9), false, none⟩,
          .gh (.kp 12)] false) (
        .gh (.ty 2 (.int .u8)) (        .ret))) (
       .skip)))) (
    .seq (
     .reg [
       .pu ⟨some 10, .mv (.t 0), false, none⟩,
       .ca ⟨some 11, .call 33 [(.t 10), (.c (.clo 43 [] []))], false, none⟩,
       .pu ⟨some 2, .mv (.t 11), false, none⟩,
       .pu ⟨some 3, .mv (.c (.int .i64 0)), false, none⟩,
       .gh (.kp 12)] false) (
     .gh (.ty 2 (.int .u8)) (     .ret))))
def r27 : List DRes := [.t 2, .t 3]


/-- gansey/permutations.Half$1 -/
def d46 : DCode :=
  .seq (
   .reg [
     .pu ⟨some 3, .mv (.c (.int .u8 0)), false, none⟩] false) (
   .seq (
    .reg [
      .pu ⟨some 4, .load 1 false (.t 1), false, none⟩,
      .pu ⟨some 5, .mv (.t 0), false, none⟩,
      .pu ⟨some 6, .bin .sub (.t 4) (.t 5), false, none⟩,
      .pu ⟨some 7, .conv .u8 (.t 6), false, none⟩,
      .pu ⟨some 3, .mv (.t 7), false, none⟩,
      .gh (.kp 8)] false) (
    .ret))
def r46 : List DRes := [.t 3]


/-- gansey/permutations.Half -/
def d29 : DCode :=
  .seq (
   .reg [
     .ef ⟨some 1, .box (.t 0), false, none⟩,
     .gh (.frzB 1 (.int .i64)),
     .pu ⟨some 2, .mv (.c .nils), false, none⟩,
     .pu ⟨some 3, .mv (.c (.int .i64 0)), false, none⟩,
     .gh (.kp 2)] false) (
   .seq (
    .seq (
     .reg [
       .pu ⟨some 5, .load 1 false (.t 1), false, none⟩,
       .ca ⟨some 6, .call 42 [(.t 5)], false, none⟩,
       .pu ⟨some 4, .mv (.t 6), false, none⟩,
       .gh (.kp 18)] false) (
     .seq (
      .reg [
        .pu ⟨some 7, .mv (.t 4), false, none⟩,
        .pu ⟨some 8, .bin .neq (.t 7) (.c (.int .i64 0)), false, none⟩] false) (
      .cond 8 (
       .seq (
        .reg [
          .pu ⟨some 9, .mv (.t 4), false, none⟩,
          .pu ⟨some 2, .mv (.c .nils), false, none⟩,
          .pu ⟨some 3, .mv (.t 9), false, none⟩,
          .gh (.kp 12)] false) (
        .gh (.ty 2 (.int .u8)) (        .ret))) (
       .skip)))) (
    .seq (
     .reg [
       .pu ⟨some 10, .load 1 false (.t 1), false, none⟩,
       .pu ⟨some 11, .mkF 46 [] [(.t 1)], false, none⟩,
       .ca ⟨some 12, .call 33 [(.t 10), (.t 11)], false, none⟩,
       .pu ⟨some 2, .mv (.t 12), false, none⟩,
       .pu ⟨some 3, .mv (.c (.int .i64 0)), false, none⟩,
       .gh (.kp 12)] false) (
     .gh (.ty 2 (.int .u8)) (     .ret))))
def r29 : List DRes := [.t 2, .t 3]


/-- gansey/ganseylaw23.same -/
def d14 : DCode :=
  .seq (
   .reg [
     .pu ⟨some 4, .mv (.c (.lit false)), false, none⟩] false) (
   .seq (
    .reg [
      .pu ⟨some 5, .mv (.t 0), false, none⟩,
      .pu ⟨some 6, .toS (.t 5), false, none⟩,
      .pu ⟨some 7, .mv (.t 1), false, none⟩,
      .pu ⟨some 8, .toS (.t 7), false, none⟩,
      .pu ⟨some 9, .bin .eql (.t 6) (.t 8), false, none⟩,
      .pu ⟨some 10, .mv (.t 9), true, none⟩,
      .pu ⟨some 11, .mv (.t 0), false, (some (10, true))⟩,
      .pu ⟨some 12, .cap (.t 11), false, (some (10, true))⟩,
      .pu ⟨some 13, .mv (.t 0), false, (some (10, true))⟩,
      .pu ⟨some 14, .len (.t 13), false, (some (10, true))⟩,
      .pu ⟨some 15, .bin .eql (.t 12) (.t 14), false, (some (10, true))⟩,
      .pu ⟨some 16, .pick (.t 10) (.t 15) (.c (.lit false)), false, none⟩,
      .gh (.mrg 10 16 130048),
      .pu ⟨some 4, .mv (.t 16), false, none⟩,
      .gh (.kp 16)] false) (
    .ret))
def r14 : List DRes := [.t 4]


/-- (gansey/ganseylaw23.M).Of -/
def l8_0 : DCode :=
         .seq (
          .seq (
           .reg [
             .pu ⟨some 13, .mv (.t 5), false, none⟩,
             .pu ⟨some 14, .mv (.t 3), false, none⟩,
             .pu ⟨some 15, .bin .leq (.t 13) (.t 14), false, none⟩,
             .gh (.kp 32825)] false) (
           .cond 15 (
            .skip) (
            .exit 0))) (
          .seq (
           .block 1 (
            .reg [
              .pu ⟨some 18, .mv (.t 4), false, none⟩,
              .pu ⟨some 19, .mv (.t 5), false, none⟩,
              .pu ⟨some 20, .conv .u8 (.t 19), false, none⟩,
              .ef ⟨some 21, .bldS (.int .u8) 1 [(.t 20)], false, none⟩,
              .ef ⟨some 22, .app (.int .u8) 1 false (.t 18) (.t 21), false, none⟩,
              .pu ⟨some 4, .mv (.t 22), false, none⟩,
              .gh (.kp 57)] false)) (
           .reg [
             .pu ⟨some 16, .mv (.t 5), false, none⟩,
             .pu ⟨some 17, .bin .add (.t 16) (.c (.int .i64 1)), false, none⟩,
             .pu ⟨some 5, .mv (.t 17), false, none⟩,
             .gh (.kp 57)] false))
def l8_1 : DCode :=
           .seq (
            .seq (
             .reg [
               .pu ⟨some 23, .mv (.t 7), false, none⟩,
               .pu ⟨some 24, .mv (.t 3), false, none⟩,
               .pu ⟨some 25, .bin .lss (.t 23) (.t 24), false, none⟩,
               .gh (.kp 33554649)] false) (
             .cond 25 (
              .skip) (
              .exit 2))) (
            .seq (
             .block 3 (
              .seq (
               .reg [
                 .pu ⟨some 8, .mv (.c (.int .i64 0)), false, none⟩] false) (
               .seq (
                .seq (
                 .reg [
                   .pu ⟨some 28, .mv (.t 7), false, none⟩,
                   .pu ⟨some 29, .mv (.t 0), false, none⟩,
                   .pu ⟨some 30, .len (.t 29), false, none⟩,
                   .pu ⟨some 31, .bin .lss (.t 28) (.t 30), false, none⟩,
                   .gh (.kp 2147484121)] false) (
                 .cond 31 (
                  .reg [
                    .pu ⟨some 32, .mv (.t 0), false, none⟩,
                    .pu ⟨some 33, .mv (.t 7), false, none⟩,
                    .pu ⟨some 34, .idxA 1 (.t 32) (.t 33), false, none⟩,
                    .pu ⟨some 35, .load 1 false (.t 34), false, none⟩,
                    .pu ⟨some 36, .conv .i64 (.t 35), false, none⟩,
                    .pu ⟨some 37, .mv (.t 4), false, none⟩,
                    .pu ⟨some 38, .len (.t 37), false, none⟩,
                    .pu ⟨some 39, .bin .rem (.t 36) (.t 38), false, none⟩,
                    .pu ⟨some 8, .mv (.t 39), false, none⟩,
                    .gh (.kp 473)] false) (
                  .skip))) (
                .seq (
                 .reg [
                   .pu ⟨some 40, .mv (.t 6), false, none⟩,
                   .pu ⟨some 41, .mv (.t 4), false, none⟩,
                   .pu ⟨some 42, .mv (.t 8), false, none⟩,
                   .pu ⟨some 43, .idxA 1 (.t 41) (.t 42), false, none⟩,
                   .pu ⟨some 44, .load 1 false (.t 43), false, none⟩,
                   .ef ⟨some 45, .bldS (.int .u8) 1 [(.t 44)], false, none⟩,
                   .ef ⟨some 46, .app (.int .u8) 1 false (.t 40) (.t 45), false, none⟩,
                   .pu ⟨some 6, .mv (.t 46), false, none⟩,
                   .gh (.kp 473)] false) (
                 .reg [
                   .pu ⟨some 47, .mv (.t 4), false, none⟩,
                   .pu ⟨some 48, .mv (.t 8), false, none⟩,
                   .pu ⟨some 49, .mv (.t 8), false, none⟩,
                   .pu ⟨some 50, .slc 1 (.t 47) none (some (.t 48)) (some (.t 49)), false, none⟩,
                   .pu ⟨some 51, .mv (.t 4), false, none⟩,
                   .pu ⟨some 52, .mv (.t 8), false, none⟩,
                   .pu ⟨some 53, .bin .add (.t 52) (.c (.int .i64 1)), false, none⟩,
                   .pu ⟨some 54, .slc 1 (.t 51) (some (.t 53)) none none, false, none⟩,
                   .ef ⟨some 55, .app (.int .u8) 1 false (.t 50) (.t 54), false, none⟩,
                   .pu ⟨some 4, .mv (.t 55), false, none⟩,
                   .gh (.kp 217)] true))))) (
             .reg [
               .pu ⟨some 26, .mv (.t 7), false, none⟩,
               .pu ⟨some 27, .bin .add (.t 26) (.c (.int .i64 1)), false, none⟩,
               .pu ⟨some 7, .mv (.t 27), false, none⟩,
               .gh (.kp 217)] false))
def d8 : DCode :=
  .seq (
   .reg [
     .pu ⟨some 2, .mv (.c .nils), false, none⟩] false) (
   .seq (
    .reg [
      .pu ⟨some 9, .mv (.t 0), false, none⟩,
      .pu ⟨some 10, .len (.t 9), false, none⟩,
      .pu ⟨some 11, .mm true [(.t 10), (.c (.int .i64 1))], false, none⟩,
      .pu ⟨some 12, .mm false [(.t 11), (.c (.int .i64 8))], false, none⟩,
      .pu ⟨some 3, .mv (.t 12), false, none⟩,
      .gh (.kp 9)] false) (
    .seq (
     .reg [
       .pu ⟨some 4, .mv (.c .nils), false, none⟩,
       .gh (.own 4 (.int .u8))] false) (
     .seq (
      .seq (
       .reg [
         .pu ⟨some 5, .mv (.c (.int .i64 1)), false, none⟩] false) (
       .block 0 (
        .loop l8_0))) (
      .seq (
       .reg [
         .pu ⟨some 6, .mv (.c .nils), false, none⟩,
         .gh (.own 6 (.int .u8))] false) (
       .seq (
        .seq (
         .reg [
           .pu ⟨some 7, .mv (.c (.int .i64 0)), false, none⟩] false) (
         .block 2 (
          .loop l8_1))) (
        .seq (
         .reg [
           .pu ⟨some 56, .mv (.t 6), false, none⟩,
           .pu ⟨some 2, .mv (.t 56), false, none⟩] false) (
         .gh (.ty 2 (.int .u8)) (         .ret))))))))
def r8 : List DRes := [.t 2]


/-- (gansey/ganseylaw23.M).As -/
def l9_0 : DCode :=
       .seq (
        .seq (
         .reg [
           .pu ⟨some 9, .mv (.t 5), false, none⟩,
           .pu ⟨some 10, .len (.t 9), false, none⟩,
           .pu ⟨some 11, .mv (.t 1), false, none⟩,
           .pu ⟨some 12, .bin .lss (.t 10) (.t 11), false, none⟩,
           .gh (.kp 4130)] false) (
         .cond 12 (
          .skip) (
          .exit 0))) (
        .block 1 (
         .reg [
           .pu ⟨some 13, .mv (.t 5), false, none⟩,
           .ef ⟨some 14, .bldS (.int .u8) 1 [(.c (.int .u8 0))], false, none⟩,
           .ef ⟨some 15, .app (.int .u8) 1 false (.t 13) (.t 14), false, none⟩,
           .pu ⟨some 5, .mv (.t 15), false, none⟩,
           .gh (.kp 34)] false))
def d9 : DCode :=
  .seq (
   .reg [
     .pu ⟨some 4, .mv (.c .nils), false, none⟩] false) (
   .seq (
    .reg [
      .ef ⟨some 6, .bldS (.int .u8) 0 [], false, none⟩,
      .pu ⟨some 7, .mv (.t 0), false, none⟩,
      .ef ⟨some 8, .app (.int .u8) 1 false (.t 6) (.t 7), false, none⟩,
      .pu ⟨some 5, .mv (.t 8), false, none⟩,
      .gh (.kp 34)] false) (
    .seq (
     .block 0 (
      .loop l9_0)) (
     .seq (
      .reg [
        .pu ⟨some 16, .mv (.t 5), false, none⟩,
        .pu ⟨some 17, .mv (.t 1), false, none⟩,
        .pu ⟨some 18, .slc 1 (.t 16) none (some (.t 17)) none, false, none⟩,
        .gh (.frz 3),
        .ca ⟨some 19, .call 8 [(.t 18)], false, none⟩,
        .pu ⟨some 4, .mv (.t 19), false, none⟩,
        .gh (.kp 16)] false) (
      .gh (.ty 4 (.int .u8)) (      .ret)))))
def r9 : List DRes := [.t 4]


/-- gansey/ganseylaw23.PermutationsTimes -/
def l6_0 : DCode :=
              .seq (
               .seq (
                .reg [
                  .pu ⟨some 83, .mv (.t 14), false, none⟩,
                  .pu ⟨some 84, .mv (.t 6), false, none⟩,
                  .pu ⟨some 85, .bin .lss (.t 83) (.t 84), false, none⟩,
                  .gh (.kp 38685626227668133590619616)] false) (
                .cond 85 (
                 .skip) (
                 .exit 0))) (
               .seq (
                .block 1 (
                 .seq (
                  .reg [
                    .pu ⟨some 88, .mv (.t 8), false, none⟩,
                    .pu ⟨some 89, .mv (.t 14), false, none⟩,
                    .pu ⟨some 90, .idxA 1 (.t 88) (.t 89), false, none⟩,
                    .pu ⟨some 91, .load 1 false (.t 90), false, none⟩,
                    .pu ⟨some 92, .mv (.t 7), false, none⟩,
                    .pu ⟨some 93, .mv (.t 5), false, none⟩,
                    .pu ⟨some 94, .mv (.t 14), false, none⟩,
                    .pu ⟨some 95, .idxA 1 (.t 93) (.t 94), false, none⟩,
                    .pu ⟨some 96, .load 1 false (.t 95), false, none⟩,
                    .pu ⟨some 97, .bin .sub (.t 96) (.c (.int .u8 1)), false, none⟩,
                    .pu ⟨some 98, .idxA 1 (.t 92) (.t 97), false, none⟩,
                    .pu ⟨some 99, .load 1 false (.t 98), false, none⟩,
                    .pu ⟨some 100, .bin .neq (.t 91) (.t 99), false, none⟩,
                    .pu ⟨some 101, .mv (.t 100), true, none⟩,
                    .pu ⟨some 102, .mv (.t 10), false, (some (101, false))⟩,
                    .pu ⟨some 103, .mv (.t 5), false, (some (101, false))⟩,
                    .pu ⟨some 104, .mv (.t 14), false, (some (101, false))⟩,
                    .pu ⟨some 105, .idxA 1 (.t 103) (.t 104), false, (some (101, false))⟩,
                    .pu ⟨some 106, .load 1 false (.t 105), false, (some (101, false))⟩,
                    .pu ⟨some 107, .bin .sub (.t 106) (.c (.int .u8 1)), false, (some (101, false))⟩,
                    .pu ⟨some 108, .idxA 1 (.t 102) (.t 107), false, (some (101, false))⟩,
                    .pu ⟨some 109, .load 1 false (.t 108), false, (some (101, false))⟩,
                    .pu ⟨some 110, .conv .i64 (.t 109), false, (some (101, false))⟩,
                    .pu ⟨some 111, .mv (.t 14), false, (some (101, false))⟩,
                    .pu ⟨some 112, .bin .add (.t 111) (.c (.int .i64 1)), false, (some (101, false))⟩,
                    .pu ⟨some 113, .bin .neq (.t 110) (.t 112), false, (some (101, false))⟩,
                    .pu ⟨some 114, .pick (.t 101) (.c (.lit true)) (.t 113), false, none⟩,
                    .gh (.mrg 101 114 41535839567078164569440977227350016),
                    .pu ⟨some 115, .mv (.t 114), true, none⟩,
                    .pu ⟨some 116, .mv (.t 12), false, (some (115, false))⟩,
                    .pu ⟨some 117, .mv (.t 6), false, (some (115, false))⟩,
                    .pu ⟨some 118, .bin .sub (.t 117) (.c (.int .i64 1)), false, (some (115, false))⟩,
                    .pu ⟨some 119, .mv (.t 14), false, (some (115, false))⟩,
                    .pu ⟨some 120, .bin .sub (.t 118) (.t 119), false, (some (115, false))⟩,
                    .pu ⟨some 121, .idxA 1 (.t 116) (.t 120), false, (some (115, false))⟩,
                    .pu ⟨some 122, .load 1 false (.t 121), false, (some (115, false))⟩,
                    .pu ⟨some 123, .conv .i64 (.t 122), false, (some (115, false))⟩,
                    .pu ⟨some 124, .mv (.t 6), false, (some (115, false))⟩,
                    .pu ⟨some 125, .bin .add (.t 124) (.c (.int .i64 1)), false, (some (115, false))⟩,
                    .pu ⟨some 126, .mv (.t 5), false, (some (115, false))⟩,
                    .pu ⟨some 127, .mv (.t 14), false, (some (115, false))⟩,
                    .pu ⟨some 128, .idxA 1 (.t 126) (.t 127), false, (some (115, false))⟩,
                    .pu ⟨some 129, .load 1 false (.t 128), false, (some (115, false))⟩,
                    .pu ⟨some 130, .conv .i64 (.t 129), false, (some (115, false))⟩,
                    .pu ⟨some 131, .bin .sub (.t 125) (.t 130), false, (some (115, false))⟩,
                    .pu ⟨some 132, .bin .neq (.t 123) (.t 131), false, (some (115, false))⟩,
                    .pu ⟨some 133, .pick (.t 115) (.c (.lit true)) (.t 132), false, none⟩,
                    .gh (.mrg 115 133 21778029944565193383034946631662531772416),
                    .gh (.kp 10889035741470030830827987437816582788576)] true) (
                  .cond 133 (
                   .seq (
                    .reg [
                      .pu ⟨some 4, .mv (.c (.lit false)), false, none⟩] false) (
                    .ret)) (
                   .skip)))) (
                .reg [
                  .pu ⟨some 86, .mv (.t 14), false, none⟩,
                  .pu ⟨some 87, .bin .add (.t 86) (.c (.int .i64 1)), false, none⟩,
                  .pu ⟨some 14, .mv (.t 87), false, none⟩,
                  .gh (.kp 21984)] false))
def d6 : DCode :=
  .seq (
   .reg [
     .pu ⟨some 4, .mv (.c (.lit false)), false, none⟩] false) (
   .seq (
    .reg [
      .pu ⟨some 19, .mv (.t 0), false, none⟩,
      .ca ⟨some 20, .call 8 [(.t 19)], false, none⟩,
      .pu ⟨some 5, .mv (.t 20), false, none⟩,
      .gh (.kp 34)] false) (
    .seq (
     .reg [
       .pu ⟨some 21, .mv (.t 5), false, none⟩,
       .pu ⟨some 22, .len (.t 21), false, none⟩,
       .pu ⟨some 6, .mv (.t 22), false, none⟩,
       .gh (.kp 98)] false) (
     .seq (
      .reg [
        .pu ⟨some 23, .mv (.t 1), false, none⟩,
        .pu ⟨some 24, .mv (.t 6), false, none⟩,
        .ca ⟨some 25, .call 9 [(.t 23), (.t 24)], false, none⟩,
        .pu ⟨some 7, .mv (.t 25), false, none⟩,
        .gh (.kp 224)] false) (
      .seq (
       .reg [
         .pu ⟨some 27, .mv (.t 5), false, none⟩,
         .pu ⟨some 28, .mv (.t 7), false, none⟩,
         .ca ⟨some 29, .call 24 [(.t 27), (.t 28)], false, none⟩,
         .pu ⟨some 26, .mv (.t 29), false, none⟩,
         .pu ⟨some 30, .ext (.t 26) 0, false, none⟩,
         .pu ⟨some 31, .ext (.t 26) 1, false, none⟩,
         .pu ⟨some 8, .mv (.t 30), false, none⟩,
         .pu ⟨some 9, .mv (.t 31), false, none⟩,
         .gh (.kp 992)] false) (
       .seq (
        .reg [
          .pu ⟨some 33, .mv (.t 5), false, none⟩,
          .ca ⟨some 34, .call 25 [(.t 33)], false, none⟩,
          .pu ⟨some 32, .mv (.t 34), false, none⟩,
          .pu ⟨some 35, .ext (.t 32) 0, false, none⟩,
          .pu ⟨some 36, .ext (.t 32) 1, false, none⟩,
          .pu ⟨some 10, .mv (.t 35), false, none⟩,
          .pu ⟨some 11, .mv (.t 36), false, none⟩,
          .gh (.kp 4064)] false) (
        .seq (
         .reg [
           .pu ⟨some 38, .mv (.t 5), false, none⟩,
           .ca ⟨some 39, .call 26 [(.t 38)], false, none⟩,
           .pu ⟨some 37, .mv (.t 39), false, none⟩,
           .pu ⟨some 40, .ext (.t 37) 0, false, none⟩,
           .pu ⟨some 41, .ext (.t 37) 1, false, none⟩,
           .pu ⟨some 12, .mv (.t 40), false, none⟩,
           .pu ⟨some 13, .mv (.t 41), false, none⟩,
           .gh (.kp 16352)] false) (
         .seq (
          .seq (
           .reg [
             .pu ⟨some 42, .mv (.t 9), false, none⟩,
             .pu ⟨some 43, .bin .neq (.t 42) (.c (.int .i64 0)), false, none⟩,
             .pu ⟨some 44, .mv (.t 43), true, none⟩,
             .pu ⟨some 45, .mv (.t 11), false, (some (44, false))⟩,
             .pu ⟨some 46, .bin .neq (.t 45) (.c (.int .i64 0)), false, (some (44, false))⟩,
             .pu ⟨some 47, .pick (.t 44) (.c (.lit true)) (.t 46), false, none⟩,
             .gh (.mrg 44 47 263882790666240),
             .pu ⟨some 48, .mv (.t 47), true, none⟩,
             .pu ⟨some 49, .mv (.t 13), false, (some (48, false))⟩,
             .pu ⟨some 50, .bin .neq (.t 49) (.c (.int .i64 0)), false, (some (48, false))⟩,
             .pu ⟨some 51, .pick (.t 48) (.c (.lit true)) (.t 50), false, none⟩,
             .gh (.mrg 48 51 4222124650659840),
             .pu ⟨some 52, .mv (.t 51), true, none⟩,
             .pu ⟨some 53, .mv (.t 8), false, (some (52, false))⟩,
             .pu ⟨some 54, .len (.t 53), false, (some (52, false))⟩,
             .pu ⟨some 55, .mv (.t 6), false, (some (52, false))⟩,
             .pu ⟨some 56, .bin .neq (.t 54) (.t 55), false, (some (52, false))⟩,
             .pu ⟨some 57, .pick (.t 52) (.c (.lit true)) (.t 56), false, none⟩,
             .gh (.mrg 52 57 283726776524341248),
             .pu ⟨some 58, .mv (.t 57), true, none⟩,
             .pu ⟨some 59, .mv (.t 10), false, (some (58, false))⟩,
             .pu ⟨some 60, .len (.t 59), false, (some (58, false))⟩,
             .pu ⟨some 61, .mv (.t 6), false, (some (58, false))⟩,
             .pu ⟨some 62, .bin .neq (.t 60) (.t 61), false, (some (58, false))⟩,
             .pu ⟨some 63, .pick (.t 58) (.c (.lit true)) (.t 62), false, none⟩,
             .gh (.mrg 58 63 18158513697557839872),
             .pu ⟨some 64, .mv (.t 63), true, none⟩,
             .pu ⟨some 65, .mv (.t 12), false, (some (64, false))⟩,
             .pu ⟨some 66, .len (.t 65), false, (some (64, false))⟩,
             .pu ⟨some 67, .mv (.t 6), false, (some (64, false))⟩,
             .pu ⟨some 68, .bin .neq (.t 66) (.t 67), false, (some (64, false))⟩,
             .pu ⟨some 69, .pick (.t 64) (.c (.lit true)) (.t 68), false, none⟩,
             .gh (.mrg 64 69 1162144876643701751808),
             .pu ⟨some 70, .mv (.t 69), true, none⟩,
             .pu ⟨some 71, .mv (.t 8), false, (some (70, false))⟩,
             .pu ⟨some 72, .cap (.t 71), false, (some (70, false))⟩,
             .pu ⟨some 73, .mv (.t 10), false, (some (70, false))⟩,
             .pu ⟨some 74, .cap (.t 73), false, (some (70, false))⟩,
             .pu ⟨some 75, .bin .add (.t 72) (.t 74), false, (some (70, false))⟩,
             .pu ⟨some 76, .mv (.t 12), false, (some (70, false))⟩,
             .pu ⟨some 77, .cap (.t 76), false, (some (70, false))⟩,
             .pu ⟨some 78, .bin .add (.t 75) (.t 77), false, (some (70, false))⟩,
             .pu ⟨some 79, .mv (.t 6), false, (some (70, false))⟩,
             .pu ⟨some 80, .bin .mul (.c (.int .i64 3)) (.t 79), false, (some (70, false))⟩,
             .pu ⟨some 81, .bin .neq (.t 78) (.t 80), false, (some (70, false))⟩,
             .pu ⟨some 82, .pick (.t 70) (.c (.lit true)) (.t 81), false, none⟩,
             .gh (.mrg 70 82 9670225965296315986345984),
             .gh (.kp 4835703278458516698830304)] false) (
           .cond 82 (
            .seq (
             .reg [
               .pu ⟨some 4, .mv (.c (.lit false)), false, none⟩] false) (
             .ret)) (
            .skip))) (
          .seq (
           .seq (
            .reg [
              .pu ⟨some 14, .mv (.c (.int .i64 0)), false, none⟩] false) (
            .block 0 (
             .loop l6_0))) (
           .seq (
            .reg [
              .pu ⟨some 135, .mv (.t 6), false, none⟩,
              .ca ⟨some 136, .call 27 [(.t 135)], false, none⟩,
              .pu ⟨some 134, .mv (.t 136), false, none⟩,
              .pu ⟨some 137, .ext (.t 134) 0, false, none⟩,
              .pu ⟨some 138, .ext (.t 134) 1, false, none⟩,
              .pu ⟨some 15, .mv (.t 137), false, none⟩,
              .pu ⟨some 16, .mv (.t 138), false, none⟩,
              .gh (.kp 99360)] false) (
            .seq (
             .reg [
               .pu ⟨some 140, .mv (.t 5), false, none⟩,
               .pu ⟨some 141, .mv (.t 10), false, none⟩,
               .ca ⟨some 142, .call 24 [(.t 140), (.t 141)], false, none⟩,
               .pu ⟨some 139, .mv (.t 142), false, none⟩,
               .pu ⟨some 143, .ext (.t 139) 0, false, none⟩,
               .pu ⟨some 144, .ext (.t 139) 1, false, none⟩,
               .pu ⟨some 17, .mv (.t 143), false, none⟩,
               .pu ⟨some 18, .mv (.t 144), false, none⟩,
               .gh (.kp 491520)] false) (
             .seq (
              .reg [
                .pu ⟨some 145, .mv (.t 16), false, none⟩,
                .pu ⟨some 146, .bin .eql (.t 145) (.c (.int .i64 0)), false, none⟩,
                .pu ⟨some 147, .mv (.t 146), true, none⟩,
                .pu ⟨some 148, .mv (.t 18), false, (some (147, true))⟩,
                .pu ⟨some 149, .bin .eql (.t 148) (.c (.int .i64 0)), false, (some (147, true))⟩,
                .pu ⟨some 150, .pick (.t 147) (.t 149) (.c (.lit false)), false, none⟩,
                .gh (.mrg 147 150 2676089423823674776984286192717803380717649920),
                .pu ⟨some 151, .mv (.t 150), true, none⟩,
                .pu ⟨some 152, .mv (.t 17), false, (some (151, true))⟩,
                .pu ⟨some 153, .mv (.t 15), false, (some (151, true))⟩,
                .ca ⟨some 154, .call 14 [(.t 152), (.t 153)], false, (some (151, true))⟩,
                .pu ⟨some 155, .pick (.t 151) (.t 154) (.c (.lit false)), false, none⟩,
                .gh (.mrg 151 155 88489356947769512625613730105868698455730290688),
                .pu ⟨some 156, .mv (.t 155), true, none⟩,
                .ca ⟨some 157, .call 15 [], false, (some (156, true))⟩,
                .pu ⟨some 158, .pick (.t 156) (.t 157) (.c (.lit false)), false, none⟩,
                .gh (.mrg 156 158 639406966332270026714112114313373821099470487552),
                .pu ⟨some 4, .mv (.t 158), false, none⟩,
                .gh (.kp 16)] false) (
              .ret))))))))))))
def r6 : List DRes := [.t 4]


/-- gansey/permutations.meet -/
def l31_0 : DCode :=
         .seq (
          .seq (
           .reg [
             .pu ⟨some 12, .mv (.t 7), false, none⟩,
             .pu ⟨some 13, .bin .add (.t 12) (.c (.int .i64 1)), false, none⟩,
             .pu ⟨some 14, .load 1 false (.t 5), false, none⟩,
             .pu ⟨some 15, .len (.t 14), false, none⟩,
             .pu ⟨some 16, .bin .lss (.t 13) (.t 15), false, none⟩,
             .gh (.kp 65763)] false) (
           .cond 16 (
            .skip) (
            .exit 0))) (
          .seq (
           .block 1 (
            .seq (
             .reg [
               .pu ⟨some 19, .mv (.t 6), false, none⟩,
               .pu ⟨some 20, .mv (.t 0), false, none⟩,
               .pu ⟨some 21, .mv (.t 7), false, none⟩,
               .ca ⟨some 22, .callV (.t 19) [(.t 20), (.t 21)], false, none⟩,
               .pu ⟨some 23, .mv (.t 22), true, none⟩,
               .pu ⟨some 24, .mv (.t 6), false, (some (23, true))⟩,
               .pu ⟨some 25, .mv (.t 1), false, (some (23, true))⟩,
               .pu ⟨some 26, .mv (.t 7), false, (some (23, true))⟩,
               .ca ⟨some 27, .callV (.t 24) [(.t 25), (.t 26)], false, (some (23, true))⟩,
               .pu ⟨some 28, .pick (.t 23) (.t 27) (.c (.lit false)), false, none⟩,
               .gh (.mrg 23 28 528482304),
               .gh (.kp 268435683)] false) (
             .cond 28 (
              .seq (
               .reg [
                 .pu ⟨some 29, .load 1 false (.t 5), false, none⟩,
                 .pu ⟨some 30, .mv (.t 7), false, none⟩,
                 .pu ⟨some 31, .load 1 false (.t 5), false, none⟩,
                 .pu ⟨some 32, .mv (.t 7), false, none⟩,
                 .pu ⟨some 33, .bin .add (.t 32) (.c (.int .i64 1)), false, none⟩,
                 .pu ⟨some 34, .load 1 false (.t 5), false, none⟩,
                 .pu ⟨some 35, .mv (.t 7), false, none⟩,
                 .pu ⟨some 36, .bin .add (.t 35) (.c (.int .i64 1)), false, none⟩,
                 .pu ⟨some 37, .idxA 1 (.t 34) (.t 36), false, none⟩,
                 .pu ⟨some 38, .load 1 false (.t 37), false, none⟩,
                 .pu ⟨some 39, .load 1 false (.t 5), false, none⟩,
                 .pu ⟨some 40, .mv (.t 7), false, none⟩,
                 .pu ⟨some 41, .idxA 1 (.t 39) (.t 40), false, none⟩,
                 .pu ⟨some 42, .load 1 false (.t 41), false, none⟩,
                 .pu ⟨some 43, .idxA 1 (.t 29) (.t 30), false, none⟩,
                 .ef ⟨none, .store 1 (.t 43) (.t 38), false, none⟩,
                 .pu ⟨some 44, .idxA 1 (.t 31) (.t 33), false, none⟩,
                 .ef ⟨none, .store 1 (.t 44) (.t 42), false, none⟩,
                 .gh (.exs [(5, 43)]),
                 .gh (.kp 227)] true) (
               .reg [
                 .pu ⟨some 45, .mv (.t 7), false, none⟩,
                 .pu ⟨some 46, .bin .sub (.t 45) (.c (.int .i64 2)), false, none⟩,
                 .pu ⟨some 47, .mm true [(.t 46), (.c (.int .i64 (-1)))], false, none⟩,
                 .pu ⟨some 7, .mv (.t 47), false, none⟩,
                 .gh (.kp 227)] false)) (
              .skip)))) (
           .reg [
             .pu ⟨some 17, .mv (.t 7), false, none⟩,
             .pu ⟨some 18, .bin .add (.t 17) (.c (.int .i64 1)), false, none⟩,
             .pu ⟨some 7, .mv (.t 18), false, none⟩,
             .gh (.kp 227)] false))
def d31 : DCode :=
  .seq (
   .reg [
     .pu ⟨some 4, .mv (.c .nils), false, none⟩] false) (
   .seq (
    .reg [
      .pu ⟨some 8, .mv (.t 0), false, none⟩,
      .pu ⟨some 9, .len (.t 8), false, none⟩,
      .ca ⟨some 10, .call 33 [(.t 9), (.c (.clo 47 [] []))], false, none⟩,
      .ef ⟨some 5, .alloc [.nils], false, none⟩,
      .ef ⟨none, .store 1 (.t 5) (.t 10), false, none⟩,
      .gh (.kp 35)] false) (
    .seq (
     .reg [
       .pu ⟨some 11, .mkF 48 [] [(.t 5)], false, none⟩,
       .pu ⟨some 6, .mv (.t 11), false, none⟩] false) (
     .seq (
      .seq (
       .reg [
         .pu ⟨some 7, .mv (.c (.int .i64 0)), false, none⟩] false) (
       .block 0 (
        .loop l31_0))) (
      .seq (
       .reg [
         .pu ⟨some 48, .load 1 false (.t 5), false, none⟩,
         .pu ⟨some 49, .len (.t 48), false, none⟩,
         .pu ⟨some 50, .mkF 49 [] [(.t 5)], false, none⟩,
         .ca ⟨some 51, .call 33 [(.t 49), (.t 50)], false, none⟩,
         .gh (.frz 5),
         .ca ⟨some 52, .call 39 [(.t 51)], false, none⟩,
         .pu ⟨some 4, .mv (.t 52), false, none⟩,
         .gh (.kp 16)] false) (
       .gh (.ty 4 (.int .u8)) (       .ret))))))
def r31 : List DRes := [.t 4]


/-- gansey/permutations.Meet -/
def d10 : DCode :=
  .seq (
   .reg [
     .pu ⟨some 4, .mv (.c .nils), false, none⟩,
     .pu ⟨some 5, .mv (.c (.int .i64 0)), false, none⟩] false) (
   .seq (
    .seq (
     .reg [
       .pu ⟨some 7, .mv (.t 0), false, none⟩,
       .pu ⟨some 8, .mv (.t 1), false, none⟩,
       .ca ⟨some 9, .call 30 [(.t 7), (.t 8)], false, none⟩,
       .pu ⟨some 6, .mv (.t 9), false, none⟩,
       .gh (.kp 67)] false) (
     .seq (
      .reg [
        .pu ⟨some 10, .mv (.t 6), false, none⟩,
        .pu ⟨some 11, .bin .neq (.t 10) (.c (.int .i64 0)), false, none⟩] false) (
      .cond 11 (
       .seq (
        .reg [
          .pu ⟨some 12, .mv (.t 6), false, none⟩,
          .pu ⟨some 4, .mv (.c .nils), false, none⟩,
          .pu ⟨some 5, .mv (.t 12), false, none⟩,
          .gh (.kp 48)] false) (
        .gh (.ty 4 (.int .u8)) (        .ret))) (
       .skip)))) (
    .seq (
     .reg [
       .pu ⟨some 13, .mv (.t 0), false, none⟩,
       .pu ⟨some 14, .mv (.t 1), false, none⟩,
       .ca ⟨some 15, .call 31 [(.t 13), (.t 14)], false, none⟩,
       .pu ⟨some 4, .mv (.t 15), false, none⟩,
       .pu ⟨some 5, .mv (.c (.int .i64 0)), false, none⟩,
       .gh (.kp 48)] false) (
     .gh (.ty 4 (.int .u8)) (     .ret))))
def r10 : List DRes := [.t 4, .t 5]


/-- gansey/permutations.Join$1 -/
def d32 : DCode :=
  .seq (
   .reg [
     .ef ⟨some 1, .box (.t 0), false, none⟩,
     .gh (.frzB 1 (.sl (.int .u8))),
     .pu ⟨some 2, .mv (.c .nils), false, none⟩] false) (
   .seq (
    .reg [
      .pu ⟨some 3, .load 1 false (.t 1), false, none⟩,
      .pu ⟨some 4, .len (.t 3), false, none⟩,
      .pu ⟨some 5, .mkF 34 [] [(.t 1)], false, none⟩,
      .ca ⟨some 6, .call 33 [(.t 4), (.t 5)], false, none⟩,
      .pu ⟨some 2, .mv (.t 6), false, none⟩,
      .gh (.kp 4)] false) (
    .gh (.ty 2 (.int .u8)) (    .ret)))
def r32 : List DRes := [.t 2]


/-- gansey/permutations.Join$1$1 -/
def d34 : DCode :=
  .seq (
   .reg [
     .pu ⟨some 3, .mv (.c (.int .u8 0)), false, none⟩] false) (
   .seq (
    .reg [
      .pu ⟨some 4, .load 1 false (.t 1), false, none⟩,
      .pu ⟨some 5, .len (.t 4), false, none⟩,
      .pu ⟨some 6, .bin .add (.t 5) (.c (.int .i64 1)), false, none⟩,
      .pu ⟨some 7, .conv .u8 (.t 6), false, none⟩,
      .pu ⟨some 8, .load 1 false (.t 1), false, none⟩,
      .pu ⟨some 9, .mv (.t 0), false, none⟩,
      .pu ⟨some 10, .idxA 1 (.t 8) (.t 9), false, none⟩,
      .pu ⟨some 11, .load 1 false (.t 10), false, none⟩,
      .pu ⟨some 12, .bin .sub (.t 7) (.t 11), false, none⟩,
      .pu ⟨some 3, .mv (.t 12), false, none⟩,
      .gh (.kp 8)] true) (
    .ret))
def r34 : List DRes := [.t 3]


/-- gansey/permutations.Join -/
def d11 : DCode :=
  .seq (
   .reg [
     .pu ⟨some 4, .mv (.c .nils), false, none⟩,
     .pu ⟨some 5, .mv (.c (.int .i64 0)), false, none⟩] false) (
   .seq (
    .seq (
     .reg [
       .pu ⟨some 8, .mv (.t 0), false, none⟩,
       .pu ⟨some 9, .mv (.t 1), false, none⟩,
       .ca ⟨some 10, .call 30 [(.t 8), (.t 9)], false, none⟩,
       .pu ⟨some 6, .mv (.t 10), false, none⟩,
       .gh (.kp 67)] false) (
     .seq (
      .reg [
        .pu ⟨some 11, .mv (.t 6), false, none⟩,
        .pu ⟨some 12, .bin .neq (.t 11) (.c (.int .i64 0)), false, none⟩] false) (
      .cond 12 (
       .seq (
        .reg [
          .pu ⟨some 13, .mv (.t 6), false, none⟩,
          .pu ⟨some 4, .mv (.c .nils), false, none⟩,
          .pu ⟨some 5, .mv (.t 13), false, none⟩,
          .gh (.kp 48)] false) (
        .gh (.ty 4 (.int .u8)) (        .ret))) (
       .skip)))) (
    .seq (
     .reg [
       .pu ⟨some 7, .mv (.c (.clo 32 [] [])), false, none⟩] false) (
     .seq (
      .reg [
        .pu ⟨some 14, .mv (.t 7), false, none⟩,
        .pu ⟨some 15, .mv (.t 7), false, none⟩,
        .pu ⟨some 16, .mv (.t 0), false, none⟩,
        .ca ⟨some 17, .callV (.t 15) [(.t 16)], false, none⟩,
        .pu ⟨some 18, .mv (.t 7), false, none⟩,
        .pu ⟨some 19, .mv (.t 1), false, none⟩,
        .ca ⟨some 20, .callV (.t 18) [(.t 19)], false, none⟩,
        .ca ⟨some 21, .call 31 [(.t 17), (.t 20)], false, none⟩,
        .ca ⟨some 22, .callV (.t 14) [(.t 21)], false, none⟩,
        .pu ⟨some 4, .mv (.t 22), false, none⟩,
        .pu ⟨some 5, .mv (.c (.int .i64 0)), false, none⟩,
        .gh (.kp 48)] false) (
      .gh (.ty 4 (.int .u8)) (      .ret)))))
def r11 : List DRes := [.t 4, .t 5]


/-- gansey/ganseylaw23.crosses -/
def d20 : DCode :=
  .seq (
   .reg [
     .pu ⟨some 6, .mv (.c (.lit false)), false, none⟩] false) (
   .seq (
    .reg [
      .pu ⟨some 7, .mv (.t 1), false, none⟩,
      .pu ⟨some 8, .mv (.t 2), false, none⟩,
      .pu ⟨some 9, .bin .lss (.t 7) (.t 8), false, none⟩,
      .pu ⟨some 10, .mv (.t 9), true, none⟩,
      .pu ⟨some 11, .mv (.t 0), false, (some (10, true))⟩,
      .pu ⟨some 12, .mv (.t 1), false, (some (10, true))⟩,
      .pu ⟨some 13, .idxA 1 (.t 11) (.t 12), false, (some (10, true))⟩,
      .pu ⟨some 14, .load 1 false (.t 13), false, (some (10, true))⟩,
      .pu ⟨some 15, .mv (.t 0), false, (some (10, true))⟩,
      .pu ⟨some 16, .mv (.t 2), false, (some (10, true))⟩,
      .pu ⟨some 17, .idxA 1 (.t 15) (.t 16), false, (some (10, true))⟩,
      .pu ⟨some 18, .load 1 false (.t 17), false, (some (10, true))⟩,
      .pu ⟨some 19, .bin .gtr (.t 14) (.t 18), false, (some (10, true))⟩,
      .pu ⟨some 20, .pick (.t 10) (.t 19) (.c (.lit false)), false, none⟩,
      .gh (.mrg 10 20 2096128),
      .pu ⟨some 21, .mv (.t 20), true, none⟩,
      .pu ⟨some 22, .mv (.t 2), false, (some (21, false))⟩,
      .pu ⟨some 23, .mv (.t 1), false, (some (21, false))⟩,
      .pu ⟨some 24, .bin .lss (.t 22) (.t 23), false, (some (21, false))⟩,
      .pu ⟨some 25, .mv (.t 24), true, (some (21, false))⟩,
      .pu ⟨some 26, .mv (.t 0), false, (some (25, true))⟩,
      .pu ⟨some 27, .mv (.t 2), false, (some (25, true))⟩,
      .pu ⟨some 28, .idxA 1 (.t 26) (.t 27), false, (some (25, true))⟩,
      .pu ⟨some 29, .load 1 false (.t 28), false, (some (25, true))⟩,
      .pu ⟨some 30, .mv (.t 0), false, (some (25, true))⟩,
      .pu ⟨some 31, .mv (.t 1), false, (some (25, true))⟩,
      .pu ⟨some 32, .idxA 1 (.t 30) (.t 31), false, (some (25, true))⟩,
      .pu ⟨some 33, .load 1 false (.t 32), false, (some (25, true))⟩,
      .pu ⟨some 34, .bin .gtr (.t 29) (.t 33), false, (some (25, true))⟩,
      .pu ⟨some 35, .pick (.t 25) (.t 34) (.c (.lit false)), false, (some (21, false))⟩,
      .gh (.mrg 25 35 68685922304),
      .pu ⟨some 36, .pick (.t 21) (.c (.lit true)) (.t 35), false, none⟩,
      .gh (.mrg 21 36 137436856320),
      .pu ⟨some 6, .mv (.t 36), false, none⟩,
      .gh (.kp 64)] true) (
    .ret))
def r20 : List DRes := [.t 6]


/-- gansey/ganseylaw23.within -/
def l13_1 : DCode :=
             .seq (
              .seq (
               .reg [
                 .pu ⟨some 15, .mv (.t 6), false, none⟩,
                 .pu ⟨some 16, .mv (.t 0), false, none⟩,
                 .pu ⟨some 17, .len (.t 16), false, none⟩,
                 .pu ⟨some 18, .bin .lss (.t 15) (.t 17), false, none⟩,
                 .gh (.kp 262243)] false) (
               .cond 18 (
                .skip) (
                .exit 2))) (
              .seq (
               .block 3 (
                .seq (
                 .reg [
                   .pu ⟨some 21, .mv (.t 0), false, none⟩,
                   .pu ⟨some 22, .mv (.t 5), false, none⟩,
                   .pu ⟨some 23, .mv (.t 6), false, none⟩,
                   .ca ⟨some 24, .call 20 [(.t 21), (.t 22), (.t 23)], false, none⟩,
                   .pu ⟨some 25, .mv (.t 24), true, none⟩,
                   .pu ⟨some 26, .mv (.t 1), false, (some (25, true))⟩,
                   .pu ⟨some 27, .mv (.t 5), false, (some (25, true))⟩,
                   .pu ⟨some 28, .mv (.t 6), false, (some (25, true))⟩,
                   .ca ⟨some 29, .call 20 [(.t 26), (.t 27), (.t 28)], false, (some (25, true))⟩,
                   .pu ⟨some 30, .not (.t 29), false, (some (25, true))⟩,
                   .pu ⟨some 31, .pick (.t 25) (.t 30) (.c (.lit false)), false, none⟩,
                   .gh (.mrg 25 31 4261412864),
                   .gh (.kp 2147483747)] false) (
                 .cond 31 (
                  .seq (
                   .reg [
                     .pu ⟨some 4, .mv (.c (.lit false)), false, none⟩] false) (
                   .ret)) (
                  .skip)))) (
               .reg [
                 .pu ⟨some 19, .mv (.t 6), false, none⟩,
                 .pu ⟨some 20, .bin .add (.t 19) (.c (.int .i64 1)), false, none⟩,
                 .pu ⟨some 6, .mv (.t 20), false, none⟩,
                 .gh (.kp 99)] false))
def l13_0 : DCode :=
       .seq (
        .seq (
         .reg [
           .pu ⟨some 7, .mv (.t 5), false, none⟩,
           .pu ⟨some 8, .mv (.t 0), false, none⟩,
           .pu ⟨some 9, .len (.t 8), false, none⟩,
           .pu ⟨some 10, .bin .lss (.t 7) (.t 9), false, none⟩,
           .gh (.kp 1059)] false) (
         .cond 10 (
          .skip) (
          .exit 0))) (
        .seq (
         .block 1 (
          .seq (
           .reg [
             .pu ⟨some 13, .mv (.t 5), false, none⟩,
             .pu ⟨some 14, .bin .add (.t 13) (.c (.int .i64 1)), false, none⟩,
             .pu ⟨some 6, .mv (.t 14), false, none⟩,
             .gh (.kp 99)] false) (
           .block 2 (
            .loop l13_1)))) (
         .reg [
           .pu ⟨some 11, .mv (.t 5), false, none⟩,
           .pu ⟨some 12, .bin .add (.t 11) (.c (.int .i64 1)), false, none⟩,
           .pu ⟨some 5, .mv (.t 12), false, none⟩,
           .gh (.kp 35)] false))
def d13 : DCode :=
  .seq (
   .reg [
     .pu ⟨some 4, .mv (.c (.lit false)), false, none⟩] false) (
   .seq (
    .seq (
     .reg [
       .pu ⟨some 5, .mv (.c (.int .i64 0)), false, none⟩] false) (
     .block 0 (
      .loop l13_0))) (
    .seq (
     .reg [
       .pu ⟨some 4, .mv (.c (.lit true)), false, none⟩] false) (
     .ret)))
def r13 : List DRes := [.t 4]


/-- gansey/ganseylaw23.PermutationsLattice -/
def d3 : DCode :=
  .seq (
   .reg [
     .pu ⟨some 6, .mv (.c (.lit false)), false, none⟩] false) (
   .seq (
    .reg [
      .pu ⟨some 28, .mv (.t 0), false, none⟩,
      .ca ⟨some 29, .call 8 [(.t 28)], false, none⟩,
      .pu ⟨some 7, .mv (.t 29), false, none⟩,
      .gh (.kp 134)] false) (
    .seq (
     .reg [
       .pu ⟨some 30, .mv (.t 1), false, none⟩,
       .pu ⟨some 31, .mv (.t 7), false, none⟩,
       .pu ⟨some 32, .len (.t 31), false, none⟩,
       .ca ⟨some 33, .call 9 [(.t 30), (.t 32)], false, none⟩,
       .pu ⟨some 34, .mv (.t 2), false, none⟩,
       .pu ⟨some 35, .mv (.t 7), false, none⟩,
       .pu ⟨some 36, .len (.t 35), false, none⟩,
       .ca ⟨some 37, .call 9 [(.t 34), (.t 36)], false, none⟩,
       .pu ⟨some 8, .mv (.t 33), false, none⟩,
       .pu ⟨some 9, .mv (.t 37), false, none⟩,
       .gh (.kp 896)] false) (
     .seq (
      .reg [
        .pu ⟨some 39, .mv (.t 7), false, none⟩,
        .pu ⟨some 40, .mv (.t 8), false, none⟩,
        .ca ⟨some 41, .call 10 [(.t 39), (.t 40)], false, none⟩,
        .pu ⟨some 38, .mv (.t 41), false, none⟩,
        .pu ⟨some 42, .ext (.t 38) 0, false, none⟩,
        .pu ⟨some 43, .ext (.t 38) 1, false, none⟩,
        .pu ⟨some 10, .mv (.t 42), false, none⟩,
        .pu ⟨some 11, .mv (.t 43), false, none⟩,
        .gh (.kp 3968)] false) (
      .seq (
       .reg [
         .pu ⟨some 45, .mv (.t 7), false, none⟩,
         .pu ⟨some 46, .mv (.t 8), false, none⟩,
         .ca ⟨some 47, .call 11 [(.t 45), (.t 46)], false, none⟩,
         .pu ⟨some 44, .mv (.t 47), false, none⟩,
         .pu ⟨some 48, .ext (.t 44) 0, false, none⟩,
         .pu ⟨some 49, .ext (.t 44) 1, false, none⟩,
         .pu ⟨some 12, .mv (.t 48), false, none⟩,
         .pu ⟨some 13, .mv (.t 49), false, none⟩,
         .gh (.kp 16256)] false) (
       .seq (
        .seq (
         .reg [
           .pu ⟨some 50, .mv (.t 11), false, none⟩,
           .pu ⟨some 51, .bin .neq (.t 50) (.c (.int .i64 0)), false, none⟩,
           .pu ⟨some 52, .mv (.t 51), true, none⟩,
           .pu ⟨some 53, .mv (.t 13), false, (some (52, false))⟩,
           .pu ⟨some 54, .bin .neq (.t 53) (.c (.int .i64 0)), false, (some (52, false))⟩,
           .pu ⟨some 55, .pick (.t 52) (.c (.lit true)) (.t 54), false, none⟩,
           .gh (.mrg 52 55 67553994410557440),
           .pu ⟨some 56, .mv (.t 55), true, none⟩,
           .pu ⟨some 57, .mv (.t 10), false, (some (56, false))⟩,
           .ca ⟨some 58, .call 12 [(.t 57)], false, (some (56, false))⟩,
           .pu ⟨some 59, .bin .neq (.t 58) (.c (.int .i64 0)), false, (some (56, false))⟩,
           .pu ⟨some 60, .pick (.t 56) (.c (.lit true)) (.t 59), false, none⟩,
           .gh (.mrg 56 60 2233785415175766016),
           .pu ⟨some 61, .mv (.t 60), true, none⟩,
           .pu ⟨some 62, .mv (.t 12), false, (some (61, false))⟩,
           .ca ⟨some 63, .call 12 [(.t 62)], false, (some (61, false))⟩,
           .pu ⟨some 64, .bin .neq (.t 63) (.c (.int .i64 0)), false, (some (61, false))⟩,
           .pu ⟨some 65, .pick (.t 61) (.c (.lit true)) (.t 64), false, none⟩,
           .gh (.mrg 61 65 71481133285624512512),
           .pu ⟨some 66, .mv (.t 65), true, none⟩,
           .pu ⟨some 67, .mv (.t 10), false, (some (66, false))⟩,
           .pu ⟨some 68, .len (.t 67), false, (some (66, false))⟩,
           .pu ⟨some 69, .mv (.t 7), false, (some (66, false))⟩,
           .pu ⟨some 70, .len (.t 69), false, (some (66, false))⟩,
           .pu ⟨some 71, .bin .neq (.t 68) (.t 70), false, (some (66, false))⟩,
           .pu ⟨some 72, .pick (.t 66) (.c (.lit true)) (.t 71), false, none⟩,
           .gh (.mrg 66 72 9370945989444452220928),
           .pu ⟨some 73, .mv (.t 72), true, none⟩,
           .pu ⟨some 74, .mv (.t 12), false, (some (73, false))⟩,
           .pu ⟨some 75, .len (.t 74), false, (some (73, false))⟩,
           .pu ⟨some 76, .mv (.t 7), false, (some (73, false))⟩,
           .pu ⟨some 77, .len (.t 76), false, (some (73, false))⟩,
           .pu ⟨some 78, .bin .neq (.t 75) (.t 77), false, (some (73, false))⟩,
           .pu ⟨some 79, .pick (.t 73) (.c (.lit true)) (.t 78), false, none⟩,
           .gh (.mrg 73 79 1199481086648889884278784),
           .pu ⟨some 80, .mv (.t 79), true, none⟩,
           .pu ⟨some 81, .mv (.t 10), false, (some (80, false))⟩,
           .pu ⟨some 82, .cap (.t 81), false, (some (80, false))⟩,
           .pu ⟨some 83, .mv (.t 12), false, (some (80, false))⟩,
           .pu ⟨some 84, .cap (.t 83), false, (some (80, false))⟩,
           .pu ⟨some 85, .bin .add (.t 82) (.t 84), false, (some (80, false))⟩,
           .pu ⟨some 86, .mv (.t 7), false, (some (80, false))⟩,
           .pu ⟨some 87, .len (.t 86), false, (some (80, false))⟩,
           .pu ⟨some 88, .bin .mul (.c (.int .i64 2)) (.t 87), false, (some (80, false))⟩,
           .pu ⟨some 89, .bin .neq (.t 85) (.t 88), false, (some (80, false))⟩,
           .pu ⟨some 90, .pick (.t 80) (.c (.lit true)) (.t 89), false, none⟩,
           .gh (.mrg 80 90 2474671152751145920623542272),
           .gh (.kp 1237940039285380274899130240)] false) (
         .cond 90 (
          .seq (
           .reg [
             .pu ⟨some 6, .mv (.c (.lit false)), false, none⟩] false) (
           .ret)) (
          .skip))) (
        .seq (
         .seq (
          .reg [
            .pu ⟨some 91, .mv (.t 10), false, none⟩,
            .pu ⟨some 92, .mv (.t 7), false, none⟩,
            .ca ⟨some 93, .call 13 [(.t 91), (.t 92)], false, none⟩,
            .pu ⟨some 94, .not (.t 93), false, none⟩,
            .pu ⟨some 95, .mv (.t 94), true, none⟩,
            .pu ⟨some 96, .mv (.t 10), false, (some (95, false))⟩,
            .pu ⟨some 97, .mv (.t 8), false, (some (95, false))⟩,
            .ca ⟨some 98, .call 13 [(.t 96), (.t 97)], false, (some (95, false))⟩,
            .pu ⟨some 99, .not (.t 98), false, (some (95, false))⟩,
            .pu ⟨some 100, .pick (.t 95) (.c (.lit true)) (.t 99), false, none⟩,
            .gh (.mrg 95 100 2495687119199326634196634435584),
            .pu ⟨some 101, .mv (.t 100), true, none⟩,
            .pu ⟨some 102, .mv (.t 7), false, (some (101, false))⟩,
            .pu ⟨some 103, .mv (.t 12), false, (some (101, false))⟩,
            .ca ⟨some 104, .call 13 [(.t 102), (.t 103)], false, (some (101, false))⟩,
            .pu ⟨some 105, .not (.t 104), false, (some (101, false))⟩,
            .pu ⟨some 106, .pick (.t 101) (.c (.lit true)) (.t 105), false, none⟩,
            .gh (.mrg 101 106 159723975628756904588584603877376),
            .pu ⟨some 107, .mv (.t 106), true, none⟩,
            .pu ⟨some 108, .mv (.t 8), false, (some (107, false))⟩,
            .pu ⟨some 109, .mv (.t 12), false, (some (107, false))⟩,
            .ca ⟨some 110, .call 13 [(.t 108), (.t 109)], false, (some (107, false))⟩,
            .pu ⟨some 111, .not (.t 110), false, (some (107, false))⟩,
            .pu ⟨some 112, .pick (.t 107) (.c (.lit true)) (.t 111), false, none⟩,
            .gh (.mrg 107 112 10222334440240441893669414648152064),
            .gh (.kp 5192296858534827628530496329226112)] false) (
          .cond 112 (
           .seq (
            .reg [
              .pu ⟨some 6, .mv (.c (.lit false)), false, none⟩] false) (
            .ret)) (
           .skip))) (
         .seq (
          .reg [
            .pu ⟨some 114, .mv (.t 10), false, none⟩,
            .pu ⟨some 115, .mv (.t 9), false, none⟩,
            .ca ⟨some 116, .call 10 [(.t 114), (.t 115)], false, none⟩,
            .pu ⟨some 113, .mv (.t 116), false, none⟩,
            .pu ⟨some 117, .ext (.t 113) 0, false, none⟩,
            .pu ⟨some 118, .ext (.t 113) 1, false, none⟩,
            .pu ⟨some 14, .mv (.t 117), false, none⟩,
            .pu ⟨some 15, .mv (.t 118), false, none⟩,
            .gh (.kp 55168)] false) (
          .seq (
           .reg [
             .pu ⟨some 120, .mv (.t 12), false, none⟩,
             .pu ⟨some 121, .mv (.t 9), false, none⟩,
             .ca ⟨some 122, .call 11 [(.t 120), (.t 121)], false, none⟩,
             .pu ⟨some 119, .mv (.t 122), false, none⟩,
             .pu ⟨some 123, .ext (.t 119) 0, false, none⟩,
             .pu ⟨some 124, .ext (.t 119) 1, false, none⟩,
             .pu ⟨some 16, .mv (.t 123), false, none⟩,
             .pu ⟨some 17, .mv (.t 124), false, none⟩,
             .gh (.kp 251776)] false) (
           .seq (
            .reg [
              .pu ⟨some 126, .mv (.t 9), false, none⟩,
              .pu ⟨some 127, .mv (.t 8), false, none⟩,
              .ca ⟨some 128, .call 10 [(.t 126), (.t 127)], false, none⟩,
              .pu ⟨some 125, .mv (.t 128), false, none⟩,
              .pu ⟨some 129, .ext (.t 125) 0, false, none⟩,
              .pu ⟨some 130, .ext (.t 125) 1, false, none⟩,
              .pu ⟨some 18, .mv (.t 129), false, none⟩,
              .pu ⟨some 19, .mv (.t 130), false, none⟩,
              .gh (.kp 1038208)] false) (
            .seq (
             .seq (
              .reg [
                .pu ⟨some 131, .mv (.t 15), false, none⟩,
                .pu ⟨some 132, .bin .neq (.t 131) (.c (.int .i64 0)), false, none⟩,
                .pu ⟨some 133, .mv (.t 132), true, none⟩,
                .pu ⟨some 134, .mv (.t 17), false, (some (133, false))⟩,
                .pu ⟨some 135, .bin .neq (.t 134) (.c (.int .i64 0)), false, (some (133, false))⟩,
                .pu ⟨some 136, .pick (.t 133) (.c (.lit true)) (.t 135), false, none⟩,
                .gh (.mrg 133 136 163335536122050462462419811567248741498880),
                .pu ⟨some 137, .mv (.t 136), true, none⟩,
                .pu ⟨some 138, .mv (.t 19), false, (some (137, false))⟩,
                .pu ⟨some 139, .bin .neq (.t 138) (.c (.int .i64 0)), false, (some (137, false))⟩,
                .pu ⟨some 140, .pick (.t 137) (.c (.lit true)) (.t 139), false, none⟩,
                .gh (.mrg 137 140 2613368577952807399398716985075979863982080),
                .pu ⟨some 141, .mv (.t 140), true, none⟩,
                .pu ⟨some 142, .mv (.t 18), false, (some (141, false))⟩,
                .pu ⟨some 143, .len (.t 142), false, (some (141, false))⟩,
                .pu ⟨some 144, .mv (.t 7), false, (some (141, false))⟩,
                .pu ⟨some 145, .len (.t 144), false, (some (141, false))⟩,
                .pu ⟨some 146, .bin .neq (.t 143) (.t 145), false, (some (141, false))⟩,
                .pu ⟨some 147, .pick (.t 141) (.c (.lit true)) (.t 146), false, none⟩,
                .gh (.mrg 141 147 354024330026673642371879527578292738907439104),
                .gh (.kp 178405961588244985132285746181186892048193408)] false) (
              .cond 147 (
               .seq (
                .reg [
                  .pu ⟨some 6, .mv (.c (.lit false)), false, none⟩] false) (
                .ret)) (
               .skip))) (
             .seq (
              .seq (
               .reg [
                 .pu ⟨some 148, .mv (.t 9), false, none⟩,
                 .pu ⟨some 149, .mv (.t 7), false, none⟩,
                 .ca ⟨some 150, .call 13 [(.t 148), (.t 149)], false, none⟩,
                 .pu ⟨some 151, .mv (.t 150), true, none⟩,
                 .pu ⟨some 152, .mv (.t 9), false, (some (151, true))⟩,
                 .pu ⟨some 153, .mv (.t 8), false, (some (151, true))⟩,
                 .ca ⟨some 154, .call 13 [(.t 152), (.t 153)], false, (some (151, true))⟩,
                 .pu ⟨some 155, .pick (.t 151) (.t 154) (.c (.lit false)), false, none⟩,
                 .gh (.mrg 151 155 88489356947769512625613730105868698455730290688),
                 .pu ⟨some 156, .mv (.t 155), true, none⟩,
                 .pu ⟨some 157, .mv (.t 9), false, (some (156, true))⟩,
                 .pu ⟨some 158, .mv (.t 10), false, (some (156, true))⟩,
                 .ca ⟨some 159, .call 13 [(.t 157), (.t 158)], false, (some (156, true))⟩,
                 .pu ⟨some 160, .not (.t 159), false, (some (156, true))⟩,
                 .pu ⟨some 161, .pick (.t 156) (.t 160) (.c (.lit false)), false, none⟩,
                 .gh (.mrg 156 161 5754662696990430240427009028820364389895234387968),
                 .pu ⟨some 162, .mv (.t 161), true, none⟩,
                 .pu ⟨some 163, .mv (.t 7), false, (some (162, false))⟩,
                 .pu ⟨some 164, .mv (.t 9), false, (some (162, false))⟩,
                 .ca ⟨some 165, .call 13 [(.t 163), (.t 164)], false, (some (162, false))⟩,
                 .pu ⟨some 166, .mv (.t 165), true, (some (162, false))⟩,
                 .pu ⟨some 167, .mv (.t 8), false, (some (166, true))⟩,
                 .pu ⟨some 168, .mv (.t 9), false, (some (166, true))⟩,
                 .ca ⟨some 169, .call 13 [(.t 167), (.t 168)], false, (some (166, true))⟩,
                 .pu ⟨some 170, .pick (.t 166) (.t 169) (.c (.lit false)), false, (some (162, false))⟩,
                 .gh (.mrg 166 170 2899619248464511389716110708109105510997370165264384),
                 .pu ⟨some 171, .mv (.t 170), true, (some (162, false))⟩,
                 .pu ⟨some 172, .mv (.t 12), false, (some (171, true))⟩,
                 .pu ⟨some 173, .mv (.t 9), false, (some (171, true))⟩,
                 .ca ⟨some 174, .call 13 [(.t 172), (.t 173)], false, (some (171, true))⟩,
                 .pu ⟨some 175, .not (.t 174), false, (some (171, true))⟩,
                 .pu ⟨some 176, .pick (.t 171) (.t 175) (.c (.lit false)), false, (some (162, false))⟩,
                 .gh (.mrg 171 176 188568787254982418118312231856385700328087040424935424),
                 .pu ⟨some 177, .pick (.t 162) (.c (.lit true)) (.t 176), false, none⟩,
                 .gh (.mrg 162 177 383118039209922890977913942048246430772606156815728640),
                 .pu ⟨some 178, .mv (.t 177), true, none⟩,
                 .pu ⟨some 179, .mv (.t 18), false, (some (178, false))⟩,
                 .pu ⟨some 180, .mv (.t 7), false, (some (178, false))⟩,
                 .ca ⟨some 181, .call 13 [(.t 179), (.t 180)], false, (some (178, false))⟩,
                 .pu ⟨some 182, .mv (.t 181), true, (some (178, false))⟩,
                 .pu ⟨some 183, .mv (.t 18), false, (some (182, true))⟩,
                 .pu ⟨some 184, .mv (.t 10), false, (some (182, true))⟩,
                 .ca ⟨some 185, .call 13 [(.t 183), (.t 184)], false, (some (182, true))⟩,
                 .pu ⟨some 186, .not (.t 185), false, (some (182, true))⟩,
                 .pu ⟨some 187, .pick (.t 182) (.t 186) (.c (.lit false)), false, (some (178, false))⟩,
                 .gh (.mrg 182 187 386188876298203992306303450841877914271922258790267748352),
                 .pu ⟨some 188, .pick (.t 178) (.c (.lit true)) (.t 187), false, none⟩,
                 .gh (.mrg 178 188 784254593038118623264884091144170724716889745777458413568),
                 .gh (.kp 392318858461667547739736838950479151006397215279002244480)] false) (
               .cond 188 (
                .seq (
                 .reg [
                   .pu ⟨some 6, .mv (.c (.lit false)), false, none⟩] false) (
                 .ret)) (
                .skip))) (
              .seq (
               .reg [
                 .pu ⟨some 190, .mv (.t 8), false, none⟩,
                 .pu ⟨some 191, .mv (.t 7), false, none⟩,
                 .ca ⟨some 192, .call 10 [(.t 190), (.t 191)], false, none⟩,
                 .pu ⟨some 189, .mv (.t 192), false, none⟩,
                 .pu ⟨some 193, .ext (.t 189) 0, false, none⟩,
                 .pu ⟨some 194, .ext (.t 189) 1, false, none⟩,
                 .pu ⟨some 20, .mv (.t 193), false, none⟩,
                 .pu ⟨some 21, .mv (.t 194), false, none⟩,
                 .gh (.kp 1136000)] false) (
               .seq (
                .reg [
                  .pu ⟨some 196, .mv (.t 8), false, none⟩,
                  .pu ⟨some 197, .mv (.t 7), false, none⟩,
                  .ca ⟨some 198, .call 11 [(.t 196), (.t 197)], false, none⟩,
                  .pu ⟨some 195, .mv (.t 198), false, none⟩,
                  .pu ⟨some 199, .ext (.t 195) 0, false, none⟩,
                  .pu ⟨some 200, .ext (.t 195) 1, false, none⟩,
                  .pu ⟨some 22, .mv (.t 199), false, none⟩,
                  .pu ⟨some 23, .mv (.t 200), false, none⟩,
                  .gh (.kp 5330048)] false) (
                .seq (
                 .reg [
                   .pu ⟨some 202, .mv (.t 7), false, none⟩,
                   .pu ⟨some 203, .mv (.t 10), false, none⟩,
                   .ca ⟨some 204, .call 11 [(.t 202), (.t 203)], false, none⟩,
                   .pu ⟨some 201, .mv (.t 204), false, none⟩,
                   .pu ⟨some 205, .ext (.t 201) 0, false, none⟩,
                   .pu ⟨some 206, .ext (.t 201) 1, false, none⟩,
                   .pu ⟨some 24, .mv (.t 205), false, none⟩,
                   .pu ⟨some 25, .mv (.t 206), false, none⟩,
                   .gh (.kp 22107264)] false) (
                 .seq (
                  .reg [
                    .pu ⟨some 208, .mv (.t 7), false, none⟩,
                    .pu ⟨some 209, .mv (.t 12), false, none⟩,
                    .ca ⟨some 210, .call 10 [(.t 208), (.t 209)], false, none⟩,
                    .pu ⟨some 207, .mv (.t 210), false, none⟩,
                    .pu ⟨some 211, .ext (.t 207) 0, false, none⟩,
                    .pu ⟨some 212, .ext (.t 207) 1, false, none⟩,
                    .pu ⟨some 26, .mv (.t 211), false, none⟩,
                    .pu ⟨some 27, .mv (.t 212), false, none⟩,
                    .gh (.kp 89216128)] false) (
                  .seq (
                   .reg [
                     .pu ⟨some 213, .mv (.t 14), false, none⟩,
                     .pu ⟨some 214, .mv (.t 10), false, none⟩,
                     .ca ⟨some 215, .call 13 [(.t 213), (.t 214)], false, none⟩,
                     .pu ⟨some 216, .mv (.t 215), true, none⟩,
                     .pu ⟨some 217, .mv (.t 12), false, (some (216, true))⟩,
                     .pu ⟨some 218, .mv (.t 16), false, (some (216, true))⟩,
                     .ca ⟨some 219, .call 13 [(.t 217), (.t 218)], false, (some (216, true))⟩,
                     .pu ⟨some 220, .pick (.t 216) (.t 219) (.c (.lit false)), false, none⟩,
                     .gh (.mrg 216 220 3264681041725272787635458858193783401885747957417022448883640303616),
                     .pu ⟨some 221, .mv (.t 220), true, none⟩,
                     .pu ⟨some 222, .mv (.t 20), false, (some (221, true))⟩,
                     .pu ⟨some 223, .mv (.t 10), false, (some (221, true))⟩,
                     .ca ⟨some 224, .call 14 [(.t 222), (.t 223)], false, (some (221, true))⟩,
                     .pu ⟨some 225, .pick (.t 221) (.t 224) (.c (.lit false)), false, none⟩,
                     .gh (.mrg 221 225 104469793335208729204334683462201068860343934637344718364276489715712),
                     .pu ⟨some 226, .mv (.t 225), true, none⟩,
                     .pu ⟨some 227, .mv (.t 22), false, (some (226, true))⟩,
                     .pu ⟨some 228, .mv (.t 12), false, (some (226, true))⟩,
                     .ca ⟨some 229, .call 14 [(.t 227), (.t 228)], false, (some (226, true))⟩,
                     .pu ⟨some 230, .pick (.t 226) (.t 229) (.c (.lit false)), false, none⟩,
                     .gh (.mrg 226 230 3343033386726679334538709870790434203531005908395030987656847670902784),
                     .pu ⟨some 231, .mv (.t 230), true, none⟩,
                     .pu ⟨some 232, .mv (.t 24), false, (some (231, true))⟩,
                     .pu ⟨some 233, .mv (.t 7), false, (some (231, true))⟩,
                     .ca ⟨some 234, .call 14 [(.t 232), (.t 233)], false, (some (231, true))⟩,
                     .pu ⟨some 235, .pick (.t 231) (.t 234) (.c (.lit false)), false, none⟩,
                     .gh (.mrg 231 235 106977068375253738705238715865293894512992189068640991605019125468889088),
                     .pu ⟨some 236, .mv (.t 235), true, none⟩,
                     .pu ⟨some 237, .mv (.t 26), false, (some (236, true))⟩,
                     .pu ⟨some 238, .mv (.t 7), false, (some (236, true))⟩,
                     .ca ⟨some 239, .call 14 [(.t 237), (.t 238)], false, (some (236, true))⟩,
                     .pu ⟨some 240, .pick (.t 236) (.t 239) (.c (.lit false)), false, none⟩,
                     .gh (.mrg 236 240 3423266188008119638567638907689404624415750050196511731360612015004450816),
                     .pu ⟨some 241, .mv (.t 240), true, none⟩,
                     .ca ⟨some 242, .call 15 [], false, (some (241, true))⟩,
                     .pu ⟨some 243, .pick (.t 241) (.t 242) (.c (.lit false)), false, none⟩,
                     .gh (.mrg 241 243 24735858906897380614166165010400859221584774556258665413702486818096676864),
                     .pu ⟨some 6, .mv (.t 243), false, none⟩,
                     .gh (.kp 64)] false) (
                   .ret)))))))))))))))))
def r3 : List DRes := [.t 6]


/-- gansey/permutations.pairs -/
def d36 : DCode :=
  .seq (
   .reg [
     .ef ⟨some 1, .box (.t 0), false, none⟩,
     .gh (.frzB 1 (.int .i64)),
     .pu ⟨some 2, .mv (.c .nilF), false, none⟩] false) (
   .seq (
    .reg [
      .pu ⟨some 3, .mkF 51 [] [(.t 1)], false, none⟩,
      .pu ⟨some 2, .mv (.t 3), false, none⟩] false) (
    .ret))
def r36 : List DRes := [.t 2]


/-- gansey/permutations.pairs$1 -/
def l51_1 : DCode :=
             .seq (
              .seq (
               .reg [
                 .pu ⟨some 11, .mv (.t 4), false, none⟩,
                 .pu ⟨some 12, .load 1 false (.t 1), false, none⟩,
                 .pu ⟨some 13, .bin .lss (.t 11) (.t 12), false, none⟩,
                 .gh (.kp 8315)] false) (
               .cond 13 (
                .skip) (
                .exit 2))) (
              .seq (
               .block 3 (
                .seq (
                 .reg [
                   .pu ⟨some 16, .mv (.t 0), false, none⟩,
                   .pu ⟨some 17, .mv (.t 3), false, none⟩,
                   .pu ⟨some 18, .mv (.t 4), false, none⟩,
                   .ca ⟨some 19, .callV (.t 16) [(.t 17), (.t 18)], false, none⟩,
                   .pu ⟨some 20, .not (.t 19), false, none⟩,
                   .gh (.kp 1048699)] false) (
                 .cond 20 (
                  .ret) (
                  .skip)))) (
               .reg [
                 .pu ⟨some 14, .mv (.t 4), false, none⟩,
                 .pu ⟨some 15, .bin .add (.t 14) (.c (.int .i64 1)), false, none⟩,
                 .pu ⟨some 4, .mv (.t 15), false, none⟩,
                 .gh (.kp 123)] false))
def l51_0 : DCode :=
     .seq (
      .reg [
        .pu ⟨some 7, .bin .lss (.t 6) (.t 5), false, none⟩] false) (
      .seq (
       .cond 7 (
        .skip) (
        .exit 0)) (
       .seq (
        .block 1 (
         .seq (
          .reg [
            .pu ⟨some 8, .mv (.t 6), false, none⟩,
            .pu ⟨some 3, .mv (.t 8), false, none⟩] false) (
          .seq (
           .reg [
             .pu ⟨some 9, .mv (.t 3), false, none⟩,
             .pu ⟨some 10, .bin .add (.t 9) (.c (.int .i64 1)), false, none⟩,
             .pu ⟨some 4, .mv (.t 10), false, none⟩,
             .gh (.kp 123)] false) (
           .block 2 (
            .loop l51_1))))) (
        .reg [
          .pu ⟨some 21, .bin .add (.t 6) (.c (.int .i64 1)), false, none⟩,
          .pu ⟨some 6, .mv (.t 21), false, none⟩] false)))
def d51 : DCode :=
  .seq (
   .reg [
     .pu ⟨some 5, .load 1 false (.t 1), false, none⟩,
     .pu ⟨some 6, .mv (.c (.int .i64 0)), false, none⟩] false) (
   .block 0 (
    .loop l51_0))
def r51 : List DRes := []


/-- slices.Clip[[]gansey/permutations.Pair,gansey/permutations.Pair] -/
def d37 : DCode :=
  .seq (
   .reg [
     .pu ⟨some 2, .mv (.c .nils), false, none⟩] false) (
   .seq (
    .reg [
      .pu ⟨some 3, .mv (.t 0), false, none⟩,
      .pu ⟨some 4, .mv (.t 0), false, none⟩,
      .pu ⟨some 5, .len (.t 4), false, none⟩,
      .pu ⟨some 6, .mv (.t 0), false, none⟩,
      .pu ⟨some 7, .len (.t 6), false, none⟩,
      .pu ⟨some 8, .slc 2 (.t 3) none (some (.t 5)) (some (.t 7)), false, none⟩,
      .pu ⟨some 2, .mv (.t 8), false, none⟩,
      .gh (.kp 4)] false) (
    .gh (.ty 2 (.pair (.int .u8) (.pair (.int .u8) .unit))) (    .ret)))
def r37 : List DRes := [.t 2]


/-- gansey/permutations.Inversions -/
def d16 : DCode :=
  .seq (
   .reg [
     .ef ⟨some 1, .box (.t 0), false, none⟩,
     .pu ⟨some 2, .mv (.c .nils), false, none⟩,
     .pu ⟨some 3, .mv (.c (.int .i64 0)), false, none⟩,
     .gh (.kp 2)] false) (
   .seq (
    .seq (
     .reg [
       .pu ⟨some 8, .load 1 false (.t 1), false, none⟩,
       .ca ⟨some 9, .call 12 [(.t 8)], false, none⟩,
       .pu ⟨some 4, .mv (.t 9), false, none⟩,
       .gh (.kp 18)] false) (
     .seq (
      .reg [
        .pu ⟨some 10, .mv (.t 4), false, none⟩,
        .pu ⟨some 11, .bin .neq (.t 10) (.c (.int .i64 0)), false, none⟩] false) (
      .cond 11 (
       .seq (
        .reg [
          .pu ⟨some 12, .mv (.t 4), false, none⟩,
          .pu ⟨some 2, .mv (.c .nils), false, none⟩,
          .pu ⟨some 3, .mv (.t 12), false, none⟩,
          .gh (.kp 12)] false) (
        .gh (.ty 2 (.pair (.int .u8) (.pair (.int .u8) .unit))) (        .ret))) (
       .skip)))) (
    .seq (
     .reg [
       .ef ⟨some 5, .alloc [.nils], false, none⟩] false) (
     .seq (
      .seq (
       .reg [
         .pu ⟨some 13, .load 1 false (.t 1), false, none⟩,
         .pu ⟨some 14, .len (.t 13), false, none⟩,
         .ca ⟨some 15, .call 36 [(.t 14)], false, none⟩,
         .gh (.kp 32802)] false) (
       .block 0 (
        .rfn (.t 15) [16, 17] (
         .seq (
          .reg [
            .pu ⟨some 6, .mv (.t 16), false, none⟩] false) (
          .reg [
            .pu ⟨some 7, .mv (.t 17), false, none⟩] false)) (
         .block 1 (
          .seq (
           .reg [
             .pu ⟨some 18, .load 1 false (.t 1), false, none⟩,
             .pu ⟨some 19, .mv (.t 6), false, none⟩,
             .pu ⟨some 20, .idxA 1 (.t 18) (.t 19), false, none⟩,
             .pu ⟨some 21, .load 1 false (.t 20), false, none⟩,
             .pu ⟨some 22, .load 1 false (.t 1), false, none⟩,
             .pu ⟨some 23, .mv (.t 7), false, none⟩,
             .pu ⟨some 24, .idxA 1 (.t 22) (.t 23), false, none⟩,
             .pu ⟨some 25, .load 1 false (.t 24), false, none⟩,
             .pu ⟨some 26, .bin .gtr (.t 21) (.t 25), false, none⟩,
             .gh (.kp 67109088)] true) (
           .cond 26 (
            .reg [
              .pu ⟨some 27, .load 1 false (.t 5), false, none⟩,
              .pu ⟨some 28, .mv (.t 6), false, none⟩,
              .pu ⟨some 29, .bin .add (.t 28) (.c (.int .i64 1)), false, none⟩,
              .pu ⟨some 30, .conv .u8 (.t 29), false, none⟩,
              .pu ⟨some 31, .mv (.t 7), false, none⟩,
              .pu ⟨some 32, .bin .add (.t 31) (.c (.int .i64 1)), false, none⟩,
              .pu ⟨some 33, .conv .u8 (.t 32), false, none⟩,
              .pu ⟨some 34, .build [(.int .u8 0), (.int .u8 0)] [(0, 1, (.t 30)), (1, 1, (.t 33))], false, none⟩,
              .ef ⟨some 35, .bldS (.pair (.int .u8) (.pair (.int .u8) .unit)) 1 [(.t 34)], false, none⟩,
              .ef ⟨some 36, .app (.pair (.int .u8) (.pair (.int .u8) .unit)) 2 false (.t 27) (.t 35), false, none⟩,
              .ef ⟨none, .store 1 (.t 5) (.t 36), false, none⟩,
              .gh (.kp 0)] false) (
            .skip))))))) (
      .seq (
       .reg [
         .pu ⟨some 37, .load 1 false (.t 5), false, none⟩,
         .gh (.frz 5),
         .ca ⟨some 38, .call 37 [(.t 37)], false, none⟩,
         .pu ⟨some 2, .mv (.t 38), false, none⟩,
         .pu ⟨some 3, .mv (.c (.int .i64 0)), false, none⟩,
         .gh (.kp 12)] false) (
       .gh (.ty 2 (.pair (.int .u8) (.pair (.int .u8) .unit))) (       .ret))))))
def r16 : List DRes := [.t 2, .t 3]


/-- gansey/permutations.Length -/
def d17 : DCode :=
  .seq (
   .reg [
     .pu ⟨some 2, .mv (.c (.int .i64 0)), false, none⟩,
     .pu ⟨some 3, .mv (.c (.int .i64 0)), false, none⟩] false) (
   .seq (
    .reg [
      .pu ⟨some 7, .mv (.t 0), false, none⟩,
      .ca ⟨some 8, .call 16 [(.t 7)], false, none⟩,
      .pu ⟨some 6, .mv (.t 8), false, none⟩,
      .pu ⟨some 9, .ext (.t 6) 0, false, none⟩,
      .pu ⟨some 10, .ext (.t 6) 1, false, none⟩,
      .pu ⟨some 4, .mv (.t 9), false, none⟩,
      .pu ⟨some 5, .mv (.t 10), false, none⟩,
      .gh (.kp 48)] false) (
    .seq (
     .reg [
       .pu ⟨some 11, .mv (.t 4), false, none⟩,
       .pu ⟨some 12, .len (.t 11), false, none⟩,
       .pu ⟨some 13, .mv (.t 5), false, none⟩,
       .pu ⟨some 2, .mv (.t 12), false, none⟩,
       .pu ⟨some 3, .mv (.t 13), false, none⟩,
       .gh (.kp 12)] false) (
     .ret)))
def r17 : List DRes := [.t 2, .t 3]


/-- gansey/permutations.falls -/
def l38_0 : DCode :=
        .seq (
         .seq (
          .reg [
            .pu ⟨some 5, .mv (.t 4), false, none⟩,
            .pu ⟨some 6, .mv (.t 0), false, none⟩,
            .pu ⟨some 7, .len (.t 6), false, none⟩,
            .pu ⟨some 8, .bin .lss (.t 5) (.t 7), false, none⟩,
            .gh (.kp 281)] false) (
          .cond 8 (
           .skip) (
           .exit 0))) (
         .seq (
          .block 1 (
           .seq (
            .reg [
              .pu ⟨some 11, .mv (.t 0), false, none⟩,
              .pu ⟨some 12, .mv (.t 4), false, none⟩,
              .pu ⟨some 13, .bin .sub (.t 12) (.c (.int .i64 1)), false, none⟩,
              .pu ⟨some 14, .idxA 1 (.t 11) (.t 13), false, none⟩,
              .pu ⟨some 15, .load 1 false (.t 14), false, none⟩,
              .pu ⟨some 16, .mv (.t 0), false, none⟩,
              .pu ⟨some 17, .mv (.t 4), false, none⟩,
              .pu ⟨some 18, .idxA 1 (.t 16) (.t 17), false, none⟩,
              .pu ⟨some 19, .load 1 false (.t 18), false, none⟩,
              .pu ⟨some 20, .bin .gtr (.t 15) (.t 19), false, none⟩,
              .gh (.kp 1048601)] true) (
            .cond 20 (
             .reg [
               .pu ⟨some 21, .mv (.t 3), false, none⟩,
               .pu ⟨some 22, .mv (.t 4), false, none⟩,
               .ef ⟨some 23, .bldS (.int .i64) 1 [(.t 22)], false, none⟩,
               .ef ⟨some 24, .app (.int .i64) 8 false (.t 21) (.t 23), false, none⟩,
               .pu ⟨some 3, .mv (.t 24), false, none⟩,
               .gh (.kp 25)] false) (
             .skip)))) (
          .reg [
            .pu ⟨some 9, .mv (.t 4), false, none⟩,
            .pu ⟨some 10, .bin .add (.t 9) (.c (.int .i64 1)), false, none⟩,
            .pu ⟨some 4, .mv (.t 10), false, none⟩,
            .gh (.kp 25)] false))
def d38 : DCode :=
  .seq (
   .reg [
     .pu ⟨some 2, .mv (.c .nils), false, none⟩] false) (
   .seq (
    .reg [
      .pu ⟨some 3, .mv (.c .nils), false, none⟩,
      .gh (.own 3 (.int .i64))] false) (
    .seq (
     .seq (
      .reg [
        .pu ⟨some 4, .mv (.c (.int .i64 1)), false, none⟩] false) (
      .block 0 (
       .loop l38_0))) (
     .seq (
      .reg [
        .pu ⟨some 25, .mv (.t 3), false, none⟩,
        .gh (.frz 3),
        .ca ⟨some 26, .call 45 [(.t 25)], false, none⟩,
        .pu ⟨some 2, .mv (.t 26), false, none⟩,
        .gh (.kp 4)] false) (
      .gh (.ty 2 (.int .i64)) (      .ret)))))
def r38 : List DRes := [.t 2]


/-- slices.Clip[[]int,int] -/
def d45 : DCode :=
  .seq (
   .reg [
     .pu ⟨some 2, .mv (.c .nils), false, none⟩] false) (
   .seq (
    .reg [
      .pu ⟨some 3, .mv (.t 0), false, none⟩,
      .pu ⟨some 4, .mv (.t 0), false, none⟩,
      .pu ⟨some 5, .len (.t 4), false, none⟩,
      .pu ⟨some 6, .mv (.t 0), false, none⟩,
      .pu ⟨some 7, .len (.t 6), false, none⟩,
      .pu ⟨some 8, .slc 1 (.t 3) none (some (.t 5)) (some (.t 7)), false, none⟩,
      .pu ⟨some 2, .mv (.t 8), false, none⟩,
      .gh (.kp 4)] false) (
    .gh (.ty 2 (.int .i64)) (    .ret)))
def r45 : List DRes := [.t 2]


/-- gansey/permutations.Starts -/
def d18 : DCode :=
  .seq (
   .reg [
     .pu ⟨some 2, .mv (.c .nils), false, none⟩,
     .pu ⟨some 3, .mv (.c (.int .i64 0)), false, none⟩] false) (
   .seq (
    .seq (
     .reg [
       .pu ⟨some 5, .mv (.t 0), false, none⟩,
       .ca ⟨some 6, .call 12 [(.t 5)], false, none⟩,
       .pu ⟨some 4, .mv (.t 6), false, none⟩,
       .gh (.kp 17)] false) (
     .seq (
      .reg [
        .pu ⟨some 7, .mv (.t 4), false, none⟩,
        .pu ⟨some 8, .bin .neq (.t 7) (.c (.int .i64 0)), false, none⟩] false) (
      .cond 8 (
       .seq (
        .reg [
          .pu ⟨some 9, .mv (.t 4), false, none⟩,
          .pu ⟨some 2, .mv (.c .nils), false, none⟩,
          .pu ⟨some 3, .mv (.t 9), false, none⟩,
          .gh (.kp 12)] false) (
        .gh (.ty 2 (.int .i64)) (        .ret))) (
       .skip)))) (
    .seq (
     .reg [
       .pu ⟨some 10, .mv (.t 0), false, none⟩,
       .ca ⟨some 11, .call 38 [(.t 10)], false, none⟩,
       .pu ⟨some 2, .mv (.t 11), false, none⟩,
       .pu ⟨some 3, .mv (.c (.int .i64 0)), false, none⟩,
       .gh (.kp 12)] false) (
     .gh (.ty 2 (.int .i64)) (     .ret))))
def r18 : List DRes := [.t 2, .t 3]


/-- gansey/permutations.Ends -/
def d19 : DCode :=
  .seq (
   .reg [
     .pu ⟨some 2, .mv (.c .nils), false, none⟩,
     .pu ⟨some 3, .mv (.c (.int .i64 0)), false, none⟩] false) (
   .seq (
    .seq (
     .reg [
       .pu ⟨some 5, .mv (.t 0), false, none⟩,
       .ca ⟨some 6, .call 12 [(.t 5)], false, none⟩,
       .pu ⟨some 4, .mv (.t 6), false, none⟩,
       .gh (.kp 17)] false) (
     .seq (
      .reg [
        .pu ⟨some 7, .mv (.t 4), false, none⟩,
        .pu ⟨some 8, .bin .neq (.t 7) (.c (.int .i64 0)), false, none⟩] false) (
      .cond 8 (
       .seq (
        .reg [
          .pu ⟨some 9, .mv (.t 4), false, none⟩,
          .pu ⟨some 2, .mv (.c .nils), false, none⟩,
          .pu ⟨some 3, .mv (.t 9), false, none⟩,
          .gh (.kp 12)] false) (
        .gh (.ty 2 (.int .i64)) (        .ret))) (
       .skip)))) (
    .seq (
     .reg [
       .pu ⟨some 10, .mv (.t 0), false, none⟩,
       .ca ⟨some 11, .call 39 [(.t 10)], false, none⟩,
       .ca ⟨some 12, .call 38 [(.t 11)], false, none⟩,
       .pu ⟨some 2, .mv (.t 12), false, none⟩,
       .pu ⟨some 3, .mv (.c (.int .i64 0)), false, none⟩,
       .gh (.kp 12)] false) (
     .gh (.ty 2 (.int .i64)) (     .ret))))
def r19 : List DRes := [.t 2, .t 3]


/-- gansey/ganseylaw23.list -/
def l21_0 : DCode :=
        .seq (
         .seq (
          .reg [
            .pu ⟨some 18, .mv (.t 5), false, none⟩,
            .pu ⟨some 19, .mv (.t 0), false, none⟩,
            .pu ⟨some 20, .len (.t 19), false, none⟩,
            .pu ⟨some 21, .bin .lss (.t 18) (.t 20), false, none⟩,
            .gh (.kp 2097187)] false) (
          .cond 21 (
           .skip) (
           .exit 0))) (
         .seq (
          .block 1 (
           .seq (
            .reg [
              .pu ⟨some 24, .mv (.t 0), false, none⟩,
              .pu ⟨some 25, .mv (.t 5), false, none⟩,
              .pu ⟨some 26, .idxA 1 (.t 24) (.t 25), false, none⟩,
              .pu ⟨some 27, .load 1 false (.t 26), false, none⟩,
              .pu ⟨some 28, .mv (.t 1), false, none⟩,
              .pu ⟨some 29, .mv (.t 5), false, none⟩,
              .pu ⟨some 30, .idxA 1 (.t 28) (.t 29), false, none⟩,
              .pu ⟨some 31, .load 1 false (.t 30), false, none⟩,
              .pu ⟨some 32, .bin .neq (.t 27) (.t 31), false, none⟩,
              .gh (.kp 4294967331)] true) (
            .cond 32 (
             .seq (
              .reg [
                .pu ⟨some 4, .mv (.c (.lit false)), false, none⟩] false) (
              .ret)) (
             .skip)))) (
          .reg [
            .pu ⟨some 22, .mv (.t 5), false, none⟩,
            .pu ⟨some 23, .bin .add (.t 22) (.c (.int .i64 1)), false, none⟩,
            .pu ⟨some 5, .mv (.t 23), false, none⟩,
            .gh (.kp 35)] false))
def d21 : DCode :=
  .seq (
   .reg [
     .pu ⟨some 4, .mv (.c (.lit false)), false, none⟩] false) (
   .seq (
    .seq (
     .reg [
       .pu ⟨some 6, .mv (.t 0), false, none⟩,
       .pu ⟨some 7, .len (.t 6), false, none⟩,
       .pu ⟨some 8, .mv (.t 1), false, none⟩,
       .pu ⟨some 9, .len (.t 8), false, none⟩,
       .pu ⟨some 10, .bin .neq (.t 7) (.t 9), false, none⟩,
       .pu ⟨some 11, .mv (.t 10), true, none⟩,
       .pu ⟨some 12, .mv (.t 0), false, (some (11, false))⟩,
       .pu ⟨some 13, .cap (.t 12), false, (some (11, false))⟩,
       .pu ⟨some 14, .mv (.t 0), false, (some (11, false))⟩,
       .pu ⟨some 15, .len (.t 14), false, (some (11, false))⟩,
       .pu ⟨some 16, .bin .neq (.t 13) (.t 15), false, (some (11, false))⟩,
       .pu ⟨some 17, .pick (.t 11) (.c (.lit true)) (.t 16), false, none⟩,
       .gh (.mrg 11 17 260096),
       .gh (.kp 131075)] false) (
     .cond 17 (
      .seq (
       .reg [
         .pu ⟨some 4, .mv (.c (.lit false)), false, none⟩] false) (
       .ret)) (
      .skip))) (
    .seq (
     .seq (
      .reg [
        .pu ⟨some 5, .mv (.c (.int .i64 0)), false, none⟩] false) (
      .block 0 (
       .loop l21_0))) (
     .seq (
      .reg [
        .pu ⟨some 4, .mv (.c (.lit true)), false, none⟩] false) (
      .ret))))
def r21 : List DRes := [.t 4]


/-- gansey/permutations.Below -/
def d22 : DCode :=
  .seq (
   .reg [
     .ef ⟨some 2, .box (.t 0), false, none⟩,
     .ef ⟨some 3, .box (.t 1), false, none⟩,
     .ef ⟨some 4, .alloc [(.lit false)], false, none⟩,
     .ef ⟨some 5, .alloc [(.int .i64 0)], false, none⟩,
     .gh (.kp 60)] false) (
   .seq (
    .seq (
     .reg [
       .pu ⟨some 9, .load 1 false (.t 2), false, none⟩,
       .pu ⟨some 10, .load 1 false (.t 3), false, none⟩,
       .ca ⟨some 11, .call 30 [(.t 9), (.t 10)], false, none⟩,
       .pu ⟨some 6, .mv (.t 11), false, none⟩,
       .gh (.kp 124)] false) (
     .seq (
      .reg [
        .pu ⟨some 12, .mv (.t 6), false, none⟩,
        .pu ⟨some 13, .bin .neq (.t 12) (.c (.int .i64 0)), false, none⟩] false) (
      .cond 13 (
       .seq (
        .reg [
          .pu ⟨some 14, .mv (.t 6), false, none⟩,
          .ef ⟨none, .store 1 (.t 4) (.c (.lit false)), false, none⟩,
          .ef ⟨none, .store 1 (.t 5) (.t 14), false, none⟩,
          .gh (.kp 48)] false) (
        .ret)) (
       .skip)))) (
    .seq (
     .seq (
      .reg [
        .pu ⟨some 15, .load 1 false (.t 2), false, none⟩,
        .pu ⟨some 16, .len (.t 15), false, none⟩,
        .ca ⟨some 17, .call 36 [(.t 16)], false, none⟩,
        .gh (.kp 131132)] false) (
      .block 0 (
       .rfn (.t 17) [18, 19] (
        .seq (
         .reg [
           .pu ⟨some 7, .mv (.t 18), false, none⟩] false) (
         .reg [
           .pu ⟨some 8, .mv (.t 19), false, none⟩] false)) (
        .block 1 (
         .seq (
          .reg [
            .pu ⟨some 20, .load 1 false (.t 2), false, none⟩,
            .pu ⟨some 21, .mv (.t 7), false, none⟩,
            .pu ⟨some 22, .idxA 1 (.t 20) (.t 21), false, none⟩,
            .pu ⟨some 23, .load 1 false (.t 22), false, none⟩,
            .pu ⟨some 24, .load 1 false (.t 2), false, none⟩,
            .pu ⟨some 25, .mv (.t 8), false, none⟩,
            .pu ⟨some 26, .idxA 1 (.t 24) (.t 25), false, none⟩,
            .pu ⟨some 27, .load 1 false (.t 26), false, none⟩,
            .pu ⟨some 28, .bin .gtr (.t 23) (.t 27), false, none⟩,
            .pu ⟨some 29, .mv (.t 28), true, none⟩,
            .pu ⟨some 30, .load 1 false (.t 3), false, (some (29, true))⟩,
            .pu ⟨some 31, .mv (.t 7), false, (some (29, true))⟩,
            .pu ⟨some 32, .idxA 1 (.t 30) (.t 31), false, (some (29, true))⟩,
            .pu ⟨some 33, .load 1 false (.t 32), false, (some (29, true))⟩,
            .pu ⟨some 34, .load 1 false (.t 3), false, (some (29, true))⟩,
            .pu ⟨some 35, .mv (.t 8), false, (some (29, true))⟩,
            .pu ⟨some 36, .idxA 1 (.t 34) (.t 35), false, (some (29, true))⟩,
            .pu ⟨some 37, .load 1 false (.t 36), false, (some (29, true))⟩,
            .pu ⟨some 38, .bin .lss (.t 33) (.t 37), false, (some (29, true))⟩,
            .pu ⟨some 39, .pick (.t 29) (.t 38) (.c (.lit false)), false, none⟩,
            .gh (.mrg 29 39 1098974756864),
            .gh (.kp 549755813936)] true) (
          .cond 39 (
           .seq (
            .reg [
              .ef ⟨none, .store 1 (.t 4) (.c (.lit false)), false, none⟩,
              .ef ⟨none, .store 1 (.t 5) (.c (.int .i64 0)), false, none⟩] false) (
            .ret)) (
           .skip))))))) (
     .seq (
      .reg [
        .ef ⟨none, .store 1 (.t 4) (.c (.lit true)), false, none⟩,
        .ef ⟨none, .store 1 (.t 5) (.c (.int .i64 0)), false, none⟩] false) (
      .ret))))
def r22 : List DRes := [.c 4 1 false, .c 5 1 false]


/-- gansey/permutations.Rest -/
def d23 : DCode :=
  .seq (
   .reg [
     .pu ⟨some 4, .mv (.c .nils), false, none⟩,
     .pu ⟨some 5, .mv (.c (.int .i64 0)), false, none⟩] false) (
   .seq (
    .reg [
      .pu ⟨some 9, .mv (.t 0), false, none⟩,
      .pu ⟨some 10, .mv (.t 1), false, none⟩,
      .ca ⟨some 11, .call 22 [(.t 9), (.t 10)], false, none⟩,
      .pu ⟨some 8, .mv (.t 11), false, none⟩,
      .pu ⟨some 12, .ext (.t 8) 0, false, none⟩,
      .pu ⟨some 13, .ext (.t 8) 1, false, none⟩,
      .pu ⟨some 6, .mv (.t 12), false, none⟩,
      .pu ⟨some 7, .mv (.t 13), false, none⟩,
      .gh (.kp 195)] false) (
    .seq (
     .block 0 (
      .seq (
       .reg [
         .pu ⟨some 15, .mv (.t 7), false, none⟩,
         .pu ⟨some 16, .bin .neq (.t 15) (.c (.int .i64 0)), false, none⟩,
         .pu ⟨some 14, .mv (.t 16), false, none⟩,
         .gh (.kp 16579)] false) (
       .cond 14 (
        .seq (
         .reg [
           .pu ⟨some 17, .mv (.t 7), false, none⟩,
           .pu ⟨some 4, .mv (.c .nils), false, none⟩,
           .pu ⟨some 5, .mv (.t 17), false, none⟩,
           .gh (.kp 48)] false) (
         .gh (.ty 4 (.int .u8)) (         .ret))) (
        .seq (
         .reg [
           .pu ⟨some 19, .mv (.t 6), false, none⟩,
           .pu ⟨some 20, .not (.t 19), false, none⟩,
           .pu ⟨some 18, .mv (.t 20), false, none⟩,
           .gh (.kp 262147)] false) (
         .cond 18 (
          .seq (
           .reg [
             .pu ⟨some 4, .mv (.c .nils), false, none⟩,
             .pu ⟨some 5, .mv (.c (.int .i64 7)), false, none⟩] false) (
           .gh (.ty 4 (.int .u8)) (           .ret))) (
          .skip)))))) (
     .seq (
      .reg [
        .pu ⟨some 21, .mv (.t 0), false, none⟩,
        .ca ⟨some 22, .call 39 [(.t 21)], false, none⟩,
        .pu ⟨some 23, .mv (.t 1), false, none⟩,
        .ca ⟨some 24, .call 40 [(.t 22), (.t 23)], false, none⟩,
        .pu ⟨some 4, .mv (.t 24), false, none⟩,
        .pu ⟨some 5, .mv (.c (.int .i64 0)), false, none⟩,
        .gh (.kp 48)] false) (
      .gh (.ty 4 (.int .u8)) (      .ret)))))
def r23 : List DRes := [.t 4, .t 5]


/-- gansey/ganseylaw23.PermutationsBelow -/
def d5 : DCode :=
  .seq (
   .reg [
     .pu ⟨some 6, .mv (.c (.lit false)), false, none⟩] false) (
   .seq (
    .reg [
      .pu ⟨some 23, .mv (.t 1), false, none⟩,
      .ca ⟨some 24, .call 8 [(.t 23)], false, none⟩,
      .pu ⟨some 7, .mv (.t 24), false, none⟩,
      .gh (.kp 133)] false) (
    .seq (
     .reg [
       .pu ⟨some 25, .mv (.t 0), false, none⟩,
       .pu ⟨some 26, .mv (.t 7), false, none⟩,
       .pu ⟨some 27, .len (.t 26), false, none⟩,
       .ca ⟨some 28, .call 9 [(.t 25), (.t 27)], false, none⟩,
       .pu ⟨some 8, .mv (.t 28), false, none⟩,
       .gh (.kp 388)] false) (
     .seq (
      .seq (
       .reg [
         .pu ⟨some 29, .mv (.t 2), false, none⟩] false) (
       .cond 29 (
        .seq (
         .reg [
           .pu ⟨some 31, .mv (.t 8), false, none⟩,
           .pu ⟨some 32, .mv (.t 7), false, none⟩,
           .ca ⟨some 33, .call 10 [(.t 31), (.t 32)], false, none⟩,
           .pu ⟨some 30, .mv (.t 33), false, none⟩,
           .pu ⟨some 34, .ext (.t 30) 0, false, none⟩,
           .pu ⟨some 35, .ext (.t 30) 1, false, none⟩,
           .pu ⟨some 9, .mv (.t 34), false, none⟩,
           .pu ⟨some 10, .mv (.t 35), false, none⟩,
           .gh (.kp 1668)] false) (
         .seq (
          .seq (
           .reg [
             .pu ⟨some 36, .mv (.t 10), false, none⟩,
             .pu ⟨some 37, .bin .neq (.t 36) (.c (.int .i64 0)), false, none⟩,
             .pu ⟨some 38, .mv (.t 37), true, none⟩,
             .pu ⟨some 39, .mv (.t 9), false, (some (38, false))⟩,
             .pu ⟨some 40, .len (.t 39), false, (some (38, false))⟩,
             .pu ⟨some 41, .mv (.t 7), false, (some (38, false))⟩,
             .pu ⟨some 42, .len (.t 41), false, (some (38, false))⟩,
             .pu ⟨some 43, .bin .neq (.t 40) (.t 42), false, (some (38, false))⟩,
             .pu ⟨some 44, .pick (.t 38) (.c (.lit true)) (.t 43), false, none⟩,
             .gh (.mrg 38 44 34909494181888),
             .gh (.kp 17592186045060)] false) (
           .cond 44 (
            .seq (
             .reg [
               .pu ⟨some 6, .mv (.c (.lit false)), false, none⟩] false) (
             .ret)) (
            .skip))) (
          .reg [
            .pu ⟨some 45, .mv (.t 9), false, none⟩,
            .pu ⟨some 8, .mv (.t 45), false, none⟩] false))) (
        .skip))) (
      .seq (
       .reg [
         .pu ⟨some 47, .mv (.t 8), false, none⟩,
         .pu ⟨some 48, .mv (.t 7), false, none⟩,
         .ca ⟨some 49, .call 22 [(.t 47), (.t 48)], false, none⟩,
         .pu ⟨some 46, .mv (.t 49), false, none⟩,
         .pu ⟨some 50, .ext (.t 46) 0, false, none⟩,
         .pu ⟨some 51, .ext (.t 46) 1, false, none⟩,
         .pu ⟨some 11, .mv (.t 50), false, none⟩,
         .pu ⟨some 12, .mv (.t 51), false, none⟩,
         .gh (.kp 6532)] false) (
       .seq (
        .reg [
          .pu ⟨some 53, .mv (.t 8), false, none⟩,
          .pu ⟨some 54, .mv (.t 7), false, none⟩,
          .ca ⟨some 55, .call 23 [(.t 53), (.t 54)], false, none⟩,
          .pu ⟨some 52, .mv (.t 55), false, none⟩,
          .pu ⟨some 56, .ext (.t 52) 0, false, none⟩,
          .pu ⟨some 57, .ext (.t 52) 1, false, none⟩,
          .pu ⟨some 13, .mv (.t 56), false, none⟩,
          .pu ⟨some 14, .mv (.t 57), false, none⟩,
          .gh (.kp 31108)] false) (
        .seq (
         .seq (
          .reg [
            .pu ⟨some 58, .mv (.t 12), false, none⟩,
            .pu ⟨some 59, .bin .neq (.t 58) (.c (.int .i64 0)), false, none⟩,
            .pu ⟨some 60, .mv (.t 59), true, none⟩,
            .pu ⟨some 61, .mv (.t 11), false, (some (60, false))⟩,
            .pu ⟨some 62, .mv (.t 8), false, (some (60, false))⟩,
            .pu ⟨some 63, .mv (.t 7), false, (some (60, false))⟩,
            .ca ⟨some 64, .call 13 [(.t 62), (.t 63)], false, (some (60, false))⟩,
            .pu ⟨some 65, .binB true (.t 61) (.t 64), false, (some (60, false))⟩,
            .pu ⟨some 66, .pick (.t 60) (.c (.lit true)) (.t 65), false, none⟩,
            .gh (.mrg 60 66 146421031085069565952),
            .pu ⟨some 67, .mv (.t 66), true, none⟩,
            .pu ⟨some 68, .mv (.t 11), false, (some (67, false))⟩,
            .pu ⟨some 69, .mv (.t 14), false, (some (67, false))⟩,
            .pu ⟨some 70, .bin .eql (.t 69) (.c (.int .i64 0)), false, (some (67, false))⟩,
            .pu ⟨some 71, .binB true (.t 68) (.t 70), false, (some (67, false))⟩,
            .pu ⟨some 72, .pick (.t 67) (.c (.lit true)) (.t 71), false, none⟩,
            .gh (.mrg 67 72 9297159013149614014464),
            .gh (.kp 4722366482869645240708)] false) (
          .cond 72 (
           .seq (
            .reg [
              .pu ⟨some 6, .mv (.c (.lit false)), false, none⟩] false) (
            .ret)) (
           .skip))) (
         .seq (
          .seq (
           .reg [
             .pu ⟨some 73, .mv (.t 11), false, none⟩,
             .pu ⟨some 74, .not (.t 73), false, none⟩] false) (
           .cond 74 (
            .seq (
             .reg [
               .pu ⟨some 75, .mv (.t 14), false, none⟩,
               .pu ⟨some 76, .bin .eql (.t 75) (.c (.int .i64 7)), false, none⟩,
               .pu ⟨some 77, .mv (.t 76), true, none⟩,
               .pu ⟨some 78, .mv (.t 13), false, (some (77, true))⟩,
               .pu ⟨some 79, .len (.t 78), false, (some (77, true))⟩,
               .pu ⟨some 80, .bin .eql (.t 79) (.c (.int .i64 0)), false, (some (77, true))⟩,
               .pu ⟨some 81, .pick (.t 77) (.t 80) (.c (.lit false)), false, none⟩,
               .gh (.mrg 77 81 4684587551006688051986432),
               .pu ⟨some 82, .mv (.t 81), true, none⟩,
               .pu ⟨some 83, .mv (.t 2), false, (some (82, true))⟩,
               .pu ⟨some 84, .not (.t 83), false, (some (82, true))⟩,
               .pu ⟨some 85, .pick (.t 82) (.t 84) (.c (.lit false)), false, none⟩,
               .gh (.mrg 82 85 72535549176877750482370560),
               .pu ⟨some 86, .mv (.t 85), true, none⟩,
               .ca ⟨some 87, .call 15 [], false, (some (86, true))⟩,
               .pu ⟨some 88, .pick (.t 86) (.t 87) (.c (.lit false)), false, none⟩,
               .gh (.mrg 86 88 541598767187353870268366848),
               .pu ⟨some 6, .mv (.t 88), false, none⟩,
               .gh (.kp 64)] false) (
             .ret)) (
            .skip))) (
          .seq (
           .reg [
             .pu ⟨some 90, .mv (.t 8), false, none⟩,
             .pu ⟨some 91, .mv (.t 13), false, none⟩,
             .ca ⟨some 92, .call 24 [(.t 90), (.t 91)], false, none⟩,
             .pu ⟨some 89, .mv (.t 92), false, none⟩,
             .pu ⟨some 93, .ext (.t 89) 0, false, none⟩,
             .pu ⟨some 94, .ext (.t 89) 1, false, none⟩,
             .pu ⟨some 15, .mv (.t 93), false, none⟩,
             .pu ⟨some 16, .mv (.t 94), false, none⟩,
             .gh (.kp 106880)] false) (
           .seq (
            .reg [
              .pu ⟨some 96, .mv (.t 8), false, none⟩,
              .ca ⟨some 97, .call 17 [(.t 96)], false, none⟩,
              .pu ⟨some 95, .mv (.t 97), false, none⟩,
              .pu ⟨some 98, .ext (.t 95) 0, false, none⟩,
              .pu ⟨some 99, .ext (.t 95) 1, false, none⟩,
              .pu ⟨some 17, .mv (.t 98), false, none⟩,
              .pu ⟨some 18, .mv (.t 99), false, none⟩,
              .gh (.kp 237696)] false) (
            .seq (
             .reg [
               .pu ⟨some 101, .mv (.t 13), false, none⟩,
               .ca ⟨some 102, .call 17 [(.t 101)], false, none⟩,
               .pu ⟨some 100, .mv (.t 102), false, none⟩,
               .pu ⟨some 103, .ext (.t 100) 0, false, none⟩,
               .pu ⟨some 104, .ext (.t 100) 1, false, none⟩,
               .pu ⟨some 19, .mv (.t 103), false, none⟩,
               .pu ⟨some 20, .mv (.t 104), false, none⟩,
               .gh (.kp 761984)] false) (
             .seq (
              .reg [
                .pu ⟨some 106, .mv (.t 7), false, none⟩,
                .ca ⟨some 107, .call 17 [(.t 106)], false, none⟩,
                .pu ⟨some 105, .mv (.t 107), false, none⟩,
                .pu ⟨some 108, .ext (.t 105) 0, false, none⟩,
                .pu ⟨some 109, .ext (.t 105) 1, false, none⟩,
                .pu ⟨some 21, .mv (.t 108), false, none⟩,
                .pu ⟨some 22, .mv (.t 109), false, none⟩,
                .gh (.kp 2859136)] false) (
              .seq (
               .reg [
                 .pu ⟨some 110, .mv (.t 16), false, none⟩,
                 .pu ⟨some 111, .bin .eql (.t 110) (.c (.int .i64 0)), false, none⟩,
                 .pu ⟨some 112, .mv (.t 111), true, none⟩,
                 .pu ⟨some 113, .mv (.t 15), false, (some (112, true))⟩,
                 .pu ⟨some 114, .mv (.t 7), false, (some (112, true))⟩,
                 .ca ⟨some 115, .call 14 [(.t 113), (.t 114)], false, (some (112, true))⟩,
                 .pu ⟨some 116, .pick (.t 112) (.t 115) (.c (.lit false)), false, none⟩,
                 .gh (.mrg 112 116 160961202614579656484445386205822976),
                 .pu ⟨some 117, .mv (.t 116), true, none⟩,
                 .pu ⟨some 118, .mv (.t 13), false, (some (117, true))⟩,
                 .pu ⟨some 119, .cap (.t 118), false, (some (117, true))⟩,
                 .pu ⟨some 120, .mv (.t 13), false, (some (117, true))⟩,
                 .pu ⟨some 121, .len (.t 120), false, (some (117, true))⟩,
                 .pu ⟨some 122, .bin .eql (.t 119) (.t 121), false, (some (117, true))⟩,
                 .pu ⟨some 123, .pick (.t 117) (.t 122) (.c (.lit false)), false, none⟩,
                 .gh (.mrg 117 123 21101494433085539482347937081950470144),
                 .pu ⟨some 124, .mv (.t 123), true, none⟩,
                 .pu ⟨some 125, .mv (.t 17), false, (some (124, true))⟩,
                 .pu ⟨some 126, .mv (.t 19), false, (some (124, true))⟩,
                 .pu ⟨some 127, .bin .add (.t 125) (.t 126), false, (some (124, true))⟩,
                 .pu ⟨some 128, .mv (.t 21), false, (some (124, true))⟩,
                 .pu ⟨some 129, .bin .eql (.t 127) (.t 128), false, (some (124, true))⟩,
                 .pu ⟨some 130, .pick (.t 124) (.t 129) (.c (.lit false)), false, none⟩,
                 .gh (.mrg 124 130 2700991287434949053740535946489660178432),
                 .pu ⟨some 131, .mv (.t 130), true, none⟩,
                 .ca ⟨some 132, .call 15 [], false, (some (131, true))⟩,
                 .pu ⟨some 133, .pick (.t 131) (.t 132) (.c (.lit false)), false, none⟩,
                 .gh (.mrg 131 133 19055812547572553953948978016179019841536),
                 .pu ⟨some 6, .mv (.t 133), false, none⟩,
                 .gh (.kp 64)] false) (
               .ret)))))))))))))
def r5 : List DRes := [.t 6]


/-- slices.Clone[[]uint8,uint8] -/
def d44 : DCode :=
  .seq (
   .reg [
     .pu ⟨some 2, .mv (.c .nils), false, none⟩] false) (
   .seq (
    .seq (
     .reg [
       .pu ⟨some 3, .mv (.t 0), false, none⟩,
       .ef ⟨some 4, .nilq false (.t 3), false, none⟩] false) (
     .cond 4 (
      .seq (
       .reg [
         .pu ⟨some 2, .mv (.c .nils), false, none⟩] false) (
       .gh (.ty 2 (.int .u8)) (       .ret))) (
      .skip))) (
    .seq (
     .reg [
       .ef ⟨some 5, .bldS (.int .u8) 0 [], false, none⟩,
       .pu ⟨some 6, .mv (.t 0), false, none⟩,
       .ef ⟨some 7, .app (.int .u8) 1 false (.t 5) (.t 6), false, none⟩,
       .pu ⟨some 2, .mv (.t 7), false, none⟩,
       .gh (.kp 4)] false) (
     .gh (.ty 2 (.int .u8)) (     .ret))))
def r44 : List DRes := [.t 2]


/-- gansey/permutations.Word -/
def l28_0 : DCode :=
          .seq (
           .seq (
            .reg [
              .pu ⟨some 15, .mv (.t 7), false, none⟩,
              .pu ⟨some 16, .bin .add (.t 15) (.c (.int .i64 1)), false, none⟩,
              .pu ⟨some 17, .mv (.t 6), false, none⟩,
              .pu ⟨some 18, .len (.t 17), false, none⟩,
              .pu ⟨some 19, .bin .lss (.t 16) (.t 18), false, none⟩,
              .gh (.kp 524512)] false) (
            .cond 19 (
             .skip) (
             .exit 0))) (
           .seq (
            .block 1 (
             .seq (
              .reg [
                .pu ⟨some 22, .mv (.t 6), false, none⟩,
                .pu ⟨some 23, .mv (.t 7), false, none⟩,
                .pu ⟨some 24, .idxA 1 (.t 22) (.t 23), false, none⟩,
                .pu ⟨some 25, .load 1 false (.t 24), false, none⟩,
                .pu ⟨some 26, .mv (.t 6), false, none⟩,
                .pu ⟨some 27, .mv (.t 7), false, none⟩,
                .pu ⟨some 28, .bin .add (.t 27) (.c (.int .i64 1)), false, none⟩,
                .pu ⟨some 29, .idxA 1 (.t 26) (.t 28), false, none⟩,
                .pu ⟨some 30, .load 1 false (.t 29), false, none⟩,
                .pu ⟨some 31, .bin .gtr (.t 25) (.t 30), false, none⟩,
                .gh (.kp 2147483872)] true) (
              .cond 31 (
               .seq (
                .reg [
                  .pu ⟨some 32, .mv (.t 6), false, none⟩,
                  .pu ⟨some 33, .mv (.t 7), false, none⟩,
                  .pu ⟨some 34, .mv (.t 6), false, none⟩,
                  .pu ⟨some 35, .mv (.t 7), false, none⟩,
                  .pu ⟨some 36, .bin .add (.t 35) (.c (.int .i64 1)), false, none⟩,
                  .pu ⟨some 37, .mv (.t 6), false, none⟩,
                  .pu ⟨some 38, .mv (.t 7), false, none⟩,
                  .pu ⟨some 39, .bin .add (.t 38) (.c (.int .i64 1)), false, none⟩,
                  .pu ⟨some 40, .idxA 1 (.t 37) (.t 39), false, none⟩,
                  .pu ⟨some 41, .load 1 false (.t 40), false, none⟩,
                  .pu ⟨some 42, .mv (.t 6), false, none⟩,
                  .pu ⟨some 43, .mv (.t 7), false, none⟩,
                  .pu ⟨some 44, .idxA 1 (.t 42) (.t 43), false, none⟩,
                  .pu ⟨some 45, .load 1 false (.t 44), false, none⟩,
                  .pu ⟨some 46, .idxA 1 (.t 32) (.t 33), false, none⟩,
                  .ef ⟨none, .store 1 (.t 46) (.t 41), false, none⟩,
                  .pu ⟨some 47, .idxA 1 (.t 34) (.t 36), false, none⟩,
                  .ef ⟨none, .store 1 (.t 47) (.t 45), false, none⟩,
                  .gh (.kp 224)] true) (
                .seq (
                 .reg [
                   .pu ⟨some 48, .mv (.t 5), false, none⟩,
                   .pu ⟨some 49, .mv (.t 7), false, none⟩,
                   .pu ⟨some 50, .bin .add (.t 49) (.c (.int .i64 1)), false, none⟩,
                   .ef ⟨some 51, .bldS (.int .i64) 1 [(.t 50)], false, none⟩,
                   .ef ⟨some 52, .app (.int .i64) 8 false (.t 48) (.t 51), false, none⟩,
                   .pu ⟨some 5, .mv (.t 52), false, none⟩,
                   .gh (.kp 224)] false) (
                 .reg [
                   .pu ⟨some 53, .mv (.t 7), false, none⟩,
                   .pu ⟨some 54, .bin .sub (.t 53) (.c (.int .i64 2)), false, none⟩,
                   .pu ⟨some 55, .mm true [(.t 54), (.c (.int .i64 (-1)))], false, none⟩,
                   .pu ⟨some 7, .mv (.t 55), false, none⟩,
                   .gh (.kp 224)] false))) (
               .skip)))) (
            .reg [
              .pu ⟨some 20, .mv (.t 7), false, none⟩,
              .pu ⟨some 21, .bin .add (.t 20) (.c (.int .i64 1)), false, none⟩,
              .pu ⟨some 7, .mv (.t 21), false, none⟩,
              .gh (.kp 224)] false))
def d28 : DCode :=
  .seq (
   .reg [
     .pu ⟨some 2, .mv (.c .nils), false, none⟩,
     .pu ⟨some 3, .mv (.c (.int .i64 0)), false, none⟩] false) (
   .seq (
    .seq (
     .reg [
       .pu ⟨some 8, .mv (.t 0), false, none⟩,
       .ca ⟨some 9, .call 12 [(.t 8)], false, none⟩,
       .pu ⟨some 4, .mv (.t 9), false, none⟩,
       .gh (.kp 17)] false) (
     .seq (
      .reg [
        .pu ⟨some 10, .mv (.t 4), false, none⟩,
        .pu ⟨some 11, .bin .neq (.t 10) (.c (.int .i64 0)), false, none⟩] false) (
      .cond 11 (
       .seq (
        .reg [
          .pu ⟨some 12, .mv (.t 4), false, none⟩,
          .pu ⟨some 2, .mv (.c .nils), false, none⟩,
          .pu ⟨some 3, .mv (.t 12), false, none⟩,
          .gh (.kp 12)] false) (
        .gh (.ty 2 (.int .i64)) (        .ret))) (
       .skip)))) (
    .seq (
     .reg [
       .pu ⟨some 5, .mv (.c .nils), false, none⟩,
       .gh (.own 5 (.int .i64))] false) (
     .seq (
      .reg [
        .pu ⟨some 13, .mv (.t 0), false, none⟩,
        .ca ⟨some 14, .call 44 [(.t 13)], false, none⟩,
        .pu ⟨some 6, .mv (.t 14), false, none⟩,
        .gh (.kp 96)] false) (
      .seq (
       .seq (
        .reg [
          .pu ⟨some 7, .mv (.c (.int .i64 0)), false, none⟩] false) (
        .block 0 (
         .loop l28_0))) (
       .seq (
        .reg [
          .pu ⟨some 56, .mv (.t 5), false, none⟩,
          .gh (.frz 3),
          .ca ⟨some 57, .call 45 [(.t 56)], false, none⟩,
          .pu ⟨some 2, .mv (.t 57), false, none⟩,
          .pu ⟨some 3, .mv (.c (.int .i64 0)), false, none⟩,
          .gh (.kp 12)] false) (
        .gh (.ty 2 (.int .i64)) (        .ret)))))))
def r28 : List DRes := [.t 2, .t 3]


/-- gansey/ganseylaw23.PermutationsWord -/
def l7_1 : DCode :=
                   .seq (
                    .seq (
                     .reg [
                       .pu ⟨some 57, .mv (.t 10), false, none⟩,
                       .pu ⟨some 58, .bin .add (.t 57) (.c (.int .i64 1)), false, none⟩,
                       .pu ⟨some 59, .mv (.t 8), false, none⟩,
                       .pu ⟨some 60, .len (.t 59), false, none⟩,
                       .pu ⟨some 61, .bin .lss (.t 58) (.t 60), false, none⟩,
                       .pu ⟨some 62, .mv (.t 61), true, none⟩,
                       .pu ⟨some 63, .mv (.t 8), false, (some (62, true))⟩,
                       .pu ⟨some 64, .mv (.t 10), false, (some (62, true))⟩,
                       .pu ⟨some 65, .idxA 1 (.t 63) (.t 64), false, (some (62, true))⟩,
                       .pu ⟨some 66, .load 1 false (.t 65), false, (some (62, true))⟩,
                       .pu ⟨some 67, .mv (.t 8), false, (some (62, true))⟩,
                       .pu ⟨some 68, .mv (.t 10), false, (some (62, true))⟩,
                       .pu ⟨some 69, .bin .add (.t 68) (.c (.int .i64 1)), false, (some (62, true))⟩,
                       .pu ⟨some 70, .idxA 1 (.t 67) (.t 69), false, (some (62, true))⟩,
                       .pu ⟨some 71, .load 1 false (.t 70), false, (some (62, true))⟩,
                       .pu ⟨some 72, .bin .lss (.t 66) (.t 71), false, (some (62, true))⟩,
                       .pu ⟨some 73, .pick (.t 62) (.t 72) (.c (.lit false)), false, none⟩,
                       .gh (.mrg 62 73 18884854245460153466880),
                       .gh (.kp 9444732965739290429272)] true) (
                     .cond 73 (
                      .skip) (
                      .exit 2))) (
                    .block 3 (
                     .reg [
                       .pu ⟨some 74, .mv (.t 10), false, none⟩,
                       .pu ⟨some 75, .bin .add (.t 74) (.c (.int .i64 1)), false, none⟩,
                       .pu ⟨some 10, .mv (.t 75), false, none⟩,
                       .gh (.kp 1880)] false))
def l7_0 : DCode :=
            .seq (
             .seq (
              .reg [
                .pu ⟨some 51, .mv (.t 9), false, none⟩,
                .pu ⟨some 52, .mv (.t 4), false, none⟩,
                .pu ⟨some 53, .len (.t 52), false, none⟩,
                .pu ⟨some 54, .bin .lss (.t 51) (.t 53), false, none⟩,
                .gh (.kp 18014398509482840)] false) (
              .cond 54 (
               .skip) (
               .exit 0))) (
             .seq (
              .block 1 (
               .seq (
                .reg [
                  .pu ⟨some 10, .mv (.c (.int .i64 0)), false, none⟩] false) (
                .seq (
                 .block 2 (
                  .loop l7_1)) (
                 .seq (
                  .seq (
                   .reg [
                     .pu ⟨some 76, .mv (.t 10), false, none⟩,
                     .pu ⟨some 77, .bin .add (.t 76) (.c (.int .i64 1)), false, none⟩,
                     .pu ⟨some 78, .mv (.t 8), false, none⟩,
                     .pu ⟨some 79, .len (.t 78), false, none⟩,
                     .pu ⟨some 80, .bin .geq (.t 77) (.t 79), false, none⟩,
                     .pu ⟨some 81, .mv (.t 80), true, none⟩,
                     .pu ⟨some 82, .mv (.t 4), false, (some (81, false))⟩,
                     .pu ⟨some 83, .mv (.t 9), false, (some (81, false))⟩,
                     .pu ⟨some 84, .idxA 1 (.t 82) (.t 83), false, (some (81, false))⟩,
                     .pu ⟨some 85, .load 1 false (.t 84), false, (some (81, false))⟩,
                     .pu ⟨some 86, .mv (.t 10), false, (some (81, false))⟩,
                     .pu ⟨some 87, .bin .add (.t 86) (.c (.int .i64 1)), false, (some (81, false))⟩,
                     .pu ⟨some 88, .bin .neq (.t 85) (.t 87), false, (some (81, false))⟩,
                     .pu ⟨some 89, .pick (.t 81) (.c (.lit true)) (.t 88), false, none⟩,
                     .gh (.mrg 81 89 1235522187646151016549711872),
                     .gh (.kp 618970019642690137449563992)] false) (
                   .cond 89 (
                    .seq (
                     .reg [
                       .pu ⟨some 2, .mv (.c (.lit false)), false, none⟩] false) (
                     .ret)) (
                    .skip))) (
                  .reg [
                    .pu ⟨some 90, .mv (.t 8), false, none⟩,
                    .pu ⟨some 91, .mv (.t 10), false, none⟩,
                    .pu ⟨some 92, .mv (.t 8), false, none⟩,
                    .pu ⟨some 93, .mv (.t 10), false, none⟩,
                    .pu ⟨some 94, .bin .add (.t 93) (.c (.int .i64 1)), false, none⟩,
                    .pu ⟨some 95, .mv (.t 8), false, none⟩,
                    .pu ⟨some 96, .mv (.t 10), false, none⟩,
                    .pu ⟨some 97, .bin .add (.t 96) (.c (.int .i64 1)), false, none⟩,
                    .pu ⟨some 98, .idxA 1 (.t 95) (.t 97), false, none⟩,
                    .pu ⟨some 99, .load 1 false (.t 98), false, none⟩,
                    .pu ⟨some 100, .mv (.t 8), false, none⟩,
                    .pu ⟨some 101, .mv (.t 10), false, none⟩,
                    .pu ⟨some 102, .idxA 1 (.t 100) (.t 101), false, none⟩,
                    .pu ⟨some 103, .load 1 false (.t 102), false, none⟩,
                    .pu ⟨some 104, .idxA 1 (.t 90) (.t 91), false, none⟩,
                    .ef ⟨none, .store 1 (.t 104) (.t 99), false, none⟩,
                    .pu ⟨some 105, .idxA 1 (.t 92) (.t 94), false, none⟩,
                    .ef ⟨none, .store 1 (.t 105) (.t 103), false, none⟩,
                    .gh (.kp 856)] true))))) (
              .reg [
                .pu ⟨some 55, .mv (.t 9), false, none⟩,
                .pu ⟨some 56, .bin .add (.t 55) (.c (.int .i64 1)), false, none⟩,
                .pu ⟨some 9, .mv (.t 56), false, none⟩,
                .gh (.kp 856)] false))
def l7_2 : DCode :=
             .seq (
              .seq (
               .reg [
                 .pu ⟨some 106, .mv (.t 11), false, none⟩,
                 .pu ⟨some 107, .mv (.t 8), false, none⟩,
                 .pu ⟨some 108, .len (.t 107), false, none⟩,
                 .pu ⟨some 109, .bin .lss (.t 106) (.t 108), false, none⟩,
                 .gh (.kp 649037107316853453566312041154888)] false) (
               .cond 109 (
                .skip) (
                .exit 4))) (
              .seq (
               .block 5 (
                .seq (
                 .reg [
                   .pu ⟨some 112, .mv (.t 8), false, none⟩,
                   .pu ⟨some 113, .mv (.t 11), false, none⟩,
                   .pu ⟨some 114, .idxA 1 (.t 112) (.t 113), false, none⟩,
                   .pu ⟨some 115, .load 1 false (.t 114), false, none⟩,
                   .pu ⟨some 116, .conv .i64 (.t 115), false, none⟩,
                   .pu ⟨some 117, .mv (.t 11), false, none⟩,
                   .pu ⟨some 118, .bin .add (.t 117) (.c (.int .i64 1)), false, none⟩,
                   .pu ⟨some 119, .bin .neq (.t 116) (.t 118), false, none⟩,
                   .gh (.kp 664613997892457936451903530140174664)] false) (
                 .cond 119 (
                  .seq (
                   .reg [
                     .pu ⟨some 2, .mv (.c (.lit false)), false, none⟩] false) (
                   .ret)) (
                  .skip)))) (
               .reg [
                 .pu ⟨some 110, .mv (.t 11), false, none⟩,
                 .pu ⟨some 111, .bin .add (.t 110) (.c (.int .i64 1)), false, none⟩,
                 .pu ⟨some 11, .mv (.t 111), false, none⟩,
                 .gh (.kp 2376)] false))
def d7 : DCode :=
  .seq (
   .reg [
     .pu ⟨some 2, .mv (.c (.lit false)), false, none⟩] false) (
   .seq (
    .reg [
      .pu ⟨some 18, .mv (.t 0), false, none⟩,
      .ca ⟨some 19, .call 8 [(.t 18)], false, none⟩,
      .pu ⟨some 3, .mv (.t 19), false, none⟩,
      .gh (.kp 8)] false) (
    .seq (
     .reg [
       .pu ⟨some 21, .mv (.t 3), false, none⟩,
       .ca ⟨some 22, .call 28 [(.t 21)], false, none⟩,
       .pu ⟨some 20, .mv (.t 22), false, none⟩,
       .pu ⟨some 23, .ext (.t 20) 0, false, none⟩,
       .pu ⟨some 24, .ext (.t 20) 1, false, none⟩,
       .pu ⟨some 4, .mv (.t 23), false, none⟩,
       .pu ⟨some 5, .mv (.t 24), false, none⟩,
       .gh (.kp 56)] false) (
     .seq (
      .reg [
        .pu ⟨some 26, .mv (.t 3), false, none⟩,
        .ca ⟨some 27, .call 17 [(.t 26)], false, none⟩,
        .pu ⟨some 25, .mv (.t 27), false, none⟩,
        .pu ⟨some 28, .ext (.t 25) 0, false, none⟩,
        .pu ⟨some 29, .ext (.t 25) 1, false, none⟩,
        .pu ⟨some 6, .mv (.t 28), false, none⟩,
        .pu ⟨some 7, .mv (.t 29), false, none⟩,
        .gh (.kp 248)] false) (
      .seq (
       .seq (
        .reg [
          .pu ⟨some 30, .mv (.t 5), false, none⟩,
          .pu ⟨some 31, .bin .neq (.t 30) (.c (.int .i64 0)), false, none⟩,
          .pu ⟨some 32, .mv (.t 31), true, none⟩,
          .pu ⟨some 33, .mv (.t 7), false, (some (32, false))⟩,
          .pu ⟨some 34, .bin .neq (.t 33) (.c (.int .i64 0)), false, (some (32, false))⟩,
          .pu ⟨some 35, .pick (.t 32) (.c (.lit true)) (.t 34), false, none⟩,
          .gh (.mrg 32 35 64424509440),
          .pu ⟨some 36, .mv (.t 35), true, none⟩,
          .pu ⟨some 37, .mv (.t 4), false, (some (36, false))⟩,
          .pu ⟨some 38, .len (.t 37), false, (some (36, false))⟩,
          .pu ⟨some 39, .mv (.t 6), false, (some (36, false))⟩,
          .pu ⟨some 40, .bin .neq (.t 38) (.t 39), false, (some (36, false))⟩,
          .pu ⟨some 41, .pick (.t 36) (.c (.lit true)) (.t 40), false, none⟩,
          .gh (.mrg 36 41 4329327034368),
          .pu ⟨some 42, .mv (.t 41), true, none⟩,
          .pu ⟨some 43, .mv (.t 4), false, (some (42, false))⟩,
          .pu ⟨some 44, .cap (.t 43), false, (some (42, false))⟩,
          .pu ⟨some 45, .mv (.t 6), false, (some (42, false))⟩,
          .pu ⟨some 46, .bin .neq (.t 44) (.t 45), false, (some (42, false))⟩,
          .pu ⟨some 47, .pick (.t 42) (.c (.lit true)) (.t 46), false, none⟩,
          .gh (.mrg 42 47 277076930199552),
          .gh (.kp 140737488355416)] false) (
        .cond 47 (
         .seq (
          .reg [
            .pu ⟨some 2, .mv (.c (.lit false)), false, none⟩] false) (
          .ret)) (
         .skip))) (
       .seq (
        .reg [
          .ef ⟨some 48, .bldS (.int .u8) 0 [], false, none⟩,
          .pu ⟨some 49, .mv (.t 3), false, none⟩,
          .ef ⟨some 50, .app (.int .u8) 1 false (.t 48) (.t 49), false, none⟩,
          .pu ⟨some 8, .mv (.t 50), false, none⟩,
          .gh (.kp 344)] false) (
        .seq (
         .seq (
          .reg [
            .pu ⟨some 9, .mv (.c (.int .i64 0)), false, none⟩] false) (
          .block 0 (
           .loop l7_0))) (
         .seq (
          .seq (
           .reg [
             .pu ⟨some 11, .mv (.c (.int .i64 0)), false, none⟩] false) (
           .block 4 (
            .loop l7_2))) (
          .seq (
           .reg [
             .pu ⟨some 121, .mv (.t 3), false, none⟩,
             .pu ⟨some 122, .len (.t 121), false, none⟩,
             .ca ⟨some 123, .call 29 [(.t 122)], false, none⟩,
             .pu ⟨some 120, .mv (.t 123), false, none⟩,
             .pu ⟨some 124, .ext (.t 120) 0, false, none⟩,
             .pu ⟨some 125, .ext (.t 120) 1, false, none⟩,
             .pu ⟨some 12, .mv (.t 124), false, none⟩,
             .pu ⟨some 13, .mv (.t 125), false, none⟩,
             .gh (.kp 12360)] false) (
           .seq (
            .reg [
              .pu ⟨some 127, .mv (.t 3), false, none⟩,
              .pu ⟨some 128, .mv (.t 12), false, none⟩,
              .ca ⟨some 129, .call 23 [(.t 127), (.t 128)], false, none⟩,
              .pu ⟨some 126, .mv (.t 129), false, none⟩,
              .pu ⟨some 130, .ext (.t 126) 0, false, none⟩,
              .pu ⟨some 131, .ext (.t 126) 1, false, none⟩,
              .pu ⟨some 14, .mv (.t 130), false, none⟩,
              .pu ⟨some 15, .mv (.t 131), false, none⟩,
              .gh (.kp 57416)] false) (
            .seq (
             .reg [
               .pu ⟨some 133, .mv (.t 14), false, none⟩,
               .ca ⟨some 134, .call 17 [(.t 133)], false, none⟩,
               .pu ⟨some 132, .mv (.t 134), false, none⟩,
               .pu ⟨some 135, .ext (.t 132) 0, false, none⟩,
               .pu ⟨some 136, .ext (.t 132) 1, false, none⟩,
               .pu ⟨some 16, .mv (.t 135), false, none⟩,
               .pu ⟨some 17, .mv (.t 136), false, none⟩,
               .gh (.kp 237640)] false) (
             .seq (
              .reg [
                .pu ⟨some 137, .mv (.t 13), false, none⟩,
                .pu ⟨some 138, .bin .eql (.t 137) (.c (.int .i64 0)), false, none⟩,
                .pu ⟨some 139, .mv (.t 138), true, none⟩,
                .pu ⟨some 140, .mv (.t 15), false, (some (139, true))⟩,
                .pu ⟨some 141, .bin .eql (.t 140) (.c (.int .i64 0)), false, (some (139, true))⟩,
                .pu ⟨some 142, .pick (.t 139) (.t 141) (.c (.lit false)), false, none⟩,
                .gh (.mrg 139 142 10453474311811229597594867940303919455928320),
                .pu ⟨some 143, .mv (.t 142), true, none⟩,
                .pu ⟨some 144, .mv (.t 17), false, (some (143, true))⟩,
                .pu ⟨some 145, .bin .eql (.t 144) (.c (.int .i64 0)), false, (some (143, true))⟩,
                .pu ⟨some 146, .pick (.t 143) (.t 145) (.c (.lit false)), false, none⟩,
                .gh (.mrg 143 146 167255588988979673561517887044862711294853120),
                .pu ⟨some 147, .mv (.t 146), true, none⟩,
                .pu ⟨some 148, .mv (.t 6), false, (some (147, true))⟩,
                .pu ⟨some 149, .mv (.t 16), false, (some (147, true))⟩,
                .pu ⟨some 150, .bin .add (.t 148) (.t 149), false, (some (147, true))⟩,
                .pu ⟨some 151, .mv (.t 3), false, (some (147, true))⟩,
                .pu ⟨some 152, .len (.t 151), false, (some (147, true))⟩,
                .pu ⟨some 153, .mv (.t 3), false, (some (147, true))⟩,
                .pu ⟨some 154, .len (.t 153), false, (some (147, true))⟩,
                .pu ⟨some 155, .bin .sub (.t 154) (.c (.int .i64 1)), false, (some (147, true))⟩,
                .pu ⟨some 156, .bin .mul (.t 152) (.t 155), false, (some (147, true))⟩,
                .pu ⟨some 157, .bin .quo (.t 156) (.c (.int .i64 2)), false, (some (147, true))⟩,
                .pu ⟨some 158, .bin .eql (.t 150) (.t 157), false, (some (147, true))⟩,
                .pu ⟨some 159, .pick (.t 147) (.t 158) (.c (.lit false)), false, none⟩,
                .gh (.mrg 147 159 1461323231369314673218552546970101832763884699648),
                .pu ⟨some 160, .mv (.t 159), true, none⟩,
                .ca ⟨some 161, .call 15 [], false, (some (160, true))⟩,
                .pu ⟨some 162, .pick (.t 160) (.t 161) (.c (.lit false)), false, none⟩,
                .gh (.mrg 160 162 10230511461316320427425793829013981137591527800832),
                .pu ⟨some 2, .mv (.t 162), false, none⟩,
                .gh (.kp 4)] false) (
              .ret))))))))))))
def r7 : List DRes := [.t 2]


end Go.Proofs.Ytpchlfmlolkeeaa

namespace Go.Proofs.Ytpchlfmlolkeeaa
open Go Go.RowKit Go.Am
theorem ok0 : POk Try.prog := POk.of_check (by kernel_rfl) (by kernel_rfl)
theorem lives_run : boolTrue (arun Try.prog 20000 (enterState Try.prog 15 [] (noHeap Try.prog))) = true := by kernel_rfl
theorem lives (h : AHeap) : ACalls Try.prog 15 [] h (Pure (.bool true) h) := .ofTrue (fun _ hG => calls_true ok0 Try.func15 rfl lives_run hG) h
theorem c15 : PCalls Try.prog 15 [] (fun d => d = .bool true) := .ofTrue ⟨_, Try.func15, rfl⟩ lives
end Go.Proofs.Ytpchlfmlolkeeaa

namespace Go.Proofs.Ytpchlfmlolkeeaa
open Go Go.RowKit Go.Am
set_option linter.unusedSimpArgs false
set_option linter.unusedVariables false
set_option maxRecDepth 20000
set_option maxHeartbeats 4000000

theorem wrap64' {i : Int} (h : -9223372036854775808 ≤ i ∧ i < 9223372036854775808) : IntKind.i64.wrap i = i := IntWalk.i64_in i (by omega)
theorem wrapU8 {i : Int} (h : 0 ≤ i ∧ i < 256) : IntKind.u8.wrap i = i := IntWalk.u8_in i (by omega)
/-- The first place of a number in a list. -/
def idxOf (l : List Int) (x : Int) : Int := if x ∈ l then (l.idxOf x : Int) else -1
def isIn (l : List Int) (x : Int) : Bool := decide (x ∈ l)
theorem idxOf_ge (l : List Int) (x : Int) : decide (0 ≤ idxOf l x) = isIn l x := by
  unfold idxOf isIn; split <;> simp_all <;> omega
theorem getD_idx {l : List Int} {x : Int} {i : Nat} (hi : i < l.length) (hx : x = l.getD i 0) (hn : x ∉ l.take i) : (i : Int) = idxOf l x := by
  have e : l[i] = x := by simp [hi] at hx; exact hx.symm
  have hm : x ∈ l := e ▸ List.getElem_mem hi
  unfold idxOf
  rw [if_pos hm]
  rcases Nat.lt_or_ge (l.idxOf x) i with h | h
  · exfalso; apply hn
    rw [List.mem_take_iff_getElem]
    exact ⟨l.idxOf x, by have := List.idxOf_lt_length_of_mem hm; omega, List.getElem_idxOf _⟩
  · have h1 : ∀ (l : List Int) (i : Nat), i ≤ l.idxOf x → (h : i < l.length) → l[i] = x → l.idxOf x = i := by
      intro l
      induction l with
      | nil => intro i _ h; simp at h
      | cons a l ih =>
        intro i h1 h2 h3
        rw [List.idxOf_cons] at h1 ⊢
        cases hb : (a == x) with
        | true => simp at h1 ⊢; rw [hb] at h1; simp at h1; exact h1.symm
        | false =>
          rw [hb] at h1
          cases i with
          | zero => simp at h3; subst h3; simp at hb
          | succ i => simp at h1 h2 h3 ⊢; exact ih i h1 h2 h3
    rw [h1 l i h hi e]
theorem not_mem_take_succ {l : List Int} {x : Int} {i : Nat} (hi : i < l.length) (hx : ¬ x = l.getD i 0) (hn : x ∉ l.take i) : x ∉ l.take (i + 1) := by
  rw [List.take_succ_eq_append_getElem hi]
  simp [hi] at hx
  simp only [List.mem_append, List.mem_singleton, not_or]
  exact ⟨hn, hx⟩
/-- The error of a permutation. -/
def chk (p : List Int) : Int := if p.length > 8 then 3 else if p ≠ [] ∧ ∀ i : Nat, i < p.length → ((i : Int) + 1) ∈ p then 0 else 1

theorem c50 (p : Sl Int) (x : Int) (hp : p.l.length < 1000000000) : PCalls Try.prog 50 [.sl (.int .u8) p, .int .u8 x] (fun d => d = .int .i64 (idxOf p.l x)) := by
  refine PCalls.go ok ck0 (c := d50) (rs := r50) Try.func50 rfl (by kernel_rfl) (by kernel_rfl) rfl rfl rfl ?_
  simp (config := { maxSteps := 20000000 }) only [d50, r50, go_reg, go_seq, go_block, go_loop, go_ops0, go_opsK, keepM, FB, Nat.reducePow, Nat.reduceDiv, Nat.reduceMod, go_opsP, endP, bif_tt, wantD, dpure, ev, lk, putD, argsD, nbeqB,  ↓cond_true, ↓cond_false, Option.map_some, sideP, lenD, Ty.D, decide_false, Nat.zero_add, beq_self_eq_true, Nat.reduceLeDiff, Int.reduceNeg, Nat.reduceBEq, Bool.or_true, Bool.or_self]
  refine DWc.loopG ok ck0 (α := Nat) (fun i => ⟨[(0, .sl (.int .u8) p), (1, .int .u8 x), (7, .int .i64 p.l.length), (8, .int .i64 i)], ⟨3, 0, []⟩⟩) (fun i => i ≤ p.l.length ∧ x ∉ p.l.take i) (fun i => p.l.length - i) 0 ?_ ?_ ?_
  · refine DEnt.of ?_; simp only [entD, entS, entO, lk, nbeqB,  ↓cond_true, ↓cond_false, DV.kill, beq_self_eq_true, eq_self, and_true, true_and, Nat.zero_le, Nat.reduceBEq, DV.int.injEq, true_and, and_true, eq_self]
    rfl
  · simp
  · intro i hi
    simp only [l50_0, go_nil, go_skip, go_reg, go_seq, go_cond, go_block, go_exit, go_ret, go_codeX, go_codeR, go_ops0, go_opsK, keepM, FB, Nat.reducePow, Nat.reduceDiv, Nat.reduceMod, go_opsP, go_blkN, go_blkX, go_blkR, go_rndN, go_rndX, go_rndR, unS_and, bif_tt, unl, wantD, dpure, ev, lk, putD, nbeqB,  ↓cond_true, ↓cond_false, Option.map_some, sideP, dBin, dIdx, dLoad, subT, flat, Ty.size, Ty.isAgg, Ty.zero, Ty.D, fnQ, dress, dres1, unl, finDV, frzV, sidesP, DV.kill, decide_true, decide_false, beq_self_eq_true, Bool.and_self, List.getD_cons_zero, eq_self, true_and, Nat.reduceLeDiff, Int.reduceNeg, Nat.reduceBEq, Bool.or_true, Bool.or_self, brB_eq, decide_eq_true_eq, decide_eq_false_iff_not, Int.not_lt, Int.toNat_natCast, DV.int.injEq, true_and, eq_self]
    refine ⟨fun h => ⟨by omega, fun h2 => getD_idx (by omega) h2 hi.2, fun h2 => ?_⟩, fun h => ?_⟩
    · refine ⟨i + 1, by omega, ⟨by omega, not_mem_take_succ (by omega) h2 hi.2⟩, ?_⟩
      refine DEnt.of ?_; simp only [entD, entS, entO, lk, nbeqB,  ↓cond_true, ↓cond_false, DV.kill, beq_self_eq_true, eq_self, and_true, true_and, Nat.zero_le, Nat.reduceBEq, DV.int.injEq, true_and, and_true, eq_self]
      rw [wrap64' (by omega)]; rfl
    · have : p.l.take i = p.l := List.take_of_length_le (by omega)
      rw [this] at hi
      simp [idxOf, hi.2]
def CO50 : CF := fun f args L => bif Nat.beq f 50 then (match args with
  | [.sl (.int .u8) p, .int .u8 x] => some (some (p.l.length < 1000000000), .int .i64 (idxOf p.l x), L, [])
  | _ => none) else CO0 f args L
theorem ck50 : CFOk Try.prog CO50 := by
  intro f args L side d L' ks hc hs
  unfold CO50 at hc
  cases hb : Nat.beq f 50 with
  | false => rw [hb] at hc; exact ck0 f args L side d L' ks hc hs
  | true =>
    have := Nat.eq_of_beq_eq_true hb
    subst this
    simp only [hb, cond_true] at hc
    split at hc
    · simp only [Option.some.injEq, Prod.mk.injEq] at hc
      obtain ⟨rfl, rfl, rfl, rfl⟩ := hc
      exact c50 _ _ (hs _ rfl) L
    · cases hc
theorem c35 (p : Sl Int) (x : Int) (hp : p.l.length < 1000000000) : PCalls Try.prog 35 [.sl (.int .u8) p, .int .u8 x] (fun d => d = .bool (isIn p.l x)) := by
  refine PCalls.go ok ck50 (c := d35) (rs := r35) Try.func35 rfl (by kernel_rfl) (by kernel_rfl) rfl rfl rfl ?_
  simp (config := { maxSteps := 20000000 }) only [d35, r35, go_nil, go_reg, go_seq, go_ret, go_ops0, go_opsK, keepM, FB, Nat.reducePow, Nat.reduceDiv, Nat.reduceMod, go_opsP, go_opsC, endP, unS_and, bif_tt, unl, callD, wantD, dpure, ev, evs, lk, putD, killT, argsD, nbeqB,  ↓cond_true, ↓cond_false, Option.map_some, sideP, dBin, Ty.D, fnQ, dress, dres1, unl, finDV, frzV, sidesP, DV.kill, decide_true, decide_false, Nat.zero_add, beq_self_eq_true, eq_self, Nat.reduceLeDiff, Nat.reduceBEq, Bool.or_true, Bool.or_self, CO50]
  refine ⟨hp, ?_⟩
  rw [← idxOf_ge]
def CO35 : CF := fun f args L => bif Nat.beq f 35 then (match args with
  | [.sl (.int .u8) p, .int .u8 x] => some (some (p.l.length < 1000000000), .bool (isIn p.l x), L, [])
  | _ => none) else CO50 f args L
theorem ck35 : CFOk Try.prog CO35 := by
  intro f args L side d L' ks hc hs
  unfold CO35 at hc
  cases hb : Nat.beq f 35 with
  | false => rw [hb] at hc; exact ck50 f args L side d L' ks hc hs
  | true =>
    have := Nat.eq_of_beq_eq_true hb
    subst this
    simp only [hb, cond_true] at hc
    split at hc
    · simp only [Option.some.injEq, Prod.mk.injEq] at hc
      obtain ⟨rfl, rfl, rfl, rfl⟩ := hc
      exact c35 _ _ (hs _ rfl) L
    · cases hc
theorem c12 (p : Sl Int) (hp : p.l.length < 1000000000) : PCalls Try.prog 12 [.sl (.int .u8) p] (fun d => d = .int .i64 (chk p.l)) := by
  refine PCalls.go ok ck35 (c := d12) (rs := r12) Try.func12 rfl (by kernel_rfl) (by kernel_rfl) rfl rfl rfl ?_
  simp (config := { maxSteps := 20000000 }) only [d12, r12, go_nil, go_skip, go_reg, go_seq, go_cond, go_block, go_loop, go_ret, go_codeR, go_ops0, go_opsK, keepM, FB, Nat.reducePow, Nat.reduceDiv, Nat.reduceMod, go_opsP, endP, brB_dec, unS_and, bif_tt, unl, wantD, dpure, ev, lk, putD, argsD, nbeqB,  ↓cond_true, ↓cond_false, Option.map_some, sideP, lenD, dBin, Ty.D, fnQ, dress, dres1, unl, finDV, frzV, sidesP, DV.kill, decide_true, decide_false, beq_self_eq_true, eq_self, Nat.reduceLeDiff, Nat.reduceBEq, Bool.or_true, Bool.or_self]
  simp only [Int.not_lt, DV.int.injEq, true_and, eq_self]
  refine ⟨fun h => ?_, fun h => ?_⟩
  · have : p.l.length > 8 := by omega
    simp [chk, this]
  · refine DWc.loopG ok ck35 (α := Nat) (fun i => ⟨[(0, .sl (.int .u8) p), (8, .int .i64 p.l.length), (9, .int .i64 i)], ⟨3, 0, []⟩⟩) (fun i => i ≤ p.l.length ∧ ∀ j : Nat, j < i → ((j : Int) + 1) ∈ p.l) (fun i => p.l.length - i) 0 ?_ ?_ ?_
    · refine DEnt.of ?_; simp only [entD, entS, entO, lk, nbeqB,  ↓cond_true, ↓cond_false, DV.kill, beq_self_eq_true, eq_self, and_true, true_and, Nat.zero_le, Nat.reduceBEq, DV.int.injEq, true_and, and_true, eq_self]
      rfl
    · simp
    · intro i hi
      simp only [l12_0, go_nil, go_skip, go_reg, go_seq, go_cond, go_block, go_exit, go_ret, go_codeX, go_codeR, go_ops0, go_opsK, keepM, FB, Nat.reducePow, Nat.reduceDiv, Nat.reduceMod, go_opsP, go_opsC, go_blkN, go_blkX, go_blkR, go_rndN, go_rndX, go_rndR, unS_and, bif_tt, unl, callD, wantD, dpure, ev, evs, lk, putD, killT, nbeqB,  ↓cond_true, ↓cond_false, Option.map_some, sideP, lenD, dBin, Ty.D, fnQ, dress, dres1, unl, finDV, frzV, sidesP, DV.kill, decide_true, decide_false, beq_self_eq_true, eq_self, true_and, Nat.reduceLeDiff, Nat.reduceBEq, Bool.or_true, Bool.or_self, CO35, brB_eq, decide_eq_true_eq, decide_eq_false_iff_not, Bool.not_eq_true', Bool.not_eq_false', Int.not_lt, DV.int.injEq, true_and, eq_self]
      refine ⟨fun h2 => ⟨hp, ?_⟩, fun h2 => ?_⟩
      · have hw : IntKind.u8.wrap (IntKind.i64.wrap ((i : Int) + 1)) = (i : Int) + 1 := by rw [wrap64' (by omega), wrapU8 (by omega)]
        rw [hw]
        refine ⟨fun h3 => ?_, fun h3 => ?_⟩
        · unfold isIn at h3
          have h3 := of_decide_eq_false h3
          unfold chk
          rw [if_neg (by omega), if_neg (fun q => h3 (q.2 i (by omega)))]
        · unfold isIn at h3
          have h3 := of_decide_eq_true h3
          refine ⟨i + 1, by omega, ⟨by omega, fun j hj => ?_⟩, ?_⟩
          · by_cases hji : j = i
            · rw [hji]; exact h3
            · exact hi.2 j (by omega)
          · refine DEnt.of ?_; simp only [entD, entS, entO, lk, nbeqB,  ↓cond_true, ↓cond_false, DV.kill, beq_self_eq_true, eq_self, and_true, true_and, Nat.zero_le, Nat.reduceBEq, DV.int.injEq, true_and, and_true, eq_self]
            rw [wrap64' (by omega)]; rfl
      · have hi2 : i = p.l.length := by omega
        subst hi2
        unfold chk
        refine ⟨fun h3 => ?_, fun h3 => ?_⟩
        · have : p.l = [] := List.eq_nil_of_length_eq_zero (by omega)
          simp [this]
        · rw [if_neg (by omega), if_pos ⟨fun e => h3 (by rw [e]; rfl), hi.2⟩]
def CO12 : CF := fun f args L => bif Nat.beq f 12 then (match args with
  | [.sl (.int .u8) p] => some (some (p.l.length < 1000000000), .int .i64 (chk p.l), L, [])
  | _ => none) else CO35 f args L
theorem ck12 : CFOk Try.prog CO12 := by
  intro f args L side d L' ks hc hs
  unfold CO12 at hc
  cases hb : Nat.beq f 12 with
  | false => rw [hb] at hc; exact ck35 f args L side d L' ks hc hs
  | true =>
    have := Nat.eq_of_beq_eq_true hb
    subst this
    simp only [hb, cond_true] at hc
    split at hc
    · simp only [Option.some.injEq, Prod.mk.injEq] at hc
      obtain ⟨rfl, rfl, rfl, rfl⟩ := hc
      exact c12 _ (hs _ rfl) L
    · cases hc
theorem c30 (p q : Sl Int) (hp : p.l.length < 1000000000 ∧ q.l.length < 1000000000) : PCalls Try.prog 30 [.sl (.int .u8) p, .sl (.int .u8) q] (fun d => d = .int .i64 (if chk p.l ≠ 0 then chk p.l else if chk q.l ≠ 0 then chk q.l else if p.l.length ≠ q.l.length then 5 else 0)) := by
  refine PCalls.go ok ck12 (c := d30) (rs := r30) Try.func30 rfl (by kernel_rfl) (by kernel_rfl) rfl rfl rfl ?_
  simp (config := { maxSteps := 20000000 }) only [d30, r30, go_nil, go_skip, go_reg, go_seq, go_cond, go_ret, go_codeR, go_ops0, go_opsK, keepM, FB, Nat.reducePow, Nat.reduceDiv, Nat.reduceMod, go_opsP, go_opsC, endP, brB_not, brB_dec, unS_and, bif_tt, unl, callD, wantD, dpure, ev, evs, lk, putD, killT, argsD, nbeqB,  ↓cond_true, ↓cond_false, Option.map_some, sideP, lenD, dBin, Ty.D, fnQ, dress, dres1, unl, finDV, frzV, sidesP, DV.kill, decide_true, decide_false, Nat.zero_add, beq_self_eq_true, eq_self, Nat.reduceLeDiff, Nat.reduceBEq, Bool.or_true, Bool.or_self, CO12]
  refine ⟨hp.1, fun h1 => ⟨hp.2, fun h2 => ⟨fun h3 => ?_, fun h3 => ?_⟩, fun h2 => ?_⟩, fun h1 => ?_⟩
  · have : p.l.length = q.l.length := by omega
    simp [h1, h2, this]
  · have : ¬ p.l.length = q.l.length := by omega
    simp [h1, h2, this]
  · simp [h1, h2]
  · simp [h1]
def CO30 : CF := fun f args L => bif Nat.beq f 30 then (match args with
  | [.sl (.int .u8) p, .sl (.int .u8) q] => some (some (p.l.length < 1000000000 ∧ q.l.length < 1000000000), .int .i64 (if chk p.l ≠ 0 then chk p.l else if chk q.l ≠ 0 then chk q.l else if p.l.length ≠ q.l.length then 5 else 0), L, [])
  | _ => none) else CO12 f args L
theorem ck30 : CFOk Try.prog CO30 := by
  intro f args L side d L' ks hc hs
  unfold CO30 at hc
  cases hb : Nat.beq f 30 with
  | false => rw [hb] at hc; exact ck12 f args L side d L' ks hc hs
  | true =>
    have := Nat.eq_of_beq_eq_true hb
    subst this
    simp only [hb, cond_true] at hc
    split at hc
    · simp only [Option.some.injEq, Prod.mk.injEq] at hc
      obtain ⟨rfl, rfl, rfl, rfl⟩ := hc
      exact c30 _ _ (hs _ rfl) L
    · cases hc
theorem c42 (n : Int) : PCalls Try.prog 42 [.int .i64 n] (fun d => d = .int .i64 (if n < 1 then 1 else if 8 < n then 3 else 0)) := by
  refine PCalls.go ok ck30 (c := d42) (rs := r42) Try.func42 rfl (by kernel_rfl) (by kernel_rfl) rfl rfl rfl ?_
  simp (config := { maxSteps := 20000000 }) only [d42, r42, go_nil, go_skip, go_reg, go_seq, go_cond, go_block, go_ret, go_codeR, go_ops0, go_opsK, keepM, FB, Nat.reducePow, Nat.reduceDiv, Nat.reduceMod, go_opsP, go_blkN, go_blkR, endP, brB_dec, unS_and, bif_tt, unl, wantD, dpure, ev, lk, putD, argsD, nbeqB,  ↓cond_true, ↓cond_false, Option.map_some, sideP, dBin, fnQ, dress, dres1, unl, finDV, frzV, sidesP, DV.kill, decide_true, decide_false, beq_self_eq_true, eq_self, Nat.reduceLeDiff, Nat.reduceBEq, Bool.or_true, Bool.or_self]
  refine ⟨fun h => by rw [if_pos h], fun h => ⟨fun h2 => by rw [if_neg h, if_pos h2], fun h2 => by rw [if_neg h, if_neg h2]⟩⟩
def CO42 : CF := fun f args L => bif Nat.beq f 42 then (match args with
  | [.int .i64 n] => some (none, .int .i64 (if n < 1 then 1 else if 8 < n then 3 else 0), L, [])
  | _ => none) else CO30 f args L
theorem ck42 : CFOk Try.prog CO42 := by
  intro f args L side d L' ks hc hs
  unfold CO42 at hc
  cases hb : Nat.beq f 42 with
  | false => rw [hb] at hc; exact ck30 f args L side d L' ks hc hs
  | true =>
    have := Nat.eq_of_beq_eq_true hb
    subst this
    simp only [hb, cond_true] at hc
    split at hc
    · simp only [Option.some.injEq, Prod.mk.injEq] at hc
      obtain ⟨rfl, rfl, rfl, rfl⟩ := hc
      exact c42 _ L
    · cases hc
theorem c43 (i : Int) (hp : 0 ≤ i ∧ i < 255) : PCalls Try.prog 43 [.int .i64 i] (fun d => d = .int .u8 (i + 1)) := by
  refine PCalls.go ok ck42 (c := d43) (rs := r43) Try.func43 rfl (by kernel_rfl) (by kernel_rfl) rfl rfl rfl ?_
  simp (config := { maxSteps := 20000000 }) only [d43, r43, go_nil, go_reg, go_seq, go_ret, go_ops0, go_opsK, keepM, FB, Nat.reducePow, Nat.reduceDiv, Nat.reduceMod, go_opsP, endP, bif_tt, unl, wantD, dpure, ev, lk, putD, argsD, nbeqB,  ↓cond_true, ↓cond_false, Option.map_some, sideP, dBin, fnQ, dress, dres1, unl, finDV, frzV, sidesP, DV.kill, decide_true, decide_false, beq_self_eq_true, eq_self, Nat.reduceLeDiff, Nat.reduceBEq, Bool.or_true, Bool.or_self]
  rw [wrap64' (by omega), wrapU8 (by omega)]
def CO43 : CF := fun f args L => bif Nat.beq f 43 then (match args with
  | [.int .i64 i] => some (some (0 ≤ i ∧ i < 255), .int .u8 (i + 1), L, [])
  | _ => none) else CO42 f args L
theorem ck43 : CFOk Try.prog CO43 := by
  intro f args L side d L' ks hc hs
  unfold CO43 at hc
  cases hb : Nat.beq f 43 with
  | false => rw [hb] at hc; exact ck42 f args L side d L' ks hc hs
  | true =>
    have := Nat.eq_of_beq_eq_true hb
    subst this
    simp only [hb, cond_true] at hc
    split at hc
    · simp only [Option.some.injEq, Prod.mk.injEq] at hc
      obtain ⟨rfl, rfl, rfl, rfl⟩ := hc
      exact c43 _ (hs _ rfl) L
    · cases hc

theorem mapRep_set (G : Nat → Int) (n i : Nat) (hi : i < n) : ((List.range i).map G ++ List.replicate (n - i) 0).set i (G i) = (List.range (i + 1)).map G ++ List.replicate (n - (i + 1)) 0 := by
  have h1 : n - i = (n - (i + 1)) + 1 := by omega
  rw [h1, List.replicate_succ, List.range_succ, List.map_append, List.set_append_right _ _ (by simp)]
  simp
theorem c33 (n : Int) (f : Nat) (xs us : List DV) (G : Nat → Int) (hn : 0 ≤ n ∧ n ≤ 1000) (hx : DV.killL allN xs = xs) (hu : DV.killL allN us = us) (H : ∀ i : Nat, (i : Int) < n → PCalls Try.prog f (xs ++ [.int .i64 i] ++ us) (fun d => d = .int .u8 (G i))) :
    PCalls Try.prog 33 [.int .i64 n, .clo f xs us] (fun d => d = .sl (.int .u8) ⟨(List.range n.toNat).map G, some n.toNat⟩) := by
  refine PCalls.go ok ck0 (c := d33) (rs := r33) Try.func33 rfl (by kernel_rfl) (by kernel_rfl) rfl rfl (by simp [DV.killL, DV.kill, hx, hu]) ?_
  simp (config := { maxSteps := 20000000 }) only [d33, r33, go_reg, go_seq, go_block, go_loop, go_ops0, go_opsK, keepM, FB, Nat.reducePow, Nat.reduceDiv, Nat.reduceMod, go_opsP, go_opsE, endP, unS_and, bif_tt, nilqD, eff1, wantD, dpure, ev, lk, putD, killT, newO, argsD, nbeqB,  ↓cond_true, ↓cond_false, Option.map_some, sideP, Ty.zero, Ty.D, decide_false, Nat.reduceAdd, Nat.zero_add, beq_self_eq_true, Nat.reduceLeDiff, Nat.reduceBEq, Bool.or_true, Bool.or_self]
  refine ⟨by omega, ?_⟩
  have kx : ∀ p, DV.killL p xs = xs := killL_of_all hx
  have ku : ∀ p, DV.killL p us = us := killL_of_all hu
  refine DWc.loopG ok ck0 (α := Nat) (fun i => ⟨[(10, .int .i64 i), (9, .int .i64 n), (5, .osl 3 (.int .u8) 0 n.toNat (some n.toNat)), (1, .clo f xs us)], ⟨4, 0, [(3, .arr (.int .u8) ((List.range i).map G ++ List.replicate (n.toNat - i) (0 : Int) : List Int))]⟩⟩) (fun i => i ≤ n.toNat) (fun i => n.toNat - i) 0 ?_ ?_ ?_
  · refine DEnt.of ?_
    simp only [entD, entS, entO, Loc.kill, kx, ku, lk, lkO, Loc.kill, nbeqB,  ↓cond_true, ↓cond_false, DV.kill, geN, beq_self_eq_true, Nat.ble, eq_self, and_true, true_and, and_self, Nat.zero_le, Nat.reduceBEq, DV.int.injEq, true_and, and_true, eq_self]
    simp
  · simp
  · intro i hi
    simp only [l33_0, CO0, go_nil, go_skip, go_reg, go_seq, go_cond, go_block, go_exit, go_ret, go_gh, go_codeX, go_ops0, go_opsP, go_opsC, go_blkX, go_rndX, unS_and, tgtD, unl, callD, gh1, wantD, dpure, ev, evs, lk, putD, lkO, nbeqB,  ↓cond_true, ↓cond_false, Option.map_some, sideP, dBin, Ty.D, fnQ, dress, dres1, unl, finDV, frzV, sidesP, DV.kill, decide_true, Nat.zero_add, beq_self_eq_true, Nat.ble, dite_true, eq_self, List.drop_zero, true_and, Nat.reduceBEq, CO0, brB_eq, decide_eq_true_eq, decide_eq_false_iff_not, Int.not_lt, true_and, eq_self]
    refine ⟨fun h => ?_, fun h => ?_⟩
    · refine goI_pure (H i h) ?_
      rintro _ rfl
      simp only [go_reg, go_ops0, go_opsK, keepM, FB, Nat.reducePow, Nat.reduceDiv, Nat.reduceMod, go_opsP, go_opsE, go_blkN, go_rndN, unS_and, bif_tt, nilqD, eff1, eStore, wantD, dpure, ev, lk, putD, killT, lkO, stO, setO, nbeqB,  ↓cond_true, ↓cond_false, Option.map_some, sideP, dBin, dIdx, asTy, unflat, DV.cellA, DV.cell, setAllD, flat, Ty.size, Ty.zero, Ty.D, decide_true, decide_false, Nat.zero_add, beq_self_eq_true, Bool.and_self, if_true, Nat.ble, List.length_cons, List.length_nil, List.all_cons, List.all_nil, dite_true, eq_self, List.set_cons_zero, Nat.reduceLeDiff, Nat.reduceBEq, Bool.or_true, Bool.or_self, Int.toNat_natCast, eq_self]
      refine ⟨by omega, by simp; omega, i + 1, by omega, by omega, ?_⟩
      rw [mapRep_set G n.toNat i (by omega), wrap64' (by omega)]
      refine DEnt.of ?_
      simp only [entD, entS, entO, Loc.kill, kx, ku, lk, lkO, Loc.kill, nbeqB,  ↓cond_true, ↓cond_false, DV.kill, geN, beq_self_eq_true, Nat.ble, eq_self, and_true, true_and, and_self, Nat.zero_le, Nat.reduceBEq, DV.int.injEq, true_and, and_true, eq_self]
      simp
    · have hin : i = n.toNat := by omega
      subst hin
      refine ⟨by simp, ?_⟩
      congr 2
      rw [Nat.sub_self, List.replicate_zero, List.append_nil, List.take_of_length_le (by simp)]
/-- A list of numbers that a function tells. -/
abbrev tab (n : Nat) (G : Nat → Int) : Sl Int := ⟨(List.range n).map G, some n⟩


def thenS (p q : List Int) : Sl Int := tab p.length fun i => q.getD (p.getD i 0 - 1).toNat 0
def backS (p : List Int) : Sl Int := tab p.length fun i => idxOf p ((i : Int) + 1) + 1
def flipS (p : List Int) : Sl Int := tab p.length fun i => p.length + 1 - p.getD (p.length - 1 - i) 0
def identS (n : Int) : DV := if n < 1 then .tup [.sl (.int .u8) ⟨[], some 0⟩, .int .i64 1] else if 8 < n then .tup [.sl (.int .u8) ⟨[], some 0⟩, .int .i64 3] else .tup [.sl (.int .u8) (tab n.toNat fun i => (i : Int) + 1), .int .i64 0]
theorem tab_congr {n : Nat} {G G' : Nat → Int} (h : ∀ i, i < n → G i = G' i) : tab n G = tab n G' := by
  unfold tab; congr 1; exact List.map_congr_left fun i hi => h i (List.mem_range.1 hi)
theorem c27 (n : Int) : PCalls Try.prog 27 [.int .i64 n] (fun d => d = identS n) := by
  unfold identS
  refine PCalls.go ok ck43 (c := d27) (rs := r27) Try.func27 rfl (by kernel_rfl) (by kernel_rfl) rfl rfl rfl ?_
  simp (config := { maxSteps := 20000000 }) only [d27, r27, CO0, go_nil, go_skip, go_reg, go_seq, go_cond, go_ret, go_gh, go_codeR, go_ops0, go_opsK, keepM, FB, Nat.reducePow, Nat.reduceDiv, Nat.reduceMod, go_opsP, go_opsC, endP, brB_not, brB_dec, unS_and, bif_tt, tgtD, unl, callD, gh1, wantD, dpure, ev, evs, lk, putD, killT, argsD, nbeqB,  ↓cond_true, ↓cond_false, Option.map_some, sideP, dBin, Ty.D, fnQ, dress, dres1, unl, finDV, frzV, frzVs, sidesP, DV.kill, DV.killL, decide_true, decide_false, beq_self_eq_true, List.append_nil, eq_self, true_and, Nat.reduceLeDiff, Nat.reduceBEq, Bool.or_true, Bool.or_self, CO43, CO0, CO50, CO35, CO12, CO30, CO42]
  refine ⟨fun h => ?_, fun h => ?_⟩
  · have hn : ¬ n < 1 ∧ ¬ 8 < n := by
      refine ⟨fun q => ?_, fun q => ?_⟩
      · rw [if_pos q] at h; cases h
      · rw [if_neg (by omega), if_pos q] at h; cases h
    refine goI_pure (c33 n 43 [] [] (fun i => (i : Int) + 1) (by omega) rfl rfl (fun i hi => c43 i (by omega))) ?_
    rintro _ rfl
    simp only [hn, go_nil, go_ret, go_gh, go_ops0, go_opsK, keepM, FB, Nat.reducePow, Nat.reduceDiv, Nat.reduceMod, go_opsP, bif_tt, unl, gh1, wantD, dpure, ev, lk, putD, nbeqB,  ↓cond_true, ↓cond_false, Option.map_some, sideP, Ty.D, fnQ, dress, dres1, unl, finDV, frzV, frzVs, sidesP, DV.kill, DV.killL, decide_true, decide_false, beq_self_eq_true, if_false, List.append_nil, eq_self, Nat.reduceLeDiff, Bool.not_true, and_self, Nat.reduceBEq, Bool.or_true, Bool.or_self, eq_self, Bool.not_true]
  · by_cases h1 : n < 1
    · simp [h1]
    · by_cases h2 : 8 < n
      · simp [h1, h2]
      · exfalso; apply h; rw [if_neg h1, if_neg h2]
/-- A permutation, of at most eight strands. -/
structure Perm (p : List Int) : Prop where
  len : 1 ≤ p.length ∧ p.length ≤ 8
  bd : ∀ x ∈ p, 1 ≤ x ∧ x ≤ p.length
  all : ∀ i : Nat, i < p.length → ((i : Int) + 1) ∈ p
  nodup : p.Nodup
theorem Perm.chk {p : List Int} (h : Perm p) : chk p = 0 := by
  unfold _root_.Go.Proofs.Ytpchlfmlolkeeaa.chk
  rw [if_neg (by have := h.len.2; omega), if_pos ⟨fun e => by have := h.len.1; rw [e] at this; simp at this, h.all⟩]
theorem Perm.get {p : List Int} (h : Perm p) {i : Nat} (hi : i < p.length) : 1 ≤ p.getD i 0 ∧ p.getD i 0 ≤ p.length := by
  have : p.getD i 0 = p[i] := by simp [hi]
  rw [this]; exact h.bd _ (List.getElem_mem hi)
theorem c52 (i : Nat) (p q : Sl Int) (hi : i < p.l.length) (hp : Perm p.l) (hq : q.l.length = p.l.length) : PCalls Try.prog 52 ([] ++ [.int .i64 i] ++ [.fptr (.sl (.int .u8)) q, .fptr (.sl (.int .u8)) p]) (fun d => d = .int .u8 (q.l.getD (p.l.getD i 0 - 1).toNat 0)) := by
  have hg := hp.get hi
  have hl := hp.len
  refine PCalls.go ok ck43 (c := d52) (rs := r52) Try.func52 rfl (by kernel_rfl) (by kernel_rfl) rfl rfl rfl ?_
  simp (config := { maxSteps := 20000000 }) only [d52, r52, Int.toNat_natCast, go_nil, go_reg, go_seq, go_ret, go_ops0, go_opsK, keepM, FB, Nat.reducePow, Nat.reduceDiv, Nat.reduceMod, go_opsP, endP, unS_and, bif_tt, unl, wantD, dpure, ev, lk, putD, argsD, nbeqB,  ↓cond_true, ↓cond_false, Option.map_some, sideP, dBin, dIdx, dLoad, subT, flat, Ty.size, Ty.isAgg, Ty.zero, Ty.D, fnQ, dress, dres1, unl, finDV, frzV, sidesP, DV.kill, decide_true, decide_false, Nat.reduceAdd, Nat.zero_add, beq_self_eq_true, Bool.and_self, List.nil_append, List.cons_append, List.getD_cons_zero, eq_self, Nat.reduceLeDiff, Nat.reduceBEq, Bool.or_true, Bool.or_self]
  rw [wrapU8 (by omega)]
  exact ⟨by omega, by omega, rfl⟩
theorem c40 (p q : Sl Int) (hp : Perm p.l) (hq : q.l.length = p.l.length) : PCalls Try.prog 40 [.sl (.int .u8) p, .sl (.int .u8) q] (fun d => d = .sl (.int .u8) (thenS p.l q.l)) := by
  unfold thenS
  have hl := hp.len
  refine PCalls.go ok ck43 (c := d40) (rs := r40) Try.func40 rfl (by kernel_rfl) (by kernel_rfl) rfl rfl rfl ?_
  simp (config := { maxSteps := 20000000 }) only [d40, r40, CO0, go_reg, go_seq, go_ops0, go_opsK, keepM, FB, Nat.reducePow, Nat.reduceDiv, Nat.reduceMod, go_opsG7, go_opsP, go_opsE, go_opsC, endP, bif_tt, tgtD, callD, nilqD, eff1, gh1, wantD, dpure, ev, evs, lk, putD, killT, lkO, rmO, newO, argsD, nbeqB,  ↓cond_true, ↓cond_false, Option.map_some, sideP, lenD, dLoad, asTy, unflat, DV.cellA, DV.cell, subT, flat, Ty.size, Ty.isAgg, Ty.D, decide_false, Nat.reduceAdd, Nat.zero_add, beq_self_eq_true, Bool.and_self, Nat.ble, List.getD_cons_zero, dite_true, eq_self, true_and, Nat.reduceLeDiff, Nat.reduceBEq, Bool.or_true, Bool.or_self, CO43, CO0, CO50, CO35, CO12, CO30, CO42]
  refine goI_pure (c33 _ 52 [] [.fptr (.sl (.int .u8)) q, .fptr (.sl (.int .u8)) p] _ (by omega) rfl rfl (fun i hi => c52 i p q (by omega) hp hq)) ?_
  rintro _ rfl
  simp only [go_nil, go_ret, go_gh, go_ops0, go_opsK, keepM, FB, Nat.reducePow, Nat.reduceDiv, Nat.reduceMod, go_opsP, bif_tt, unl, gh1, wantD, dpure, ev, lk, putD, nbeqB,  ↓cond_true, ↓cond_false, Option.map_some, sideP, Ty.D, fnQ, dress, dres1, unl, finDV, frzV, sidesP, DV.kill, decide_false, beq_self_eq_true, eq_self, Nat.reduceLeDiff, and_self, Nat.reduceBEq, Bool.or_true, Bool.or_self, Int.toNat_natCast, eq_self]

theorem c40' (p q : Sl Int) (h : Perm p.l ∧ q.l.length = p.l.length) : PCalls Try.prog 40 [.sl (.int .u8) p, .sl (.int .u8) q] (fun d => d = .sl (.int .u8) (thenS p.l q.l)) := c40 p q h.1 h.2
def CO40 : CF := fun f args L => bif Nat.beq f 40 then (match args with
  | [.sl (.int .u8) p, .sl (.int .u8) q] => some (some (Perm p.l ∧ q.l.length = p.l.length), .sl (.int .u8) (thenS p.l q.l), L, [])
  | _ => none) else CO43 f args L
theorem ck40 : CFOk Try.prog CO40 := by
  intro f args L side d L' ks hc hs
  unfold CO40 at hc
  cases hb : Nat.beq f 40 with
  | false => rw [hb] at hc; exact ck43 f args L side d L' ks hc hs
  | true =>
    have := Nat.eq_of_beq_eq_true hb
    subst this
    simp only [hb, cond_true] at hc
    split at hc
    · simp only [Option.some.injEq, Prod.mk.injEq] at hc
      obtain ⟨rfl, rfl, rfl, rfl⟩ := hc
      exact c40' _ _ (hs _ rfl) L
    · cases hc

def upS (n : Nat) : Sl Int := tab n fun i => (i : Int) + 1
theorem c27' (n : Int) (h : 1 ≤ n ∧ n ≤ 8) : PCalls Try.prog 27 [.int .i64 n] (fun d => d = .tup [.sl (.int .u8) (upS n.toNat), .int .i64 0]) := by
  have := c27 n
  unfold identS at this
  rw [if_neg (by omega), if_neg (by omega)] at this
  exact this

def CO27 : CF := fun f args L => bif Nat.beq f 27 then (match args with
  | [.int .i64 n] => some (some (1 ≤ n ∧ n ≤ 8), .tup [.sl (.int .u8) (upS n.toNat), .int .i64 0], L, [])
  | _ => none) else CO40 f args L
theorem ck27 : CFOk Try.prog CO27 := by
  intro f args L side d L' ks hc hs
  unfold CO27 at hc
  cases hb : Nat.beq f 27 with
  | false => rw [hb] at hc; exact ck40 f args L side d L' ks hc hs
  | true =>
    have := Nat.eq_of_beq_eq_true hb
    subst this
    simp only [hb, cond_true] at hc
    split at hc
    · simp only [Option.some.injEq, Prod.mk.injEq] at hc
      obtain ⟨rfl, rfl, rfl, rfl⟩ := hc
      exact c27' _ (hs _ rfl) L
    · cases hc
theorem c24 (p q : Sl Int) (hp : Perm p.l ∧ Perm q.l ∧ q.l.length = p.l.length) : PCalls Try.prog 24 [.sl (.int .u8) p, .sl (.int .u8) q] (fun d => d = .tup [.sl (.int .u8) (thenS p.l q.l), .int .i64 0]) := by
  refine PCalls.go ok ck27 (c := d24) (rs := r24) Try.func24 rfl (by kernel_rfl) (by kernel_rfl) rfl rfl rfl ?_
  simp (config := { maxSteps := 20000000 }) only [d24, r24, go_nil, go_skip, go_reg, go_seq, go_cond, go_ret, go_gh, go_codeR, go_ops0, go_opsK, keepM, FB, Nat.reducePow, Nat.reduceDiv, Nat.reduceMod, go_opsP, go_opsC, endP, brB_not, brB_dec, unS_and, bif_tt, unl, callD, gh1, wantD, dpure, ev, evs, lk, putD, killT, argsD, nbeqB,  ↓cond_true, ↓cond_false, Option.map_some, sideP, dBin, Ty.D, fnQ, dress, dres1, unl, finDV, frzV, frzVs, sidesP, DV.kill, DV.killL, decide_true, decide_false, Nat.zero_add, beq_self_eq_true, List.append_nil, eq_self, and_true, true_and, Nat.reduceLeDiff, and_self, Nat.reduceBEq, Bool.or_true, Bool.or_self, CO27, CO30, CO42, CO43, CO40]
  have h1 := hp.1.chk
  have h2 := hp.2.1.chk
  have h3 := hp.1.len
  have h4 := hp.2.1.len
  refine ⟨⟨by omega, by omega⟩, fun _ => ⟨hp.1, hp.2.2⟩, fun q => ?_⟩
  exfalso; apply q; simp [h1, h2, hp.2.2]
def CO24 : CF := fun f args L => bif Nat.beq f 24 then (match args with
  | [.sl (.int .u8) p, .sl (.int .u8) q] => some (some (Perm p.l ∧ Perm q.l ∧ q.l.length = p.l.length), .tup [.sl (.int .u8) (thenS p.l q.l), .int .i64 0], L, [])
  | _ => none) else CO27 f args L
theorem ck24 : CFOk Try.prog CO24 := by
  intro f args L side d L' ks hc hs
  unfold CO24 at hc
  cases hb : Nat.beq f 24 with
  | false => rw [hb] at hc; exact ck27 f args L side d L' ks hc hs
  | true =>
    have := Nat.eq_of_beq_eq_true hb
    subst this
    simp only [hb, cond_true] at hc
    split at hc
    · simp only [Option.some.injEq, Prod.mk.injEq] at hc
      obtain ⟨rfl, rfl, rfl, rfl⟩ := hc
      exact c24 _ _ (hs _ rfl) L
    · cases hc

theorem c41 (i : Nat) (p : Sl Int) (hi : i < p.l.length) (hp : Perm p.l) : PCalls Try.prog 41 ([] ++ [.int .i64 i] ++ [.fptr (.int .i64) (p.l.length : Int), .fptr (.sl (.int .u8)) p]) (fun d => d = .int .u8 (p.l.length + 1 - p.l.getD (p.l.length - 1 - i) 0)) := by
  have hl := hp.len
  have hg := hp.get (i := p.l.length - 1 - i) (by omega)
  refine PCalls.go ok ck24 (c := d41) (rs := r41) Try.func41 rfl (by kernel_rfl) (by kernel_rfl) rfl rfl rfl ?_
  simp (config := { maxSteps := 20000000 }) only [d41, r41, go_nil, go_reg, go_seq, go_ret, go_ops0, go_opsK, keepM, FB, Nat.reducePow, Nat.reduceDiv, Nat.reduceMod, go_opsP, endP, unS_and, bif_tt, unl, wantD, dpure, ev, lk, putD, argsD, nbeqB,  ↓cond_true, ↓cond_false, Option.map_some, sideP, dBin, dIdx, dLoad, subT, flat, Ty.size, Ty.isAgg, Ty.zero, Ty.D, fnQ, dress, dres1, unl, finDV, frzV, sidesP, DV.kill, decide_true, decide_false, Nat.reduceAdd, Nat.zero_add, beq_self_eq_true, Bool.and_self, List.nil_append, List.cons_append, List.getD_cons_zero, eq_self, Nat.reduceLeDiff, Nat.reduceBEq, Bool.or_true, Bool.or_self]
  rw [wrap64' (i := (p.l.length : Int) - 1) (by omega), wrap64' (i := (p.l.length : Int) - 1 - i) (by omega), wrap64' (i := (p.l.length : Int) + 1) (by omega), wrapU8 (i := (p.l.length : Int) + 1) (by omega)]
  have e : ((p.l.length : Int) - 1 - i).toNat = p.l.length - 1 - i := by omega
  rw [e, wrapU8 (by omega)]
  exact ⟨by omega, rfl⟩

theorem c26 (p : Sl Int) (hp : Perm p.l) : PCalls Try.prog 26 [.sl (.int .u8) p] (fun d => d = .tup [.sl (.int .u8) (flipS p.l), .int .i64 0]) := by
  refine PCalls.go ok ck24 (c := d26) (rs := r26) Try.func26 rfl (by kernel_rfl) (by kernel_rfl) rfl rfl rfl ?_
  simp (config := { maxSteps := 20000000 }) only [d26, r26, go_nil, go_skip, go_reg, go_seq, go_cond, go_ret, go_gh, go_codeR, go_ops0, go_opsK, keepM, FB, Nat.reducePow, Nat.reduceDiv, Nat.reduceMod, go_opsG7, go_opsP, go_opsE, go_opsC, endP, brB_not, brB_dec, unS_and, bif_tt, tgtD, unl, callD, nilqD, eff1, eStore, gh1, wantD, dpure, ev, evs, lk, putD, killT, lkO, stO, rmO, newO, setO, argsD, nbeqB,  ↓cond_true, ↓cond_false, Option.map_some, sideP, lenD, dBin, dLoad, asTy, unflat, DV.cellA, DV.cell, setAllD, subT, flat, Ty.size, Ty.isAgg, Ty.D, fnQ, dress, dres1, unl, finDV, frzV, frzVs, sidesP, DV.kill, DV.killL, decide_true, decide_false, Nat.reduceAdd, Nat.zero_add, beq_self_eq_true, Bool.and_self, if_true, List.append_nil, Nat.ble, List.length_cons, List.length_nil, List.all_cons, List.all_nil, List.getD_cons_zero, dite_true, eq_self, List.set_cons_zero, true_and, Nat.reduceLeDiff, Nat.reduceBEq, Bool.or_true, Bool.or_self, CO24, CO0, CO50, CO35, CO12, CO30, CO42, CO43, CO40, CO27]
  have h1 := hp.chk
  have h3 := hp.len
  refine ⟨by omega, fun _ => ?_, fun q => absurd h1 q⟩
  refine goI_pure (c33 _ 41 [] [.fptr (.int .i64) (p.l.length : Int), .fptr (.sl (.int .u8)) p] _ (by omega) rfl rfl (fun i hi => c41 i p (by omega) hp)) ?_
  rintro _ rfl
  simp only [flipS, go_nil, go_ret, go_gh, go_ops0, go_opsK, keepM, FB, Nat.reducePow, Nat.reduceDiv, Nat.reduceMod, go_opsP, bif_tt, unl, gh1, wantD, dpure, ev, lk, putD, nbeqB,  ↓cond_true, ↓cond_false, Option.map_some, sideP, Ty.D, fnQ, dress, dres1, unl, finDV, frzV, frzVs, sidesP, DV.kill, DV.killL, decide_false, beq_self_eq_true, List.append_nil, eq_self, Nat.reduceLeDiff, and_self, Nat.reduceBEq, Bool.or_true, Bool.or_self, Int.toNat_natCast, eq_self]
def CO26 : CF := fun f args L => bif Nat.beq f 26 then (match args with
  | [.sl (.int .u8) p] => some (some (Perm p.l), .tup [.sl (.int .u8) (flipS p.l), .int .i64 0], L, [])
  | _ => none) else CO24 f args L
theorem ck26 : CFOk Try.prog CO26 := by
  intro f args L side d L' ks hc hs
  unfold CO26 at hc
  cases hb : Nat.beq f 26 with
  | false => rw [hb] at hc; exact ck24 f args L side d L' ks hc hs
  | true =>
    have := Nat.eq_of_beq_eq_true hb
    subst this
    simp only [hb, cond_true] at hc
    split at hc
    · simp only [Option.some.injEq, Prod.mk.injEq] at hc
      obtain ⟨rfl, rfl, rfl, rfl⟩ := hc
      exact c26 _ (hs _ rfl) L
    · cases hc

def backT (l : List Int) (i : Nat) : List Int := (List.range l.length).map fun (j : Nat) => if 0 ≤ idxOf l ((j : Int) + 1) ∧ idxOf l ((j : Int) + 1) < i then idxOf l ((j : Int) + 1) + 1 else (0 : Int)
theorem backT_get (l : List Int) (i j : Nat) (h : j < (backT l i).length) : (backT l i)[j] = if 0 ≤ idxOf l ((j : Int) + 1) ∧ idxOf l ((j : Int) + 1) < i then idxOf l ((j : Int) + 1) + 1 else (0 : Int) := by simp [backT]
theorem backT_len (l : List Int) (i : Nat) : (backT l i).length = l.length := by simp [backT]
theorem backT_zero (l : List Int) : backT l 0 = List.replicate l.length 0 := by
  unfold backT
  apply List.ext_getElem (by simp)
  intro n h1 h2
  simp only [List.getElem_map, List.getElem_replicate]
  rw [if_neg (by omega)]
theorem idxOf_bd (l : List Int) (x : Int) : -1 ≤ idxOf l x ∧ idxOf l x < l.length := by
  unfold idxOf
  split
  · rename_i h; have := List.idxOf_lt_length_of_mem h; omega
  · omega
theorem idxOf_mem {l : List Int} {x : Int} (h : x ∈ l) : 0 ≤ idxOf l x ∧ l.getD (idxOf l x).toNat 0 = x := by
  unfold idxOf
  rw [if_pos h]
  have := List.idxOf_lt_length_of_mem h
  simp [this]
theorem backT_end {l : List Int} (h : Perm l) : backT l l.length = (backS l).l := by
  unfold backT backS tab
  simp only
  apply List.map_congr_left
  intro j hj
  have := idxOf_bd l ((j : Int) + 1)
  have := (idxOf_mem (h.all j (by simpa using hj))).1
  rw [if_pos (by omega)]
theorem Perm.idx {l : List Int} (h : Perm l) {i : Nat} (hi : i < l.length) : idxOf l (l.getD i 0) = i := by
  have h1 : l.getD i 0 = l[i] := by simp [hi]
  have hm : l[i] ∈ l := List.getElem_mem hi
  unfold idxOf
  rw [h1, if_pos hm, List.Nodup.idxOf_getElem h.nodup]
theorem backT_succ {l : List Int} (h : Perm l) {i : Nat} (hi : i < l.length) : (backT l i).set (l.getD i 0 - 1).toNat ((i : Int) + 1) = backT l (i + 1) := by
  have hg := h.get hi
  apply List.ext_getElem (by simp [backT_len])
  intro j h1 h2
  rw [backT_len] at h2
  rw [List.getElem_set, backT_get, backT_get]
  have hx := idxOf_mem (h.all j h2)
  split
  · rename_i hj
    have : ((j : Int) + 1) = l.getD i 0 := by omega
    rw [this, h.idx hi, if_pos (by omega)]
  · rename_i hj
    have : idxOf l ((j : Int) + 1) ≠ i := by
      intro e
      rw [e] at hx
      simp only [Int.toNat_natCast] at hx
      omega
    by_cases hq : 0 ≤ idxOf l ((j : Int) + 1) ∧ idxOf l ((j : Int) + 1) < i
    · rw [if_pos hq, if_pos (by omega)]
    · rw [if_neg hq, if_neg (by omega)]

theorem c39 (p : Sl Int) (hp : Perm p.l) : PCalls Try.prog 39 [.sl (.int .u8) p] (fun d => d = .sl (.int .u8) (backS p.l)) := by
  refine PCalls.go ok ck26 (c := d39) (rs := r39) Try.func39 rfl (by kernel_rfl) (by kernel_rfl) rfl rfl rfl ?_
  simp (config := { maxSteps := 20000000 }) only [d39, r39, go_reg, go_seq, go_block, go_loop, go_ops0, go_opsK, keepM, FB, Nat.reducePow, Nat.reduceDiv, Nat.reduceMod, go_opsP, go_opsE, endP, unS_and, bif_tt, nilqD, eff1, wantD, dpure, ev, lk, putD, killT, newO, argsD, nbeqB,  ↓cond_true, ↓cond_false, Option.map_some, sideP, lenD, Ty.zero, Ty.D, decide_false, Nat.reduceAdd, beq_self_eq_true, Nat.reduceLeDiff, Nat.reduceBEq, Bool.or_true, Bool.or_self]
  unfold backS
  have hl := hp.len
  refine ⟨⟨by omega, by omega, by omega, by omega⟩, ?_⟩
  refine DWc.loopG ok ck26 (α := Nat) (fun i => ⟨[(11, .int .i64 i), (10, .int .i64 p.l.length), (9, .sl (.int .u8) p), (3, .osl 3 (.int .u8) 0 p.l.length (some p.l.length))], ⟨4, 0, [(3, .arr (.int .u8) (backT p.l i))]⟩⟩) (fun i => i ≤ p.l.length) (fun i => p.l.length - i) 0 ?_ ?_ ?_
  · refine DEnt.of ?_; simp only [entD, entS, entO, Loc.kill, lk, lkO, Loc.kill, nbeqB,  ↓cond_true, ↓cond_false, DV.kill, geN, beq_self_eq_true, Nat.ble, eq_self, and_true, true_and, and_self, Nat.zero_le, Nat.reduceBEq, Int.toNat_natCast, DV.int.injEq, true_and, and_true, eq_self]
    rw [backT_zero]
    exact ⟨rfl, rfl⟩
  · simp
  · intro i hi
    simp only [l39_0, go_nil, go_skip, go_reg, go_seq, go_cond, go_block, go_exit, go_ret, go_gh, go_codeX, go_ops0, go_opsK, keepM, FB, Nat.reducePow, Nat.reduceDiv, Nat.reduceMod, go_opsP, go_opsE, go_blkN, go_blkX, go_rndN, go_rndX, unS_and, bif_tt, unl, nilqD, eff1, eStore, gh1, wantD, dpure, ev, lk, putD, killT, lkO, stO, setO, nbeqB,  ↓cond_true, ↓cond_false, Option.map_some, sideP, dBin, dIdx, dLoad, asTy, unflat, DV.cellA, DV.cell, setAllD, subT, flat, Ty.size, Ty.isAgg, Ty.zero, Ty.D, fnQ, dress, dres1, unl, finDV, frzV, sidesP, DV.kill, decide_true, decide_false, Nat.zero_add, beq_self_eq_true, Bool.and_self, if_true, Nat.ble, List.length_cons, List.length_nil, List.all_cons, List.all_nil, List.getD_cons_zero, dite_true, eq_self, List.set_cons_zero, List.drop_zero, true_and, Nat.reduceLeDiff, Nat.reduceBEq, Bool.or_true, Bool.or_self, brB_eq, decide_eq_true_eq, decide_eq_false_iff_not, Int.not_lt, Int.toNat_natCast, true_and, eq_self]
    refine ⟨fun h => ?_, fun h => ?_⟩
    · have hg := hp.get (i := i) (by omega)
      rw [wrap64' (i := (i : Int) + 1) (by omega), wrapU8 (i := p.l.getD i 0 - 1) (by omega), wrapU8 (i := (i : Int) + 1) (by omega), backT_succ hp (by omega)]
      refine ⟨by omega, by omega, by rw [backT_len]; omega, i + 1, by omega, by omega, ?_⟩
      refine DEnt.of ?_; simp only [entD, entS, entO, Loc.kill, lk, lkO, Loc.kill, nbeqB,  ↓cond_true, ↓cond_false, DV.kill, geN, beq_self_eq_true, Nat.ble, eq_self, and_true, true_and, and_self, Nat.zero_le, Nat.reduceBEq, DV.int.injEq, true_and, and_true, eq_self]
      rfl
    · have : i = p.l.length := by omega
      subst this
      refine ⟨by rw [backT_len]; omega, ?_⟩
      rw [List.take_of_length_le (by rw [backT_len]; omega), backT_end hp]
      rfl
def CO39 : CF := fun f args L => bif Nat.beq f 39 then (match args with
  | [.sl (.int .u8) p] => some (some (Perm p.l), .sl (.int .u8) (backS p.l), L, [])
  | _ => none) else CO26 f args L
theorem ck39 : CFOk Try.prog CO39 := by
  intro f args L side d L' ks hc hs
  unfold CO39 at hc
  cases hb : Nat.beq f 39 with
  | false => rw [hb] at hc; exact ck26 f args L side d L' ks hc hs
  | true =>
    have := Nat.eq_of_beq_eq_true hb
    subst this
    simp only [hb, cond_true] at hc
    split at hc
    · simp only [Option.some.injEq, Prod.mk.injEq] at hc
      obtain ⟨rfl, rfl, rfl, rfl⟩ := hc
      exact c39 _ (hs _ rfl) L
    · cases hc
theorem c25 (p : Sl Int) (hp : Perm p.l) : PCalls Try.prog 25 [.sl (.int .u8) p] (fun d => d = .tup [.sl (.int .u8) (backS p.l), .int .i64 0]) := by
  refine PCalls.go ok ck39 (c := d25) (rs := r25) Try.func25 rfl (by kernel_rfl) (by kernel_rfl) rfl rfl rfl ?_
  simp (config := { maxSteps := 20000000 }) only [d25, r25, go_nil, go_skip, go_reg, go_seq, go_cond, go_ret, go_gh, go_codeR, go_ops0, go_opsK, keepM, FB, Nat.reducePow, Nat.reduceDiv, Nat.reduceMod, go_opsP, go_opsC, endP, brB_not, brB_dec, unS_and, bif_tt, unl, callD, gh1, wantD, dpure, ev, evs, lk, putD, killT, argsD, nbeqB,  ↓cond_true, ↓cond_false, Option.map_some, sideP, dBin, Ty.D, fnQ, dress, dres1, unl, finDV, frzV, frzVs, sidesP, DV.kill, DV.killL, decide_true, decide_false, beq_self_eq_true, List.append_nil, eq_self, and_true, true_and, Nat.reduceLeDiff, and_self, Nat.reduceBEq, Bool.or_true, Bool.or_self, CO39, CO12, CO30, CO42, CO43, CO40, CO27, CO24, CO26]
  have h1 := hp.chk
  have h3 := hp.len
  refine ⟨by omega, fun _ => hp, fun q => absurd h1 q⟩
def CO25 : CF := fun f args L => bif Nat.beq f 25 then (match args with
  | [.sl (.int .u8) p] => some (some (Perm p.l), .tup [.sl (.int .u8) (backS p.l), .int .i64 0], L, [])
  | _ => none) else CO39 f args L
theorem ck25 : CFOk Try.prog CO25 := by
  intro f args L side d L' ks hc hs
  unfold CO25 at hc
  cases hb : Nat.beq f 25 with
  | false => rw [hb] at hc; exact ck39 f args L side d L' ks hc hs
  | true =>
    have := Nat.eq_of_beq_eq_true hb
    subst this
    simp only [hb, cond_true] at hc
    split at hc
    · simp only [Option.some.injEq, Prod.mk.injEq] at hc
      obtain ⟨rfl, rfl, rfl, rfl⟩ := hc
      exact c25 _ (hs _ rfl) L
    · cases hc

def U8s (l : List Int) : Prop := ∀ x ∈ l, 0 ≤ x ∧ x < 256
def sameB (p q : List Int) (c : Nat) : Bool := decide (p = q ∧ c = p.length)
def upTo (n : Nat) : List Int := (List.range n).map fun (j : Nat) => (j : Int) + 1
theorem upTo_len (n : Nat) : (upTo n).length = n := by simp [upTo]
theorem upTo_succ (n : Nat) : upTo n ++ [(n : Int) + 1] = upTo (n + 1) := by simp [upTo, List.range_succ]
theorem bytesOf_inj {a b : List Int} (ha : U8s a) (hb : U8s b) (h : bytesOf a = bytesOf b) : a = b := by
  have h1 : a.map (fun i => UInt8.ofNat i.toNat) = b.map (fun i => UInt8.ofNat i.toNat) := by
    have := congrArg (fun x : ByteArray => x.data.toList) h
    simpa [bytesOf] using this
  clear h
  induction a generalizing b with
  | nil => cases b with
    | nil => rfl
    | cons y b => simp at h1
  | cons x a ih => cases b with
    | nil => simp at h1
    | cons y b =>
      simp only [List.map_cons, List.cons.injEq] at h1
      have hx := ha x (List.mem_cons_self ..)
      have hy := hb y (List.mem_cons_self ..)
      have h2 := congrArg UInt8.toNat h1.1
      rw [UInt8.toNat_ofNat', UInt8.toNat_ofNat', Nat.mod_eq_of_lt (by omega), Nat.mod_eq_of_lt (by omega)] at h2
      rw [show x = y by omega, ih (fun z hz => ha z (List.mem_cons_of_mem _ hz)) (fun z hz => hb z (List.mem_cons_of_mem _ hz)) h1.2]

theorem c14a (p : List Int) (c : Nat) (q : Sl Int) (hp : U8s p ∧ U8s q.l) : PCalls Try.prog 14 [.sl (.int .u8) ⟨p, some c⟩, .sl (.int .u8) q] (fun d => d = .bool (sameB p q.l c)) := by
  refine PCalls.go ok ck25 (c := d14) (rs := r14) Try.func14 rfl (by kernel_rfl) (by kernel_rfl) rfl rfl rfl ?_
  simp (config := { maxSteps := 20000000 }) only [d14, r14, go_nil, go_reg, go_seq, go_ret, go_ops0, go_opsK, go_opsM, keepM, dropM, FB, Nat.reducePow, Nat.reduceDiv, Nat.reduceMod, go_opsP, endP, ↓brM_true, ↓brM_false, unS_stp, brM_mm, bif_ff, bif_tt, unl, wantD, dpure, ev, lk, putD, argsD, nbeqB,  ↓cond_true, ↓cond_false, Option.map_some, sideP, lenD, capD, dBin, dPick, dToS, Ty.D, fnQ, dress, dres1, unl, finDV, frzV, sidesP, DV.kill, decide_true, decide_false, Nat.zero_add, beq_self_eq_true, bFT, Bool.and_true, eq_self, Nat.reduceLeDiff, Nat.reduceBEq, Bool.or_true, Bool.or_self]
  have : decide (bytesOf p = bytesOf q.l) = decide (p = q.l) := by
    by_cases h : p = q.l
    · simp [h]
    · simp only [h, decide_false, decide_eq_false_iff_not]
      exact fun e => h (bytesOf_inj hp.1 hp.2 e)
  rw [this]
  have h2 : decide ((c : Int) = p.length) = decide (c = p.length) := by by_cases h : c = p.length <;> simp [h] <;> omega
  rw [h2]
  unfold sameB
  rw [Bool.decide_and]

theorem c14 (p q : Sl Int) (h : p.cap ≠ none ∧ U8s p.l ∧ U8s q.l) : PCalls Try.prog 14 [.sl (.int .u8) p, .sl (.int .u8) q] (fun d => d = .bool (sameB p.l q.l (p.cap.getD 0))) := by
  obtain ⟨p, c⟩ := p
  cases c with
  | none => exact absurd rfl h.1
  | some c => exact c14a p c q h.2

def CO14 : CF := fun f args L => bif Nat.beq f 14 then (match args with
  | [.sl (.int .u8) p, .sl (.int .u8) q] => some (some (p.cap ≠ none ∧ U8s p.l ∧ U8s q.l), .bool (sameB p.l q.l (p.cap.getD 0)), L, [])
  | _ => none) else CO25 f args L
theorem ck14 : CFOk Try.prog CO14 := by
  intro f args L side d L' ks hc hs
  unfold CO14 at hc
  cases hb : Nat.beq f 14 with
  | false => rw [hb] at hc; exact ck25 f args L side d L' ks hc hs
  | true =>
    have := Nat.eq_of_beq_eq_true hb
    subst this
    simp only [hb, cond_true] at hc
    split at hc
    · simp only [Option.some.injEq, Prod.mk.injEq] at hc
      obtain ⟨rfl, rfl, rfl, rfl⟩ := hc
      exact c14 _ _ (hs _ rfl) L
    · cases hc

/-- A turn of the choice of a permutation. -/
def ofStep (p : List Int) (i : Nat) (s : List Int × List Int) : List Int × List Int :=
  let k := if i < p.length then (p.getD i 0 % s.2.length).toNat else 0
  (s.1 ++ [s.2.getD k 0], s.2.take k ++ s.2.drop (k + 1))
def ofN (p : List Int) : Nat := min (max p.length 1) 8
def ofSt (p : List Int) : Nat → List Int × List Int
  | 0 => ([], upTo (ofN p))
  | i + 1 => ofStep p i (ofSt p i)
def ofS (p : List Int) : Sl Int := ⟨(ofSt p (ofN p)).1, none⟩
theorem ofSt_len (p : List Int) (i : Nat) (h : i ≤ ofN p) : (ofSt p i).1.length = i ∧ (ofSt p i).2.length = ofN p - i := by
  induction i with
  | zero => simp [ofSt, upTo_len]
  | succ i ih =>
    obtain ⟨h1, h2⟩ := ih (by omega)
    refine ⟨by simp [ofSt, ofStep, h1], ?_⟩
    have hk : (if i < p.length then (p.getD i 0 % ((ofSt p i).2.length : Int)).toNat else 0) < (ofSt p i).2.length := by
      split
      · have := Int.emod_lt_of_pos (p.getD i 0) (b := ((ofSt p i).2.length : Int)) (by omega)
        have := Int.emod_nonneg (p.getD i 0) (b := ((ofSt p i).2.length : Int)) (by omega)
        omega
      · omega
    simp only [ofSt, ofStep]
    generalize (if i < p.length then (p.getD i 0 % ((ofSt p i).2.length : Int)).toNat else 0) = k at hk
    rw [List.length_append, List.length_take, List.length_drop]
    omega
theorem ofSt_perm (p : List Int) (i : Nat) (h : i ≤ ofN p) : ((ofSt p i).1 ++ (ofSt p i).2).Perm (upTo (ofN p)) := by
  induction i with
  | zero => exact List.Perm.refl _
  | succ i ih =>
    refine List.Perm.trans ?_ (ih (by omega))
    obtain ⟨h1, h2⟩ := ofSt_len p i (by omega)
    have hk : (if i < p.length then (p.getD i 0 % ((ofSt p i).2.length : Int)).toNat else 0) < (ofSt p i).2.length := by
      split
      · have := Int.emod_lt_of_pos (p.getD i 0) (b := ((ofSt p i).2.length : Int)) (by omega)
        have := Int.emod_nonneg (p.getD i 0) (b := ((ofSt p i).2.length : Int)) (by omega)
        omega
      · omega
    simp only [ofSt, ofStep]
    generalize (if i < p.length then (p.getD i 0 % ((ofSt p i).2.length : Int)).toNat else 0) = k at hk
    rw [List.append_assoc]
    refine List.Perm.append_left _ ?_
    rw [List.singleton_append]
    have e : (ofSt p i).2.getD k 0 = (ofSt p i).2[k] := by simp [hk]
    rw [e]
    have h3 : (ofSt p i).2 = (ofSt p i).2.take k ++ (ofSt p i).2[k] :: (ofSt p i).2.drop (k + 1) := by simp
    conv => rhs; rw [h3]
    exact List.perm_middle.symm
theorem ofS_perm (p : List Int) : Perm (ofS p).l := by
  have h := ofSt_perm p (ofN p) (Nat.le_refl _)
  have h1 := ofSt_len p (ofN p) (Nat.le_refl _)
  have h2 : (ofSt p (ofN p)).2 = [] := List.eq_nil_of_length_eq_zero (by omega)
  rw [h2, List.append_nil] at h
  have hl : (ofSt p (ofN p)).1.length = ofN p := h1.1
  refine ⟨?_, fun x hx => ?_, fun i hi => ?_, ?_⟩
  · show 1 ≤ (ofSt p (ofN p)).1.length ∧ (ofSt p (ofN p)).1.length ≤ 8
    rw [hl]; unfold ofN; omega
  · have hx : x ∈ (ofSt p (ofN p)).1 := hx
    show 1 ≤ x ∧ x ≤ (ofSt p (ofN p)).1.length
    rw [hl]
    have := h.mem_iff.1 hx
    simp only [upTo, List.mem_map, List.mem_range] at this
    obtain ⟨i, hi, rfl⟩ := this
    omega
  · have hi : i < (ofSt p (ofN p)).1.length := hi
    show ((i : Int) + 1) ∈ (ofSt p (ofN p)).1
    rw [hl] at hi
    apply h.mem_iff.2
    simp only [upTo, List.mem_map, List.mem_range]
    exact ⟨i, hi, rfl⟩
  · apply h.nodup_iff.2
    rw [upTo, List.nodup_iff_pairwise_ne, List.pairwise_map]
    exact List.Pairwise.imp (fun {a b} hab => by omega) List.pairwise_lt_range
theorem ofS_len (p : List Int) : (ofS p).l.length = ofN p := (ofSt_len p (ofN p) (Nat.le_refl _)).1

theorem c8 (p : Sl Int) (hp : U8s p.l) : PCalls Try.prog 8 [.sl (.int .u8) p] (fun d => d = .sl (.int .u8) (ofS p.l)) := by
  refine PCalls.go ok ck14 (c := d8) (rs := r8) Try.func8 rfl (by kernel_rfl) (by kernel_rfl) rfl rfl rfl ?_
  simp (config := { maxSteps := 20000000 }) only [d8, r8, go_reg, go_seq, go_block, go_loop, go_ops0, go_opsK, keepM, FB, Nat.reducePow, Nat.reduceDiv, Nat.reduceMod, go_opsG2, go_opsP, endP, bif_tt, gh1, wantD, dpure, ev, evs, lk, putD, newO, argsD, nbeqB,  ↓cond_true, ↓cond_false, Option.map_some, sideP, lenD, dMm, dMmGo, Ty.D, decide_true, decide_false, Nat.reduceAdd, beq_self_eq_true, eq_self, true_and, Nat.reduceLeDiff, Nat.reduceBEq, Bool.or_true, Bool.or_self]
  have hN : min (max (p.l.length : Int) 1) 8 = (ofN p.l : Int) := by unfold ofN; omega
  have hN8 : ofN p.l ≤ 8 := by unfold ofN; omega
  rw [hN]
  refine DWc.loopG ok ck14 (α := Nat) (fun i => ⟨[(5, .int .i64 ((i : Int) + 1)), (4, .osl 3 (.int .u8) 0 i none), (3, .int .i64 (ofN p.l)), (0, .sl (.int .u8) p)], ⟨4, 0, [(3, .arr (.int .u8) (upTo i))]⟩⟩) (fun i => i ≤ ofN p.l) (fun i => ofN p.l - i) 0 ?_ ?_ ?_
  · refine DEnt.of ?_; simp only [entD, entS, entO, Loc.kill, lk, lkO, Loc.kill, nbeqB,  ↓cond_true, ↓cond_false, DV.kill, geN, beq_self_eq_true, Nat.ble, eq_self, and_true, true_and, and_self, Nat.zero_le, Nat.reduceBEq, DV.int.injEq, true_and, and_true, eq_self]
    exact ⟨rfl, rfl⟩
  · simp
  · intro i hi
    simp only [l8_0, go_nil, go_skip, go_reg, go_seq, go_cond, go_block, go_loop, go_exit, go_codeX, go_ops0, go_opsK, keepM, FB, Nat.reducePow, Nat.reduceDiv, Nat.reduceMod, go_opsG2, go_opsP, go_opsE, go_blkN, go_blkX, go_rndN, go_rndX, unS_and, bif_tt, nilqD, eff1, eApp, gh1, List.map_cons, List.map_nil, wantD, dpure, ev, evs, lk, putD, killT, memN, List.any_cons, List.any_nil, Bool.or_false, lkO, stO, newO, renew, killO, Loc.kill, nbeqB,  ↓cond_true, ↓cond_false, Option.map_some, sideP, dBin, elB, elemsOf, asTy, unflat, DV.cellA, DV.cell, Ty.D, DV.kill, decide_true, decide_false, Nat.reduceAdd, Nat.zero_add, beq_self_eq_true, Bool.and_self, if_true, Nat.ble, List.length_cons, List.length_nil, dite_true, eq_self, List.drop_zero, List.take_succ_cons, true_and, Nat.reduceLeDiff, Nat.le_refl, List.take_nil, Nat.reduceBEq, Bool.or_true, Bool.or_self, brB_eq, decide_eq_true_eq, decide_eq_false_iff_not, Int.not_le, true_and, eq_self]
    refine ⟨fun h => ?_, fun h => ?_⟩
    · have e1 : List.take i (upTo i) ++ [(i : Int) + 1] = upTo (i + 1) := by rw [List.take_of_length_le (by rw [upTo_len]; omega), upTo_succ]
      rw [wrapU8 (i := (i : Int) + 1) (by omega), wrap64' (by omega)]
      refine ⟨⟨by rw [upTo_len]; omega, by omega⟩, i + 1, by omega, by omega, ?_⟩
      refine DEnt.of ?_; simp only [entD, entS, entO, Loc.kill, lk, lkO, Loc.kill, nbeqB,  ↓cond_true, ↓cond_false, DV.kill, geN, beq_self_eq_true, Nat.ble, eq_self, and_true, true_and, and_self, Nat.zero_le, Nat.reduceBEq, DV.int.injEq, true_and, and_true, eq_self]
      exact ⟨rfl, congrArg (Loc.arr (.int .u8)) e1⟩
    · have : i = ofN p.l := by omega
      subst this
      refine DWc.loopG ok ck14 (α := Nat) (fun i => ⟨[(7, .int .i64 (i : Int)), (6, .osl 4 (.int .u8) 0 i none), (4, .osl 3 (.int .u8) 0 (ofN p.l - i) none), (3, .int .i64 (ofN p.l)), (0, .sl (.int .u8) p)], ⟨5, 0, [(4, .arr (.int .u8) (ofSt p.l i).1), (3, .arr (.int .u8) (ofSt p.l i).2)]⟩⟩) (fun i => i ≤ ofN p.l) (fun i => ofN p.l - i) 0 ?_ ?_ ?_
      · refine DEnt.of ?_; simp only [entD, entS, entO, Loc.kill, lk, lkO, Loc.kill, nbeqB,  ↓cond_true, ↓cond_false, DV.kill, geN, beq_self_eq_true, Nat.ble, eq_self, and_true, true_and, and_self, Nat.zero_le, Nat.reduceBEq, DV.int.injEq, true_and, and_true, eq_self]
        exact ⟨⟨rfl, rfl⟩, rfl, rfl⟩
      · simp
      · intro i hi
        obtain ⟨hl1, hl2⟩ := ofSt_len p.l i hi
        simp only [l8_1, go_nil, go_skip, go_reg, go_seq, go_cond, go_block, go_exit, go_ret, go_gh, go_codeX, go_ops0, go_opsK, keepM, FB, Nat.reducePow, Nat.reduceDiv, Nat.reduceMod, go_opsP, go_opsE, go_blkN, go_blkX, go_rndN, go_rndX, unS_and, bif_tt, unl, nilqD, eff1, eApp, gh1, List.map_cons, List.map_nil, wantD, dpure, ev, evs, evO, lk, putD, killT, memN, List.any_cons, List.any_nil, Bool.or_false, lkO, stO, newO, renew, killO, Loc.kill, nbeqB,  ↓cond_true, ↓cond_false, Option.map_some, sideP, lenD, dBin, dIdx, dLoad, dSlc, elB, elemsOf, asTy, unflat, DV.cellA, DV.cell, subT, flat, Ty.size, Ty.isAgg, Ty.zero, Ty.D, fnQ, dress, dres1, unl, finDV, frzV, sidesP, DV.kill, decide_true, decide_false, Nat.reduceAdd, Nat.zero_add, Nat.add_zero, beq_self_eq_true, Bool.and_self, if_true, Option.getD_none, Option.getD_some, Nat.ble, List.length_cons, List.length_nil, List.getD_cons_zero, dite_true, eq_self, List.drop_zero, List.take_succ_cons, List.take_zero, true_and, Nat.reduceLeDiff, Nat.le_refl, Int.reduceLE, Int.toNat_zero, Nat.zero_le, Int.zero_add, Int.sub_zero, List.take_nil, Nat.reduceBEq, Bool.or_true, Bool.or_self, brB_eq, decide_eq_true_eq, decide_eq_false_iff_not, Int.not_lt, Int.toNat_natCast, true_and, eq_self]
        refine ⟨fun h => ⟨fun h2 => ?_, fun h2 => ?_⟩, fun h => ?_⟩
        · obtain ⟨k, hk, hkk⟩ : ∃ k : Nat, (IntKind.i64.wrap (p.l.getD i 0)).tmod ((ofN p.l - i : Nat) : Int) = (k : Int) ∧ k < ofN p.l - i ∧ (if i < p.l.length then (p.l.getD i 0 % ((ofSt p.l i).2.length : Int)).toNat else 0) = k := by
            have hb : 0 ≤ p.l.getD i 0 ∧ p.l.getD i 0 < 256 := by
              have : p.l.getD i 0 = p.l[i]'(by omega) := by simp [show i < p.l.length by omega]
              rw [this]; exact hp _ (List.getElem_mem _)
            have h3 := Int.emod_lt_of_pos (p.l.getD i 0) (b := ((ofN p.l - i : Nat) : Int)) (by omega)
            have h4 := Int.emod_nonneg (p.l.getD i 0) (b := ((ofN p.l - i : Nat) : Int)) (by omega)
            refine ⟨(p.l.getD i 0 % ((ofN p.l - i : Nat) : Int)).toNat, ?_, by omega, ?_⟩
            · rw [wrap64' (by omega), Int.tmod_eq_emod_of_nonneg hb.1]; omega
            · rw [if_pos (by omega), hl2]
          have hst : ofSt p.l (i + 1) = ((ofSt p.l i).1 ++ [(ofSt p.l i).2.getD k 0], (ofSt p.l i).2.take k ++ (ofSt p.l i).2.drop (k + 1)) := by
            simp only [ofSt, ofStep, hkk.2]
          have h1 : ((k : Int) + 1).toNat = k + 1 := by omega
          rw [hk, wrap64' (i := (k : Int) + 1) (by omega), wrap64' (i := (i : Int) + 1) (by omega)]
          simp only [Int.toNat_natCast, h1]
          refine ⟨by omega, by omega, by omega, by omega, by omega, by omega, by omega, ⟨by omega, by omega, ?_⟩, i + 1, by omega, by omega, ?_⟩
          · simp; omega
          · refine DEnt.of ?_; simp only [entD, entS, entO, Loc.kill, lk, lkO, Loc.kill, nbeqB,  ↓cond_true, ↓cond_false, DV.kill, geN, beq_self_eq_true, Nat.ble, eq_self, and_true, true_and, and_self, Nat.zero_le, Nat.reduceBEq, DV.int.injEq, true_and, and_true, eq_self]
            have e1 : List.take (ofN p.l - i - (k + 1)) (List.drop (k + 1) (ofSt p.l i).2) = List.drop (k + 1) (ofSt p.l i).2 := List.take_of_length_le (by simp; omega)
            rw [hst]
            refine ⟨⟨rfl, ?_⟩, congrArg (Loc.arr (.int .u8)) ?_, congrArg (Loc.arr (.int .u8)) ?_⟩
            · congr 1; simp; omega
            · rw [List.take_of_length_le (by omega)]; rfl
            · rw [e1]; rfl
        · have hkk : (if i < p.l.length then (p.l.getD i 0 % ((ofSt p.l i).2.length : Int)).toNat else 0) = 0 := if_neg (by omega)
          have hst : ofSt p.l (i + 1) = ((ofSt p.l i).1 ++ [(ofSt p.l i).2.getD 0 0], (ofSt p.l i).2.take 0 ++ (ofSt p.l i).2.drop 1) := by
            simp only [ofSt, ofStep, hkk]
          have h1 : (1 : Int).toNat = 1 := rfl
          rw [wrap64' (i := 1) (by omega), wrap64' (i := (i : Int) + 1) (by omega)]
          simp only [h1]
          refine ⟨by omega, by omega, by omega, by omega, by omega, ⟨by omega, ?_⟩, i + 1, by omega, by omega, ?_⟩
          · simp; omega
          · refine DEnt.of ?_; simp only [entD, entS, entO, Loc.kill, lk, lkO, Loc.kill, nbeqB,  ↓cond_true, ↓cond_false, DV.kill, geN, beq_self_eq_true, Nat.ble, eq_self, and_true, true_and, and_self, Nat.zero_le, Nat.reduceBEq, DV.int.injEq, true_and, and_true, eq_self]
            have e1 : List.take (ofN p.l - i - 1) (List.drop 1 (ofSt p.l i).2) = List.drop 1 (ofSt p.l i).2 := List.take_of_length_le (by simp; omega)
            rw [hst]
            refine ⟨⟨rfl, ?_⟩, congrArg (Loc.arr (.int .u8)) ?_, congrArg (Loc.arr (.int .u8)) ?_⟩
            · congr 1; simp; omega
            · rw [List.take_of_length_le (by omega)]; rfl
            · rw [e1]; rfl
        · have : i = ofN p.l := by omega
          subst this
          refine ⟨by omega, ?_⟩
          rw [List.take_of_length_le (by omega)]
          rfl
def CO8 : CF := fun f args L => bif Nat.beq f 8 then (match args with
  | [.sl (.int .u8) p] => some (some (U8s p.l), .sl (.int .u8) (ofS p.l), L, [])
  | _ => none) else CO14 f args L
theorem ck8 : CFOk Try.prog CO8 := by
  intro f args L side d L' ks hc hs
  unfold CO8 at hc
  cases hb : Nat.beq f 8 with
  | false => rw [hb] at hc; exact ck14 f args L side d L' ks hc hs
  | true =>
    have := Nat.eq_of_beq_eq_true hb
    subst this
    simp only [hb, cond_true] at hc
    split at hc
    · simp only [Option.some.injEq, Prod.mk.injEq] at hc
      obtain ⟨rfl, rfl, rfl, rfl⟩ := hc
      exact c8 _ (hs _ rfl) L
    · cases hc

def padS (p : List Int) (k : Nat) : List Int := p ++ List.replicate k 0
theorem padS_len (p : List Int) (k : Nat) : (padS p k).length = p.length + k := by simp [padS]
theorem padS_succ (p : List Int) (k : Nat) : (padS p k).take (p.length + k) ++ [0] = padS p (k + 1) := by
  rw [List.take_of_length_le (by rw [padS_len]; omega)]
  unfold padS
  rw [List.append_assoc, List.replicate_succ']
theorem padS_u8 {p : List Int} (h : U8s p) (k n : Nat) : U8s ((padS p k).take n) := by
  intro x hx
  have := List.mem_of_mem_take hx
  unfold padS at this
  rcases List.mem_append.1 this with q | q
  · exact h x q
  · have := List.eq_of_mem_replicate q; omega
def asS (p : List Int) (n : Int) : Sl Int := ofS ((padS p (n.toNat - p.length)).take n.toNat)

theorem c9 (p : Sl Int) (n : Int) (hp : U8s p.l ∧ 1 ≤ n ∧ n ≤ 8 ∧ p.l.length ≤ 140737488351232) : PCalls Try.prog 9 [.sl (.int .u8) p, .int .i64 n] (fun d => d = .sl (.int .u8) (asS p.l n)) := by
  refine PCalls.go ok ck8 (c := d9) (rs := r9) Try.func9 rfl (by kernel_rfl) (by kernel_rfl) rfl rfl rfl ?_
  simp (config := { maxSteps := 20000000 }) only [d9, r9, go_reg, go_seq, go_block, go_loop, go_ops0, go_opsK, keepM, FB, Nat.reducePow, Nat.reduceDiv, Nat.reduceMod, go_opsP, go_opsE, endP, unS_and, bif_tt, nilqD, eff1, eApp, List.map_cons, List.map_nil, wantD, dpure, ev, evs, lk, putD, killT, memN, List.any_cons, List.any_nil, Bool.or_false, lkO, stO, newO, renew, killO, Loc.kill, argsD, nbeqB,  ↓cond_true, ↓cond_false, Option.map_some, sideP, elB, elemsOf, Ty.D, DV.kill, decide_false, Nat.reduceAdd, Nat.zero_add, beq_self_eq_true, Bool.and_self, if_true, Nat.ble, List.length_nil, dite_true, eq_self, true_and, Nat.reduceLeDiff, Nat.le_refl, List.take_nil, Nat.reduceBEq, Bool.or_true, Bool.or_self]
  obtain ⟨h1, h2, h3, h4⟩ := hp
  refine ⟨by omega, ?_⟩
  refine DWc.loopG ok ck8 (α := Nat) (fun k => ⟨[(5, .osl 3 (.int .u8) 0 (p.l.length + k) none), (1, .int .i64 n)], ⟨4, 0, [(3, .arr (.int .u8) (padS p.l k))]⟩⟩) (fun k => k = 0 ∨ ((p.l.length + k : Nat) : Int) ≤ n) (fun k => n.toNat - (p.l.length + k)) 0 ?_ ?_ ?_
  · refine DEnt.of ?_; simp only [entD, entS, entO, Loc.kill, lk, lkO, Loc.kill, nbeqB,  ↓cond_true, ↓cond_false, DV.kill, geN, Nat.add_zero, beq_self_eq_true, Nat.ble, eq_self, and_true, true_and, and_self, Nat.zero_le, Nat.reduceBEq, true_and, and_true, eq_self]
    exact congrArg (Loc.arr (.int .u8)) (by unfold padS; simp; rfl)
  · simp
  · intro k hk
    simp only [l9_0, go_nil, go_skip, go_reg, go_seq, go_cond, go_block, go_exit, go_ret, go_gh, go_codeX, go_ops0, go_opsK, keepM, FB, Nat.reducePow, Nat.reduceDiv, Nat.reduceMod, go_opsG1, go_opsP, go_opsE, go_opsC, go_blkN, go_blkX, go_rndN, go_rndX, unS_and, bif_tt, unl, callD, nilqD, eff1, eApp, gh1, frzP, frzOne, List.map_cons, List.map_nil, wantD, dpure, ev, evs, evO, lk, putD, killT, memN, List.any_cons, List.any_nil, Bool.or_false, lkO, stO, rmO, newO, renew, killO, Loc.kill, nbeqB,  ↓cond_true, ↓cond_false, Option.map_some, Option.map_none, sideP, lenD, dBin, dSlc, elB, elemsOf, asTy, unflat, DV.cellA, DV.cell, Ty.size, Ty.D, fnQ, dress, dres1, unl, finDV, frzV, sidesP, DV.kill, decide_true, decide_false, Nat.reduceAdd, Nat.zero_add, Nat.add_zero, beq_self_eq_true, Bool.and_self, if_true, Option.getD_none, Nat.ble, List.length_cons, List.length_nil, dite_true, eq_self, List.drop_zero, List.take_succ_cons, and_true, true_and, Nat.reduceLeDiff, Nat.le_refl, and_self, Int.reduceLE, Int.toNat_zero, Int.sub_zero, List.take_nil, Nat.reduceBEq, Bool.or_true, Bool.or_self, CO8, brB_eq, decide_eq_true_eq, decide_eq_false_iff_not, Int.not_lt, true_and, and_true, eq_self]
    refine ⟨fun h => ?_, fun h => ?_⟩
    · refine ⟨⟨by rw [padS_len]; omega, by omega⟩, k + 1, by omega, .inr (by omega), ?_⟩
      refine DEnt.of ?_; simp only [entD, entS, entO, Loc.kill, lk, lkO, Loc.kill, nbeqB,  ↓cond_true, ↓cond_false, DV.kill, geN, beq_self_eq_true, Nat.ble, eq_self, and_true, true_and, and_self, Nat.zero_le, Nat.reduceBEq, true_and, and_true, eq_self]
      exact ⟨by rw [Nat.add_assoc], congrArg (Loc.arr (.int .u8)) (padS_succ p.l k)⟩
    · have : k = n.toNat - p.l.length := by omega
      subst this
      exact ⟨by omega, ⟨by rw [padS_len]; omega, by rw [padS_len]; omega⟩, padS_u8 h1 _ _, rfl⟩
def CO9 : CF := fun f args L => bif Nat.beq f 9 then (match args with
  | [.sl (.int .u8) p, .int .i64 n] => some (some (U8s p.l ∧ 1 ≤ n ∧ n ≤ 8 ∧ p.l.length ≤ 140737488351232), .sl (.int .u8) (asS p.l n), L, [])
  | _ => none) else CO8 f args L
theorem ck9 : CFOk Try.prog CO9 := by
  intro f args L side d L' ks hc hs
  unfold CO9 at hc
  cases hb : Nat.beq f 9 with
  | false => rw [hb] at hc; exact ck8 f args L side d L' ks hc hs
  | true =>
    have := Nat.eq_of_beq_eq_true hb
    subst this
    simp only [hb, cond_true] at hc
    split at hc
    · simp only [Option.some.injEq, Prod.mk.injEq] at hc
      obtain ⟨rfl, rfl, rfl, rfl⟩ := hc
      exact c9 _ _ (hs _ rfl) L
    · cases hc
def CO15 : CF := fun f args L => bif Nat.beq f 15 then (match args with
  | [] => some (none, .bool true, L, [])
  | _ => none) else CO9 f args L
theorem ck15 : CFOk Try.prog CO15 := by
  intro f args L side d L' ks hc hs
  unfold CO15 at hc
  cases hb : Nat.beq f 15 with
  | false => rw [hb] at hc; exact ck9 f args L side d L' ks hc hs
  | true =>
    have := Nat.eq_of_beq_eq_true hb
    subst this
    simp only [hb, cond_true] at hc
    split at hc
    · simp only [Option.some.injEq, Prod.mk.injEq] at hc
      obtain ⟨rfl, rfl, rfl, rfl⟩ := hc
      exact c15  L
    · cases hc
end Go.Proofs.Ytpchlfmlolkeeaa

namespace Go.Proofs.Ytpchlfmlolkeeaa
open Go Go.RowKit Go.Am
set_option linter.unusedSimpArgs false
set_option linter.unusedVariables false
set_option maxRecDepth 20000
set_option maxHeartbeats 4000000

theorem thenS_cap (p q : List Int) : (thenS p q).cap = some p.length := rfl
theorem thenS_len (p q : List Int) : (thenS p q).l.length = p.length := by simp [thenS]
theorem backS_cap (p : List Int) : (backS p).cap = some p.length := rfl
theorem backS_len (p : List Int) : (backS p).l.length = p.length := by simp [backS]
theorem flipS_cap (p : List Int) : (flipS p).cap = some p.length := rfl
theorem flipS_len (p : List Int) : (flipS p).l.length = p.length := by simp [flipS]
theorem ofN_bd (p : List Int) : 1 ≤ ofN p ∧ ofN p ≤ 8 := by unfold ofN; omega
theorem asS_len (p : List Int) (m : List Int) : (asS p (ofN m)).l.length = ofN m := by
  have := ofN_bd m
  unfold asS
  rw [ofS_len]
  generalize hl : (padS p ((ofN m : Int).toNat - p.length)).take (ofN m : Int).toNat = l
  have : l.length = ofN m := by rw [← hl, List.length_take, padS_len]; omega
  unfold ofN at this ⊢
  omega


theorem tab_get {n : Nat} {G : Nat → Int} {i : Nat} (h : i < n) : (tab n G).l.getD i 0 = G i := by simp [h]
theorem thenS_get {p q : List Int} {i : Nat} (h : i < p.length) : (thenS p q).l.getD i 0 = q.getD (p.getD i 0 - 1).toNat 0 := tab_get h
theorem backS_get {p : List Int} (hp : Perm p) {i : Nat} (h : i < p.length) : (backS p).l.getD (p.getD i 0 - 1).toNat 0 = (i : Int) + 1 := by
  have hg := hp.get h
  unfold backS
  rw [tab_get (by omega)]
  have : (((p.getD i 0 - 1).toNat : Nat) : Int) + 1 = p.getD i 0 := by omega
  rw [this, hp.idx h]
theorem flipS_get {p : List Int} {i : Nat} (h : i < p.length) : (flipS p).l.getD (p.length - 1 - i) 0 = p.length + 1 - p.getD i 0 := by
  unfold flipS
  rw [tab_get (by omega)]
  have : p.length - 1 - (p.length - 1 - i) = i := by omega
  rw [this]
theorem backS_perm {p : List Int} (hp : Perm p) : Perm (backS p).l := by
  have hl := backS_len p
  refine ⟨by rw [hl]; exact hp.len, fun x hx => ?_, fun i hi => ?_, ?_⟩
  · rw [hl]
    simp only [backS, tab, List.mem_map, List.mem_range] at hx
    obtain ⟨j, hj, rfl⟩ := hx
    have h1 := idxOf_mem (hp.all j hj)
    have h2 := idxOf_bd p ((j : Int) + 1)
    omega
  · rw [hl] at hi
    simp only [backS, tab, List.mem_map, List.mem_range]
    have hg := hp.get hi
    refine ⟨(p.getD i 0 - 1).toNat, by omega, ?_⟩
    have : (((p.getD i 0 - 1).toNat : Nat) : Int) + 1 = p.getD i 0 := by omega
    rw [this, hp.idx hi]
  · simp only [backS, tab]
    rw [List.nodup_iff_pairwise_ne, List.pairwise_map]
    refine List.Pairwise.imp_of_mem (fun {a b} ha hb hab e => ?_) (List.pairwise_lt_range (n := p.length))
    have h1 := idxOf_mem (hp.all a (List.mem_range.1 ha))
    have h2 := idxOf_mem (hp.all b (List.mem_range.1 hb))
    have : idxOf p ((a : Int) + 1) = idxOf p ((b : Int) + 1) := by omega
    rw [this] at h1
    omega
theorem Perm.u8 {p : List Int} (hp : Perm p) : U8s p := fun x hx => by have := hp.bd x hx; have := hp.len; omega
theorem thenS_u8 {p q : List Int} (hq : Perm q) : U8s (thenS p q).l := by
  intro x hx
  simp only [thenS, tab, List.mem_map, List.mem_range] at hx
  obtain ⟨j, hj, rfl⟩ := hx
  generalize (p.getD j 0 - 1).toNat = k
  by_cases hk : k < q.length
  · have := hq.get hk
    have := hq.len
    omega
  · have : q.getD k 0 = 0 := by simp [Nat.le_of_not_lt hk]
    omega
theorem thenS_back {p : List Int} (hp : Perm p) : (thenS p (backS p).l).l = (upS p.length).l := by
  simp only [thenS, upS, tab]
  refine List.map_congr_left fun i hi => ?_
  exact backS_get hp (List.mem_range.1 hi)
theorem upS_u8 {n : Nat} (h : n ≤ 8) : U8s (upS n).l := by
  intro x hx
  simp only [upS, tab, List.mem_map, List.mem_range] at hx
  obtain ⟨j, hj, rfl⟩ := hx
  omega

theorem c6 (p q : Sl Int) (hp : U8s p.l ∧ U8s q.l ∧ p.l.length ≤ 140737488351232 ∧ q.l.length ≤ 140737488351232) : PCalls Try.prog 6 [.sl (.int .u8) p, .sl (.int .u8) q] (fun d => d = .bool true) := by
  refine PCalls.go ok ck15 (c := d6) (rs := r6) Try.func6 rfl (by kernel_rfl) (by kernel_rfl) rfl rfl rfl ?_
  simp (config := { maxSteps := 20000000 }) only [d6, r6, go_nil, go_skip, go_reg, go_seq, go_cond, go_block, go_loop, go_ret, go_codeR, go_ops0, go_opsK, go_opsM, keepM, dropM, FB, Nat.reducePow, Nat.reduceDiv, Nat.reduceMod, go_opsP, go_opsC, endP, ↓brB_true, ↓brB_false, brB_not, brB_dec, ↓brM_false, unS_stp, unS_and, brM_mm, bif_ff, bif_tt, unl, callD, wantD, dpure, ev, evs, lk, putD, killT, argsD, nbeqB,  ↓cond_true, ↓cond_false, Option.map_some, sideP, lenD, capD, dBin, dPick, Ty.D, fnQ, dress, dres1, unl, finDV, frzV, sidesP, DV.kill, decide_true, decide_false, Nat.zero_add, beq_self_eq_true, Bool.and_true, eq_self, List.getElem?_cons_zero, List.getElem?_cons_succ, and_true, Nat.reduceLeDiff, Bool.not_true, Nat.reduceBEq, Bool.or_true, Bool.or_self, CO15, CO39, CO14, CO8, CO9, CO24, CO25, CO26, thenS_cap, thenS_len, backS_cap, backS_len, flipS_cap, flipS_len, ofS_len, asS_len]
  obtain ⟨u1, u2, u3, u4⟩ := hp
  have hn := ofN_bd p.l
  have hP := ofS_perm p.l
  have hQ : Perm (asS q.l (ofN p.l)).l := ofS_perm _
  refine ⟨u1, ⟨u2, by omega, by omega, u4⟩, ⟨hP, hQ⟩, hP, hP, fun _ => ?_, fun h => absurd (by rw [wrap64' (i := (ofN p.l : Int) + ofN p.l) (by omega), wrap64' (by omega), wrap64' (by omega)]; omega) h⟩
  have lP := ofS_len p.l
  have lQ := asS_len q.l p.l
  generalize hPe : ofS p.l = P at *
  generalize hQe : asS q.l (ofN p.l) = Q at *
  generalize hne : ofN p.l = n at *
  clear hPe hQe hne u1 u2 u3 u4
  refine DWc.loopG ok ck15 (α := Nat) (fun i => ⟨[(14, .int .i64 i), (12, .sl (.int .u8) (flipS P.l)), (10, .sl (.int .u8) (backS P.l)), (8, .sl (.int .u8) (thenS P.l Q.l)), (7, .sl (.int .u8) Q), (6, .int .i64 n), (5, .sl (.int .u8) P)], ⟨3, 0, []⟩⟩) (fun i => i ≤ n) (fun i => n - i) 0 ?_ ?_ ?_
  · refine DEnt.of ?_; simp only [entD, entS, entO, lk, nbeqB,  ↓cond_true, ↓cond_false, DV.kill, beq_self_eq_true, eq_self, and_true, true_and, and_self, Nat.zero_le, Nat.reduceBEq, DV.int.injEq, true_and, and_true, eq_self]
    rfl
  · simp
  · intro i hi
    simp (config := { maxSteps := 20000000 }) only [l6_0, go_nil, go_skip, go_reg, go_seq, go_cond, go_block, go_exit, go_ret, go_codeX, go_codeR, go_ops0, go_opsK, go_opsM, keepM, dropM, FB, Nat.reducePow, Nat.reduceDiv, Nat.reduceMod, go_opsP, go_opsC, go_blkN, go_blkX, go_blkR, go_rndN, go_rndX, go_rndR, ↓brB_true, ↓brB_false, ↓brM_true, ↓brM_false, unS_stp, unS_and, unS_False, brM_mm, brM_ms, and_goS, bif_ff, bif_tt, unl, callD, wantD, dpure, ev, evs, lk, putD, killT, nbeqB,  ↓cond_true, ↓cond_false, Option.map_some, sideP, dBin, dIdx, dLoad, dPick, subT, flat, Ty.size, Ty.isAgg, Ty.zero, Ty.D, fnQ, dress, dres1, unl, finDV, frzV, sidesP, DV.kill, decide_true, decide_false, beq_self_eq_true, bTF, bFT, Bool.and_self, Bool.and_true, Bool.false_eq_true, Option.getD_some, List.getD_cons_zero, eq_self, List.getElem?_cons_zero, List.getElem?_cons_succ, and_true, Nat.reduceLeDiff, Nat.reduceBEq, Bool.or_true, Bool.or_self, CO15, CO39, CO14, CO8, CO9, CO24, CO25, CO26, CO27, thenS_cap, thenS_len, backS_len, flipS_len, brB_eq, Bool.or_eq_false_iff, decide_eq_true_eq, decide_eq_false_iff_not, Bool.not_eq_true', Bool.not_eq_false', Bool.or_eq_true, Int.not_lt, Int.toNat_natCast, DV.bool.injEq, and_true, eq_self]
    refine ⟨fun h => ?_, fun h => ?_⟩
    · have hi' : i < P.l.length := by omega
      have hg := hP.get hi'
      have e0 : IntKind.u8.wrap (P.l.getD i 0 - 1) = P.l.getD i 0 - 1 := wrapU8 (by omega)
      have e1 := thenS_get (q := Q.l) hi'
      have e2 := backS_get hP hi'
      have e3 : IntKind.i64.wrap (IntKind.i64.wrap ((n : Int) - 1) - i) = ((P.l.length - 1 - i : Nat) : Int) := by rw [wrap64' (i := (n : Int) - 1) (by omega), wrap64' (by omega)]; omega
      have e4 := flipS_get hi'
      rw [e0, e1, e2, e3]
      simp only [Int.toNat_natCast]
      rw [e4, wrap64' (i := (i : Int) + 1) (by omega), wrap64' (i := (n : Int) + 1) (by omega), wrap64' (i := P.l.getD i 0) (by omega), lP]
      refine ⟨by omega, by omega, by omega, fun _ => by omega, fun _ => by omega, fun q => ?_, fun _ => ⟨i + 1, by omega, by omega, ?_⟩⟩
      · simp at q
      · refine DEnt.of ?_; simp only [entD, entS, entO, lk, nbeqB,  ↓cond_true, ↓cond_false, DV.kill, beq_self_eq_true, eq_self, and_true, true_and, and_self, Nat.zero_le, Nat.reduceBEq, DV.int.injEq, true_and, and_true, eq_self]
        rfl
    · refine ⟨by omega, ⟨hP, backS_perm hP⟩, ⟨by simp, thenS_u8 (backS_perm hP), upS_u8 hn.2⟩, ?_⟩
      unfold sameB
      rw [thenS_back hP, lP]
      simp [upS]
def CO6 : CF := fun f args L => bif Nat.beq f 6 then (match args with
  | [.sl (.int .u8) p, .sl (.int .u8) q] => some (some (U8s p.l ∧ U8s q.l ∧ p.l.length ≤ 140737488351232 ∧ q.l.length ≤ 140737488351232), .bool true, L, [])
  | _ => none) else CO15 f args L
theorem ck6 : CFOk Try.prog CO6 := by
  intro f args L side d L' ks hc hs
  unfold CO6 at hc
  cases hb : Nat.beq f 6 with
  | false => rw [hb] at hc; exact ck15 f args L side d L' ks hc hs
  | true =>
    have := Nat.eq_of_beq_eq_true hb
    subst this
    simp only [hb, cond_true] at hc
    split at hc
    · simp only [Option.some.injEq, Prod.mk.injEq] at hc
      obtain ⟨rfl, rfl, rfl, rfl⟩ := hc
      exact c6 _ _ (hs _ rfl) L
    · cases hc
end Go.Proofs.Ytpchlfmlolkeeaa

