/- The functions, brought into the small semantics by program. -/
import Derived.Test.YtehjaghpfnncoaaMiniBrIds
set_option linter.unusedSimpArgs false
set_option linter.unusedVariables false
namespace Go.Mini
open Go
def mf_law27_BreachTells : MFunc :=
  { n := 120, np := 6, res := [.t 12], body :=
  (.seq (.ops [
    ⟨(some 12), none, .mv (.c (.dat (.bool false)))⟩])
  (.seq (.ops [
    ⟨(some 27), none, .call id_law27_small []⟩,
    ⟨(some 13), none, .mv (.t 27)⟩])
  (.seq (.seq (.ops [
    ⟨(some 28), none, .mv (.t 5)⟩,
    ⟨(some 29), none, .len (.t 28)⟩,
    ⟨(some 30), none, .bin .gtr (.t 29) (.c (.dat (.int .i64 40)))⟩])
  (.cond (.t 30)
   (.seq (.ops [
     ⟨(some 31), none, .mv (.t 13)⟩,
     ⟨(some 12), none, .mv (.t 31)⟩])
   .ret)
   .skip))
  (.seq (.ops [
    ⟨(some 32), none, .mv (.t 0)⟩,
    ⟨(some 33), none, .mv (.t 1)⟩,
    ⟨(some 34), none, .build [(.dat (.int .i64 0)), (.dat (.int .i64 0))] [(0, 1, (.t 32)), (1, 1, (.t 33))]⟩,
    ⟨(some 14), none, .alloc 26014 [(.dat (.int .i64 0)), (.dat (.int .i64 0))]⟩,
    ⟨none, none, .store 2 (.t 14) (.t 34)⟩])
  (.seq (.ops [
    ⟨(some 36), none, .load 2 true (.t 14)⟩,
    ⟨(some 37), none, .mv (.t 2)⟩,
    ⟨(some 38), none, .mv (.t 3)⟩,
    ⟨(some 39), none, .mv (.t 4)⟩,
    ⟨(some 40), none, .call id_breach_Next [(.t 36), (.t 37), (.t 38), (.t 39)]⟩,
    ⟨(some 35), none, .mv (.t 40)⟩,
    ⟨(some 41), none, .ext 0 (.t 35)⟩,
    ⟨(some 42), none, .ext 1 (.t 35)⟩,
    ⟨(some 15), none, .alloc 26015 [(.dat (.int .i64 0)), (.dat (.int .i64 0))]⟩,
    ⟨none, none, .store 2 (.t 15) (.t 41)⟩,
    ⟨(some 16), none, .mv (.t 42)⟩])
  (.seq (.ops [
    ⟨(some 44), none, .load 2 true (.t 14)⟩,
    ⟨(some 45), none, .mv (.t 2)⟩,
    ⟨(some 46), none, .mv (.t 3)⟩,
    ⟨(some 47), none, .mv (.t 4)⟩,
    ⟨(some 48), none, .call id_ref27_Next [(.t 44), (.t 45), (.t 46), (.t 47)]⟩,
    ⟨(some 43), none, .mv (.t 48)⟩,
    ⟨(some 49), none, .ext 0 (.t 43)⟩,
    ⟨(some 50), none, .ext 1 (.t 43)⟩,
    ⟨(some 17), none, .alloc 26017 [(.dat (.int .i64 0)), (.dat (.int .i64 0))]⟩,
    ⟨none, none, .store 2 (.t 17) (.t 49)⟩,
    ⟨(some 18), none, .mv (.t 50)⟩])
  (.seq (.ops [
    ⟨(some 52), none, .load 2 true (.t 14)⟩,
    ⟨(some 53), none, .mv (.t 4)⟩,
    ⟨(some 54), none, .call id_breach_Notice [(.t 52), (.t 53)]⟩,
    ⟨(some 51), none, .mv (.t 54)⟩,
    ⟨(some 55), none, .ext 0 (.t 51)⟩,
    ⟨(some 56), none, .ext 1 (.t 51)⟩,
    ⟨(some 19), none, .alloc 26019 [(.dat (.int .i64 0)), (.dat (.int .i64 0))]⟩,
    ⟨none, none, .store 2 (.t 19) (.t 55)⟩,
    ⟨(some 20), none, .mv (.t 56)⟩])
  (.seq (.ops [
    ⟨(some 58), none, .load 2 true (.t 14)⟩,
    ⟨(some 59), none, .mv (.t 4)⟩,
    ⟨(some 60), none, .call id_ref27_Notice [(.t 58), (.t 59)]⟩,
    ⟨(some 57), none, .mv (.t 60)⟩,
    ⟨(some 61), none, .ext 0 (.t 57)⟩,
    ⟨(some 62), none, .ext 1 (.t 57)⟩,
    ⟨(some 21), none, .alloc 26021 [(.dat (.int .i64 0)), (.dat (.int .i64 0))]⟩,
    ⟨none, none, .store 2 (.t 21) (.t 61)⟩,
    ⟨(some 22), none, .mv (.t 62)⟩])
  (.seq (.ops [
    ⟨(some 64), none, .load 2 true (.t 14)⟩,
    ⟨(some 65), none, .mv (.t 4)⟩,
    ⟨(some 66), none, .call id_breach_Waive [(.t 64), (.t 65)]⟩,
    ⟨(some 63), none, .mv (.t 66)⟩,
    ⟨(some 67), none, .ext 0 (.t 63)⟩,
    ⟨(some 68), none, .ext 1 (.t 63)⟩,
    ⟨(some 23), none, .alloc 26023 [(.dat (.int .i64 0)), (.dat (.int .i64 0))]⟩,
    ⟨none, none, .store 2 (.t 23) (.t 67)⟩,
    ⟨(some 24), none, .mv (.t 68)⟩])
  (.seq (.ops [
    ⟨(some 70), none, .load 2 true (.t 14)⟩,
    ⟨(some 71), none, .mv (.t 4)⟩,
    ⟨(some 72), none, .call id_ref27_Waive [(.t 70), (.t 71)]⟩,
    ⟨(some 69), none, .mv (.t 72)⟩,
    ⟨(some 73), none, .ext 0 (.t 69)⟩,
    ⟨(some 74), none, .ext 1 (.t 69)⟩,
    ⟨(some 25), none, .alloc 26025 [(.dat (.int .i64 0)), (.dat (.int .i64 0))]⟩,
    ⟨none, none, .store 2 (.t 25) (.t 73)⟩,
    ⟨(some 26), none, .mv (.t 74)⟩])
  (.seq (.opsD [
    ⟨(some 75), none, .mv (.t 13)⟩,
    ⟨(some 76), none, .mv (.t 75)⟩,
    ⟨(some 77), (some (76, true)), .load 2 true (.t 15)⟩,
    ⟨(some 78), (some (76, true)), .load 2 true (.t 17)⟩,
    ⟨(some 79), (some (76, true)), .eqs false [1, 1] (.t 77) (.t 78)⟩,
    ⟨(some 80), none, .pick (.t 76) (.t 79) (.c (.dat (.bool false)))⟩,
    ⟨(some 81), none, .mv (.t 80)⟩,
    ⟨(some 82), (some (81, true)), .mv (.t 16)⟩,
    ⟨(some 83), (some (81, true)), .mv (.t 18)⟩,
    ⟨(some 84), (some (81, true)), .bin .eql (.t 82) (.t 83)⟩,
    ⟨(some 85), none, .pick (.t 81) (.t 84) (.c (.dat (.bool false)))⟩,
    ⟨(some 86), none, .mv (.t 85)⟩,
    ⟨(some 87), (some (86, true)), .load 2 true (.t 19)⟩,
    ⟨(some 88), (some (86, true)), .load 2 true (.t 21)⟩,
    ⟨(some 89), (some (86, true)), .eqs false [1, 1] (.t 87) (.t 88)⟩,
    ⟨(some 90), none, .pick (.t 86) (.t 89) (.c (.dat (.bool false)))⟩,
    ⟨(some 91), none, .mv (.t 90)⟩,
    ⟨(some 92), (some (91, true)), .mv (.t 20)⟩,
    ⟨(some 93), (some (91, true)), .mv (.t 22)⟩,
    ⟨(some 94), (some (91, true)), .bin .eql (.t 92) (.t 93)⟩,
    ⟨(some 95), none, .pick (.t 91) (.t 94) (.c (.dat (.bool false)))⟩,
    ⟨(some 96), none, .mv (.t 95)⟩,
    ⟨(some 97), (some (96, true)), .load 2 true (.t 23)⟩,
    ⟨(some 98), (some (96, true)), .load 2 true (.t 25)⟩,
    ⟨(some 99), (some (96, true)), .eqs false [1, 1] (.t 97) (.t 98)⟩,
    ⟨(some 100), none, .pick (.t 96) (.t 99) (.c (.dat (.bool false)))⟩,
    ⟨(some 101), none, .mv (.t 100)⟩,
    ⟨(some 102), (some (101, true)), .mv (.t 24)⟩,
    ⟨(some 103), (some (101, true)), .mv (.t 26)⟩,
    ⟨(some 104), (some (101, true)), .bin .eql (.t 102) (.t 103)⟩,
    ⟨(some 105), none, .pick (.t 101) (.t 104) (.c (.dat (.bool false)))⟩,
    ⟨(some 106), none, .mv (.t 105)⟩,
    ⟨(some 107), (some (106, true)), .load 2 true (.t 14)⟩,
    ⟨(some 108), (some (106, true)), .call id_breach_Right [(.t 107)]⟩,
    ⟨(some 109), (some (106, true)), .load 2 true (.t 14)⟩,
    ⟨(some 110), (some (106, true)), .call id_ref27_Right [(.t 109)]⟩,
    ⟨(some 111), (some (106, true)), .beq false (.t 108) (.t 110)⟩,
    ⟨(some 112), none, .pick (.t 106) (.t 111) (.c (.dat (.bool false)))⟩,
    ⟨(some 113), none, .mv (.t 112)⟩,
    ⟨(some 114), (some (113, true)), .mv (.t 5)⟩,
    ⟨(some 115), (some (113, true)), .call id_breach_Worst [(.t 114)]⟩,
    ⟨(some 116), (some (113, true)), .mv (.t 5)⟩,
    ⟨(some 117), (some (113, true)), .call id_ref27_Worst [(.t 116)]⟩,
    ⟨(some 118), (some (113, true)), .eqs false [1, 1] (.t 115) (.t 117)⟩,
    ⟨(some 119), none, .pick (.t 113) (.t 118) (.c (.dat (.bool false)))⟩,
    ⟨(some 12), none, .mv (.t 119)⟩] [[], [], [], [], [], [], [], [], [], [], [], [], [], [], [], [], [], [], [], [], [], [], [], [], [], [], [], [], [], [], [], [], [], [], [], [], [], [], [], [], [], [], [], [], [], []])
  .ret))))))))))) }

def mf_law27_BreachStory : MFunc :=
  { n := 102, np := 3, res := [.t 6], body :=
  (.seq (.ops [
    ⟨(some 6), none, .mv (.c (.dat (.bool false)))⟩])
  (.seq (.ops [
    ⟨(some 13), none, .call id_law27_small []⟩,
    ⟨(some 7), none, .mv (.t 13)⟩])
  (.seq (.seq (.ops [
    ⟨(some 14), none, .mv (.t 0)⟩,
    ⟨(some 15), none, .len (.t 14)⟩,
    ⟨(some 16), none, .bin .gtr (.t 15) (.c (.dat (.int .i64 80)))⟩])
  (.cond (.t 16)
   (.seq (.ops [
     ⟨(some 17), none, .mv (.t 7)⟩,
     ⟨(some 6), none, .mv (.t 17)⟩])
   .ret)
   .skip))
  (.seq (.ops [
    ⟨(some 18), none, .mv (.t 1)⟩,
    ⟨(some 19), none, .bin .rem (.t 18) (.c (.dat (.int .u8 12)))⟩,
    ⟨(some 20), none, .conv .i64 (.t 19)⟩,
    ⟨(some 8), none, .mv (.t 20)⟩])
  (.seq (.ops [
    ⟨(some 22), none, .mv (.t 0)⟩,
    ⟨(some 23), none, .mv (.t 8)⟩,
    ⟨(some 24), none, .mv (.t 2)⟩,
    ⟨(some 25), none, .conv .i64 (.t 24)⟩,
    ⟨(some 26), none, .call id_law27_play [(.t 22), (.t 23), (.t 25)]⟩,
    ⟨(some 21), none, .mv (.t 26)⟩,
    ⟨(some 27), none, .ext 0 (.t 21)⟩,
    ⟨(some 28), none, .ext 1 (.t 21)⟩,
    ⟨(some 9), none, .mv (.t 27)⟩,
    ⟨(some 10), none, .mv (.t 28)⟩])
  (.seq (.seq (.ops [
    ⟨(some 29), none, .mv (.t 10)⟩,
    ⟨(some 30), none, .un .not (.t 29)⟩,
    ⟨(some 31), none, .mv (.t 30)⟩,
    ⟨(some 32), (some (31, false)), .mv (.t 9)⟩,
    ⟨(some 33), (some (31, false)), .len (.t 32)⟩,
    ⟨(some 34), (some (31, false)), .mv (.t 0)⟩,
    ⟨(some 35), (some (31, false)), .len (.t 34)⟩,
    ⟨(some 36), (some (31, false)), .bin .neq (.t 33) (.t 35)⟩,
    ⟨(some 37), none, .pick (.t 31) (.c (.dat (.bool true))) (.t 36)⟩])
  (.cond (.t 37)
   (.seq (.ops [
     ⟨(some 6), none, .mv (.c (.dat (.bool false)))⟩])
   .ret)
   .skip))
  (.seq (.ops [
    ⟨(some 38), none, .mv (.t 0)⟩,
    ⟨(some 39), none, .mv (.t 8)⟩,
    ⟨(some 40), none, .call id_law27_expected [(.t 38), (.t 39)]⟩,
    ⟨(some 11), none, .mv (.t 40)⟩])
  (.seq (.seq (.ops [
    ⟨(some 41), none, .mv (.t 9)⟩,
    ⟨(some 42), none, .call id_law27_fallen [(.t 41)]⟩,
    ⟨(some 43), none, .mv (.t 11)⟩,
    ⟨(some 44), none, .bin .neq (.t 42) (.t 43)⟩])
  (.cond (.t 44)
   (.seq (.ops [
     ⟨(some 6), none, .mv (.c (.dat (.bool false)))⟩])
   .ret)
   .skip))
  (.seq (.seq (.ops [
    ⟨(some 12), none, .mv (.c (.dat (.int .i64 0)))⟩])
  (.block 0
   (.loop 
    (.seq (.seq (.ops [
      ⟨(some 45), none, .mv (.t 12)⟩,
      ⟨(some 46), none, .mv (.t 9)⟩,
      ⟨(some 47), none, .len (.t 46)⟩,
      ⟨(some 48), none, .bin .lss (.t 45) (.t 47)⟩])
    (.cond (.t 48)
     .skip
     (.exit 0)))
    (.seq (.block 1
     (.seq (.seq (.ops [
       ⟨(some 51), none, .mv (.t 11)⟩,
       ⟨(some 52), none, .bin .geq (.t 51) (.c (.dat (.int .i64 0)))⟩,
       ⟨(some 53), none, .mv (.t 52)⟩,
       ⟨(some 54), (some (53, true)), .mv (.t 12)⟩,
       ⟨(some 55), (some (53, true)), .mv (.t 11)⟩,
       ⟨(some 56), (some (53, true)), .bin .geq (.t 54) (.t 55)⟩,
       ⟨(some 57), none, .pick (.t 53) (.t 56) (.c (.dat (.bool false)))⟩,
       ⟨(some 58), none, .mv (.t 57)⟩,
       ⟨(some 59), (some (58, true)), .mv (.t 9)⟩,
       ⟨(some 60), (some (58, true)), .mv (.t 12)⟩,
       ⟨(some 61), (some (58, true)), .iad 2 (.t 59) (.t 60)⟩,
       ⟨(some 62), (some (58, true)), .load 2 true (.t 61)⟩,
       ⟨(some 63), (some (58, true)), .mv (.t 2)⟩,
       ⟨(some 64), (some (58, true)), .conv .i64 (.t 63)⟩,
       ⟨(some 65), (some (58, true)), .mv (.t 11)⟩,
       ⟨(some 66), (some (58, true)), .bin .add (.t 64) (.t 65)⟩,
       ⟨(some 67), (some (58, true)), .build [(.dat (.int .i64 0)), (.dat (.int .i64 0))] [(0, 1, (.c (.dat (.int .i64 2)))), (1, 1, (.t 66))]⟩,
       ⟨(some 68), (some (58, true)), .eqs true [1, 1] (.t 62) (.t 67)⟩,
       ⟨(some 69), none, .pick (.t 58) (.t 68) (.c (.dat (.bool false)))⟩,
       ⟨(some 70), none, .mv (.t 69)⟩,
       ⟨(some 71), (some (70, false)), .mv (.t 9)⟩,
       ⟨(some 72), (some (70, false)), .mv (.t 12)⟩,
       ⟨(some 73), (some (70, false)), .iad 2 (.t 71) (.t 72)⟩,
       ⟨(some 74), (some (70, false)), .load 2 true (.t 73)⟩,
       ⟨(some 75), (some (70, false)), .call id_breach_Right [(.t 74)]⟩,
       ⟨(some 76), (some (70, false)), .un .not (.t 75)⟩,
       ⟨(some 77), none, .pick (.t 70) (.c (.dat (.bool true))) (.t 76)⟩])
     (.cond (.t 77)
      (.seq (.ops [
        ⟨(some 6), none, .mv (.c (.dat (.bool false)))⟩])
      .ret)
      .skip))
     (.seq (.ops [
       ⟨(some 78), none, .mv (.t 11)⟩,
       ⟨(some 79), none, .bin .lss (.t 78) (.c (.dat (.int .i64 0)))⟩,
       ⟨(some 80), none, .mv (.t 79)⟩,
       ⟨(some 81), (some (80, false)), .mv (.t 12)⟩,
       ⟨(some 82), (some (80, false)), .mv (.t 11)⟩,
       ⟨(some 83), (some (80, false)), .bin .lss (.t 81) (.t 82)⟩,
       ⟨(some 84), none, .pick (.t 80) (.c (.dat (.bool true))) (.t 83)⟩,
       ⟨(some 85), none, .mv (.t 84)⟩,
       ⟨(some 86), (some (85, true)), .mv (.t 9)⟩,
       ⟨(some 87), (some (85, true)), .mv (.t 12)⟩,
       ⟨(some 88), (some (85, true)), .iad 2 (.t 86) (.t 87)⟩,
       ⟨(some 89), (some (85, true)), .fad 0 (.t 88)⟩,
       ⟨(some 90), (some (85, true)), .load 1 false (.t 89)⟩,
       ⟨(some 91), (some (85, true)), .bin .neq (.t 90) (.c (.dat (.int .i64 0)))⟩,
       ⟨(some 92), none, .pick (.t 85) (.t 91) (.c (.dat (.bool false)))⟩,
       ⟨(some 93), none, .mv (.t 92)⟩,
       ⟨(some 94), (some (93, true)), .mv (.t 9)⟩,
       ⟨(some 95), (some (93, true)), .mv (.t 12)⟩,
       ⟨(some 96), (some (93, true)), .iad 2 (.t 94) (.t 95)⟩,
       ⟨(some 97), (some (93, true)), .fad 0 (.t 96)⟩,
       ⟨(some 98), (some (93, true)), .load 1 false (.t 97)⟩,
       ⟨(some 99), (some (93, true)), .bin .neq (.t 98) (.c (.dat (.int .i64 1)))⟩,
       ⟨(some 100), none, .pick (.t 93) (.t 99) (.c (.dat (.bool false)))⟩])
     (.cond (.t 100)
      (.seq (.ops [
        ⟨(some 6), none, .mv (.c (.dat (.bool false)))⟩])
      .ret)
      .skip))))
    (.ops [
      ⟨(some 49), none, .mv (.t 12)⟩,
      ⟨(some 50), none, .bin .add (.t 49) (.c (.dat (.int .i64 1)))⟩,
      ⟨(some 12), none, .mv (.t 50)⟩]))))))
  (.seq (.ops [
    ⟨(some 101), none, .mv (.t 7)⟩,
    ⟨(some 6), none, .mv (.t 101)⟩])
  .ret)))))))))) }

def mf_law27_BreachLater : MFunc :=
  { n := 152, np := 4, res := [.t 8], body :=
  (.seq (.ops [
    ⟨(some 8), none, .mv (.c (.dat (.bool false)))⟩])
  (.seq (.ops [
    ⟨(some 26), none, .call id_law27_small []⟩,
    ⟨(some 9), none, .mv (.t 26)⟩])
  (.seq (.seq (.ops [
    ⟨(some 27), none, .mv (.t 0)⟩,
    ⟨(some 28), none, .len (.t 27)⟩,
    ⟨(some 29), none, .bin .gtr (.t 28) (.c (.dat (.int .i64 80)))⟩,
    ⟨(some 30), none, .mv (.t 29)⟩,
    ⟨(some 31), (some (30, false)), .mv (.t 1)⟩,
    ⟨(some 32), (some (30, false)), .len (.t 31)⟩,
    ⟨(some 33), (some (30, false)), .mv (.t 0)⟩,
    ⟨(some 34), (some (30, false)), .len (.t 33)⟩,
    ⟨(some 35), (some (30, false)), .bin .neq (.t 32) (.t 34)⟩,
    ⟨(some 36), none, .pick (.t 30) (.c (.dat (.bool true))) (.t 35)⟩])
  (.cond (.t 36)
   (.seq (.ops [
     ⟨(some 37), none, .mv (.t 9)⟩,
     ⟨(some 8), none, .mv (.t 37)⟩])
   .ret)
   .skip))
  (.seq (.ops [
    ⟨(some 38), none, .mv (.t 2)⟩,
    ⟨(some 39), none, .bin .rem (.t 38) (.c (.dat (.int .u8 12)))⟩,
    ⟨(some 40), none, .conv .i64 (.t 39)⟩,
    ⟨(some 10), none, .mv (.t 40)⟩])
  (.seq (.ops [
    ⟨(some 42), none, .mv (.t 0)⟩,
    ⟨(some 43), none, .mv (.t 10)⟩,
    ⟨(some 44), none, .call id_law27_play [(.t 42), (.t 43), (.c (.dat (.int .i64 0)))]⟩,
    ⟨(some 41), none, .mv (.t 44)⟩,
    ⟨(some 45), none, .ext 0 (.t 41)⟩,
    ⟨(some 46), none, .ext 1 (.t 41)⟩,
    ⟨(some 11), none, .mv (.t 45)⟩,
    ⟨(some 12), none, .mv (.t 46)⟩])
  (.seq (.ops [
    ⟨(some 48), none, .mv (.t 0)⟩,
    ⟨(some 49), none, .mv (.t 10)⟩,
    ⟨(some 50), none, .mv (.t 3)⟩,
    ⟨(some 51), none, .conv .i64 (.t 50)⟩,
    ⟨(some 52), none, .bin .add (.t 49) (.t 51)⟩,
    ⟨(some 53), none, .call id_law27_play [(.t 48), (.t 52), (.c (.dat (.int .i64 0)))]⟩,
    ⟨(some 47), none, .mv (.t 53)⟩,
    ⟨(some 54), none, .ext 0 (.t 47)⟩,
    ⟨(some 55), none, .ext 1 (.t 47)⟩,
    ⟨(some 13), none, .mv (.t 54)⟩,
    ⟨(some 14), none, .mv (.t 55)⟩])
  (.seq (.ops [
    ⟨(some 15), none, .mv (.c .nil)⟩])
  (.seq (.seq (.ops [
    ⟨(some 16), none, .mv (.c (.dat (.int .i64 0)))⟩])
  (.block 0
   (.ghost (.adopt 15 28081 1) (.loop 
    (.seq (.seq (.ops [
      ⟨(some 56), none, .mv (.t 16)⟩,
      ⟨(some 57), none, .mv (.t 0)⟩,
      ⟨(some 58), none, .len (.t 57)⟩,
      ⟨(some 59), none, .bin .lss (.t 56) (.t 58)⟩])
    (.cond (.t 59)
     .skip
     (.exit 0)))
    (.seq (.block 1
     (.seq (.ops [
       ⟨(some 62), none, .mv (.t 0)⟩,
       ⟨(some 63), none, .mv (.t 16)⟩,
       ⟨(some 64), none, .iad 1 (.t 62) (.t 63)⟩,
       ⟨(some 65), none, .load 1 false (.t 64)⟩,
       ⟨(some 17), none, .mv (.t 65)⟩])
     (.seq (.seq (.ops [
       ⟨(some 66), none, .mv (.t 1)⟩,
       ⟨(some 67), none, .mv (.t 16)⟩,
       ⟨(some 68), none, .iad 1 (.t 66) (.t 67)⟩,
       ⟨(some 69), none, .load 1 false (.t 68)⟩,
       ⟨(some 70), none, .call id_law27_order [(.t 69)]⟩,
       ⟨(some 71), none, .mv (.t 17)⟩,
       ⟨(some 72), none, .call id_law27_order [(.t 71)]⟩,
       ⟨(some 73), none, .bin .gtr (.t 70) (.t 72)⟩])
     (.cond (.t 73)
      (.ops [
        ⟨(some 74), none, .mv (.t 1)⟩,
        ⟨(some 75), none, .mv (.t 16)⟩,
        ⟨(some 76), none, .iad 1 (.t 74) (.t 75)⟩,
        ⟨(some 77), none, .load 1 false (.t 76)⟩,
        ⟨(some 17), none, .mv (.t 77)⟩])
      .skip))
     (.ops [
       ⟨(some 78), none, .mv (.t 15)⟩,
       ⟨(some 79), none, .mv (.t 17)⟩,
       ⟨(some 80), none, .bsl 28080 false [(.dat (.int .u8 0))] 1 1 [(0, 1, (.t 79))]⟩,
       ⟨(some 81), none, .app 28081 [(.dat (.int .u8 0))] 1 (.t 78) (.t 80)⟩,
       ⟨(some 15), none, .mv (.t 81)⟩]))))
    (.ops [
      ⟨(some 60), none, .mv (.t 16)⟩,
      ⟨(some 61), none, .bin .add (.t 60) (.c (.dat (.int .i64 1)))⟩,
      ⟨(some 16), none, .mv (.t 61)⟩])))))))
  (.seq (.ghost (.freeze 15) (.ops [
    ⟨(some 83), none, .mv (.t 15)⟩,
    ⟨(some 84), none, .mv (.t 10)⟩,
    ⟨(some 85), none, .call id_law27_play [(.t 83), (.t 84), (.c (.dat (.int .i64 0)))]⟩,
    ⟨(some 82), none, .mv (.t 85)⟩,
    ⟨(some 86), none, .ext 0 (.t 82)⟩,
    ⟨(some 87), none, .ext 1 (.t 82)⟩,
    ⟨(some 18), none, .mv (.t 86)⟩,
    ⟨(some 19), none, .mv (.t 87)⟩]))
  (.seq (.ops [
    ⟨(some 89), none, .mv (.t 1)⟩,
    ⟨(some 90), none, .mv (.t 10)⟩,
    ⟨(some 91), none, .call id_law27_play [(.t 89), (.t 90), (.c (.dat (.int .i64 0)))]⟩,
    ⟨(some 88), none, .mv (.t 91)⟩,
    ⟨(some 92), none, .ext 0 (.t 88)⟩,
    ⟨(some 93), none, .ext 1 (.t 88)⟩,
    ⟨(some 20), none, .mv (.t 92)⟩,
    ⟨(some 21), none, .mv (.t 93)⟩])
  (.seq (.seq (.ops [
    ⟨(some 94), none, .mv (.t 12)⟩,
    ⟨(some 95), none, .un .not (.t 94)⟩,
    ⟨(some 96), none, .mv (.t 95)⟩,
    ⟨(some 97), (some (96, false)), .mv (.t 14)⟩,
    ⟨(some 98), (some (96, false)), .un .not (.t 97)⟩,
    ⟨(some 99), none, .pick (.t 96) (.c (.dat (.bool true))) (.t 98)⟩,
    ⟨(some 100), none, .mv (.t 99)⟩,
    ⟨(some 101), (some (100, false)), .mv (.t 19)⟩,
    ⟨(some 102), (some (100, false)), .un .not (.t 101)⟩,
    ⟨(some 103), none, .pick (.t 100) (.c (.dat (.bool true))) (.t 102)⟩,
    ⟨(some 104), none, .mv (.t 103)⟩,
    ⟨(some 105), (some (104, false)), .mv (.t 21)⟩,
    ⟨(some 106), (some (104, false)), .un .not (.t 105)⟩,
    ⟨(some 107), none, .pick (.t 104) (.c (.dat (.bool true))) (.t 106)⟩])
  (.cond (.t 107)
   (.seq (.ops [
     ⟨(some 8), none, .mv (.c (.dat (.bool false)))⟩])
   .ret)
   .skip))
  (.seq (.ops [
    ⟨(some 108), none, .mv (.t 11)⟩,
    ⟨(some 109), none, .call id_law27_fallen [(.t 108)]⟩,
    ⟨(some 22), none, .mv (.t 109)⟩])
  (.seq (.ops [
    ⟨(some 110), none, .mv (.t 13)⟩,
    ⟨(some 111), none, .call id_law27_fallen [(.t 110)]⟩,
    ⟨(some 23), none, .mv (.t 111)⟩])
  (.seq (.ops [
    ⟨(some 112), none, .mv (.t 18)⟩,
    ⟨(some 113), none, .call id_law27_fallen [(.t 112)]⟩,
    ⟨(some 24), none, .mv (.t 113)⟩])
  (.seq (.ops [
    ⟨(some 114), none, .mv (.t 20)⟩,
    ⟨(some 115), none, .call id_law27_fallen [(.t 114)]⟩,
    ⟨(some 25), none, .mv (.t 115)⟩])
  (.seq (.ops [
    ⟨(some 116), none, .mv (.t 9)⟩,
    ⟨(some 117), none, .mv (.t 116)⟩,
    ⟨(some 118), (some (117, true)), .mv (.t 23)⟩,
    ⟨(some 119), (some (117, true)), .bin .lss (.t 118) (.c (.dat (.int .i64 0)))⟩,
    ⟨(some 120), (some (117, true)), .mv (.t 119)⟩,
    ⟨(some 121), (some (120, false)), .mv (.t 22)⟩,
    ⟨(some 122), (some (120, false)), .bin .geq (.t 121) (.c (.dat (.int .i64 0)))⟩,
    ⟨(some 123), (some (120, false)), .mv (.t 122)⟩,
    ⟨(some 124), (some (123, true)), .mv (.t 22)⟩,
    ⟨(some 125), (some (123, true)), .mv (.t 23)⟩,
    ⟨(some 126), (some (123, true)), .bin .leq (.t 124) (.t 125)⟩,
    ⟨(some 127), (some (120, false)), .pick (.t 123) (.t 126) (.c (.dat (.bool false)))⟩,
    ⟨(some 128), (some (117, true)), .pick (.t 120) (.c (.dat (.bool true))) (.t 127)⟩,
    ⟨(some 129), none, .pick (.t 117) (.t 128) (.c (.dat (.bool false)))⟩,
    ⟨(some 130), none, .mv (.t 129)⟩,
    ⟨(some 131), (some (130, true)), .mv (.t 24)⟩,
    ⟨(some 132), (some (130, true)), .bin .lss (.t 131) (.c (.dat (.int .i64 0)))⟩,
    ⟨(some 133), (some (130, true)), .mv (.t 132)⟩,
    ⟨(some 134), (some (133, false)), .mv (.t 22)⟩,
    ⟨(some 135), (some (133, false)), .bin .geq (.t 134) (.c (.dat (.int .i64 0)))⟩,
    ⟨(some 136), (some (133, false)), .mv (.t 135)⟩,
    ⟨(some 137), (some (136, true)), .mv (.t 22)⟩,
    ⟨(some 138), (some (136, true)), .mv (.t 24)⟩,
    ⟨(some 139), (some (136, true)), .bin .leq (.t 137) (.t 138)⟩,
    ⟨(some 140), (some (133, false)), .pick (.t 136) (.t 139) (.c (.dat (.bool false)))⟩,
    ⟨(some 141), (some (133, false)), .mv (.t 140)⟩,
    ⟨(some 142), (some (141, true)), .mv (.t 25)⟩,
    ⟨(some 143), (some (141, true)), .bin .geq (.t 142) (.c (.dat (.int .i64 0)))⟩,
    ⟨(some 144), (some (133, false)), .pick (.t 141) (.t 143) (.c (.dat (.bool false)))⟩,
    ⟨(some 145), (some (133, false)), .mv (.t 144)⟩,
    ⟨(some 146), (some (145, true)), .mv (.t 25)⟩,
    ⟨(some 147), (some (145, true)), .mv (.t 24)⟩,
    ⟨(some 148), (some (145, true)), .bin .leq (.t 146) (.t 147)⟩,
    ⟨(some 149), (some (133, false)), .pick (.t 145) (.t 148) (.c (.dat (.bool false)))⟩,
    ⟨(some 150), (some (130, true)), .pick (.t 133) (.c (.dat (.bool true))) (.t 149)⟩,
    ⟨(some 151), none, .pick (.t 130) (.t 150) (.c (.dat (.bool false)))⟩,
    ⟨(some 8), none, .mv (.t 151)⟩])
  .ret)))))))))))))))) }

def mf_law27_BreachEnds : MFunc :=
  { n := 151, np := 5, res := [.t 10], body :=
  (.seq (.ops [
    ⟨(some 10), none, .mv (.c (.dat (.bool false)))⟩])
  (.seq (.ops [
    ⟨(some 22), none, .call id_law27_small []⟩,
    ⟨(some 11), none, .mv (.t 22)⟩])
  (.seq (.ops [
    ⟨(some 23), none, .mv (.t 0)⟩,
    ⟨(some 24), none, .mv (.t 1)⟩,
    ⟨(some 25), none, .build [(.dat (.int .i64 0)), (.dat (.int .i64 0))] [(0, 1, (.t 23)), (1, 1, (.t 24))]⟩,
    ⟨(some 12), none, .alloc 29012 [(.dat (.int .i64 0)), (.dat (.int .i64 0))]⟩,
    ⟨none, none, .store 2 (.t 12) (.t 25)⟩])
  (.seq (.seq (.ops [
    ⟨(some 26), none, .load 2 true (.t 12)⟩,
    ⟨(some 27), none, .call id_breach_Right [(.t 26)]⟩,
    ⟨(some 28), none, .un .not (.t 27)⟩,
    ⟨(some 29), none, .mv (.t 28)⟩,
    ⟨(some 30), (some (29, false)), .mv (.t 4)⟩,
    ⟨(some 31), (some (29, false)), .mv (.t 1)⟩,
    ⟨(some 32), (some (29, false)), .bin .lss (.t 30) (.t 31)⟩,
    ⟨(some 33), none, .pick (.t 29) (.c (.dat (.bool true))) (.t 32)⟩,
    ⟨(some 34), none, .mv (.t 33)⟩,
    ⟨(some 35), (some (34, false)), .mv (.t 4)⟩,
    ⟨(some 36), (some (34, false)), .bin .gtr (.t 35) (.c (.dat (.int .i64 200000)))⟩,
    ⟨(some 37), none, .pick (.t 34) (.c (.dat (.bool true))) (.t 36)⟩])
  (.cond (.t 37)
   (.seq (.ops [
     ⟨(some 38), none, .mv (.t 11)⟩,
     ⟨(some 10), none, .mv (.t 38)⟩])
   .ret)
   .skip))
  (.seq (.ops [
    ⟨(some 39), none, .mv (.t 3)⟩,
    ⟨(some 40), none, .conv .i64 (.t 39)⟩,
    ⟨(some 13), none, .mv (.t 40)⟩])
  (.seq (.ops [
    ⟨(some 42), none, .load 2 true (.t 12)⟩,
    ⟨(some 43), none, .mv (.t 2)⟩,
    ⟨(some 44), none, .bin .rem (.t 43) (.c (.dat (.int .u8 3)))⟩,
    ⟨(some 45), none, .conv .i64 (.t 44)⟩,
    ⟨(some 46), none, .mv (.t 13)⟩,
    ⟨(some 47), none, .mv (.t 4)⟩,
    ⟨(some 48), none, .call id_breach_Next [(.t 42), (.t 45), (.t 46), (.t 47)]⟩,
    ⟨(some 41), none, .mv (.t 48)⟩,
    ⟨(some 49), none, .ext 0 (.t 41)⟩,
    ⟨(some 50), none, .ext 1 (.t 41)⟩,
    ⟨(some 14), none, .alloc 29014 [(.dat (.int .i64 0)), (.dat (.int .i64 0))]⟩,
    ⟨none, none, .store 2 (.t 14) (.t 49)⟩,
    ⟨(some 15), none, .mv (.t 50)⟩])
  (.seq (.ops [
    ⟨(some 52), none, .load 2 true (.t 12)⟩,
    ⟨(some 53), none, .mv (.t 4)⟩,
    ⟨(some 54), none, .call id_breach_Notice [(.t 52), (.t 53)]⟩,
    ⟨(some 51), none, .mv (.t 54)⟩,
    ⟨(some 55), none, .ext 0 (.t 51)⟩,
    ⟨(some 56), none, .ext 1 (.t 51)⟩,
    ⟨(some 16), none, .alloc 29016 [(.dat (.int .i64 0)), (.dat (.int .i64 0))]⟩,
    ⟨none, none, .store 2 (.t 16) (.t 55)⟩,
    ⟨(some 17), none, .mv (.t 56)⟩])
  (.seq (.ops [
    ⟨(some 58), none, .load 2 true (.t 12)⟩,
    ⟨(some 59), none, .mv (.t 4)⟩,
    ⟨(some 60), none, .call id_breach_Waive [(.t 58), (.t 59)]⟩,
    ⟨(some 57), none, .mv (.t 60)⟩,
    ⟨(some 61), none, .ext 0 (.t 57)⟩,
    ⟨(some 62), none, .ext 1 (.t 57)⟩,
    ⟨(some 18), none, .alloc 29018 [(.dat (.int .i64 0)), (.dat (.int .i64 0))]⟩,
    ⟨none, none, .store 2 (.t 18) (.t 61)⟩,
    ⟨(some 19), none, .mv (.t 62)⟩])
  (.seq (.seq (.ops [
    ⟨(some 63), none, .mv (.t 15)⟩,
    ⟨(some 64), none, .bin .neq (.t 63) (.c (.dat (.int .i64 0)))⟩,
    ⟨(some 65), none, .mv (.t 64)⟩,
    ⟨(some 66), (some (65, false)), .mv (.t 0)⟩,
    ⟨(some 67), (some (65, false)), .bin .geq (.t 66) (.c (.dat (.int .i64 2)))⟩,
    ⟨(some 68), (some (65, false)), .mv (.t 67)⟩,
    ⟨(some 69), (some (68, true)), .load 2 true (.t 14)⟩,
    ⟨(some 70), (some (68, true)), .load 2 true (.t 12)⟩,
    ⟨(some 71), (some (68, true)), .eqs true [1, 1] (.t 69) (.t 70)⟩,
    ⟨(some 72), (some (65, false)), .pick (.t 68) (.t 71) (.c (.dat (.bool false)))⟩,
    ⟨(some 73), none, .pick (.t 65) (.c (.dat (.bool true))) (.t 72)⟩])
  (.cond (.t 73)
   (.seq (.ops [
     ⟨(some 10), none, .mv (.c (.dat (.bool false)))⟩])
   .ret)
   .skip))
  (.seq (.seq (.ops [
    ⟨(some 74), none, .mv (.t 17)⟩,
    ⟨(some 75), none, .bin .eql (.t 74) (.c (.dat (.int .i64 0)))⟩,
    ⟨(some 76), none, .mv (.t 0)⟩,
    ⟨(some 77), none, .bin .eql (.t 76) (.c (.dat (.int .i64 2)))⟩,
    ⟨(some 78), none, .beq true (.t 75) (.t 77)⟩,
    ⟨(some 79), none, .mv (.t 78)⟩,
    ⟨(some 80), (some (79, false)), .mv (.t 17)⟩,
    ⟨(some 81), (some (79, false)), .bin .eql (.t 80) (.c (.dat (.int .i64 0)))⟩,
    ⟨(some 82), (some (79, false)), .mv (.t 81)⟩,
    ⟨(some 83), (some (82, true)), .load 2 true (.t 16)⟩,
    ⟨(some 84), (some (82, true)), .mv (.t 4)⟩,
    ⟨(some 85), (some (82, true)), .build [(.dat (.int .i64 0)), (.dat (.int .i64 0))] [(0, 1, (.c (.dat (.int .i64 3)))), (1, 1, (.t 84))]⟩,
    ⟨(some 86), (some (82, true)), .eqs true [1, 1] (.t 83) (.t 85)⟩,
    ⟨(some 87), (some (79, false)), .pick (.t 82) (.t 86) (.c (.dat (.bool false)))⟩,
    ⟨(some 88), none, .pick (.t 79) (.c (.dat (.bool true))) (.t 87)⟩,
    ⟨(some 89), none, .mv (.t 88)⟩,
    ⟨(some 90), (some (89, false)), .mv (.t 17)⟩,
    ⟨(some 91), (some (89, false)), .bin .neq (.t 90) (.c (.dat (.int .i64 0)))⟩,
    ⟨(some 92), (some (89, false)), .mv (.t 91)⟩,
    ⟨(some 93), (some (92, true)), .load 2 true (.t 16)⟩,
    ⟨(some 94), (some (92, true)), .load 2 true (.t 12)⟩,
    ⟨(some 95), (some (92, true)), .eqs true [1, 1] (.t 93) (.t 94)⟩,
    ⟨(some 96), (some (92, true)), .mv (.t 95)⟩,
    ⟨(some 97), (some (96, false)), .mv (.t 17)⟩,
    ⟨(some 98), (some (96, false)), .bin .neq (.t 97) (.c (.dat (.int .i64 7)))⟩,
    ⟨(some 99), (some (92, true)), .pick (.t 96) (.c (.dat (.bool true))) (.t 98)⟩,
    ⟨(some 100), (some (89, false)), .pick (.t 92) (.t 99) (.c (.dat (.bool false)))⟩,
    ⟨(some 101), none, .pick (.t 89) (.c (.dat (.bool true))) (.t 100)⟩])
  (.cond (.t 101)
   (.seq (.ops [
     ⟨(some 10), none, .mv (.c (.dat (.bool false)))⟩])
   .ret)
   .skip))
  (.seq (.seq (.ops [
    ⟨(some 102), none, .mv (.t 19)⟩,
    ⟨(some 103), none, .bin .eql (.t 102) (.c (.dat (.int .i64 0)))⟩,
    ⟨(some 104), none, .mv (.t 0)⟩,
    ⟨(some 105), none, .bin .eql (.t 104) (.c (.dat (.int .i64 1)))⟩,
    ⟨(some 106), none, .mv (.t 105)⟩,
    ⟨(some 107), (some (106, false)), .mv (.t 0)⟩,
    ⟨(some 108), (some (106, false)), .bin .eql (.t 107) (.c (.dat (.int .i64 2)))⟩,
    ⟨(some 109), none, .pick (.t 106) (.c (.dat (.bool true))) (.t 108)⟩,
    ⟨(some 110), none, .beq true (.t 103) (.t 109)⟩,
    ⟨(some 111), none, .mv (.t 110)⟩,
    ⟨(some 112), (some (111, false)), .mv (.t 19)⟩,
    ⟨(some 113), (some (111, false)), .bin .neq (.t 112) (.c (.dat (.int .i64 0)))⟩,
    ⟨(some 114), (some (111, false)), .mv (.t 113)⟩,
    ⟨(some 115), (some (114, true)), .load 2 true (.t 18)⟩,
    ⟨(some 116), (some (114, true)), .load 2 true (.t 12)⟩,
    ⟨(some 117), (some (114, true)), .eqs true [1, 1] (.t 115) (.t 116)⟩,
    ⟨(some 118), (some (114, true)), .mv (.t 117)⟩,
    ⟨(some 119), (some (118, false)), .mv (.t 19)⟩,
    ⟨(some 120), (some (118, false)), .bin .neq (.t 119) (.c (.dat (.int .i64 7)))⟩,
    ⟨(some 121), (some (114, true)), .pick (.t 118) (.c (.dat (.bool true))) (.t 120)⟩,
    ⟨(some 122), (some (111, false)), .pick (.t 114) (.t 121) (.c (.dat (.bool false)))⟩,
    ⟨(some 123), none, .pick (.t 111) (.c (.dat (.bool true))) (.t 122)⟩])
  (.cond (.t 123)
   (.seq (.ops [
     ⟨(some 10), none, .mv (.c (.dat (.bool false)))⟩])
   .ret)
   .skip))
  (.seq (.seq (.ops [
    ⟨(some 124), none, .mv (.t 19)⟩,
    ⟨(some 125), none, .bin .neq (.t 124) (.c (.dat (.int .i64 0)))⟩])
  (.cond (.t 125)
   (.seq (.ops [
     ⟨(some 126), none, .mv (.t 11)⟩,
     ⟨(some 10), none, .mv (.t 126)⟩])
   .ret)
   .skip))
  (.seq (.ops [
    ⟨(some 128), none, .load 2 true (.t 18)⟩,
    ⟨(some 129), none, .mv (.t 13)⟩,
    ⟨(some 130), none, .bin .add (.t 129) (.c (.dat (.int .i64 1)))⟩,
    ⟨(some 131), none, .mv (.t 4)⟩,
    ⟨(some 132), none, .call id_breach_Next [(.t 128), (.c (.dat (.int .i64 0))), (.t 130), (.t 131)]⟩,
    ⟨(some 127), none, .mv (.t 132)⟩,
    ⟨(some 133), none, .ext 0 (.t 127)⟩,
    ⟨(some 134), none, .ext 1 (.t 127)⟩,
    ⟨(some 20), none, .alloc 29020 [(.dat (.int .i64 0)), (.dat (.int .i64 0))]⟩,
    ⟨none, none, .store 2 (.t 20) (.t 133)⟩,
    ⟨(some 21), none, .mv (.t 134)⟩])
  (.seq (.ops [
    ⟨(some 135), none, .mv (.t 11)⟩,
    ⟨(some 136), none, .mv (.t 135)⟩,
    ⟨(some 137), (some (136, true)), .load 2 true (.t 18)⟩,
    ⟨(some 138), (some (136, true)), .build [(.dat (.int .i64 0)), (.dat (.int .i64 0))] []⟩,
    ⟨(some 139), (some (136, true)), .eqs false [1, 1] (.t 137) (.t 138)⟩,
    ⟨(some 140), none, .pick (.t 136) (.t 139) (.c (.dat (.bool false)))⟩,
    ⟨(some 141), none, .mv (.t 140)⟩,
    ⟨(some 142), (some (141, true)), .mv (.t 21)⟩,
    ⟨(some 143), (some (141, true)), .bin .eql (.t 142) (.c (.dat (.int .i64 0)))⟩,
    ⟨(some 144), none, .pick (.t 141) (.t 143) (.c (.dat (.bool false)))⟩,
    ⟨(some 145), none, .mv (.t 144)⟩,
    ⟨(some 146), (some (145, true)), .load 2 true (.t 20)⟩,
    ⟨(some 147), (some (145, true)), .mv (.t 4)⟩,
    ⟨(some 148), (some (145, true)), .build [(.dat (.int .i64 0)), (.dat (.int .i64 0))] [(0, 1, (.c (.dat (.int .i64 1)))), (1, 1, (.t 147))]⟩,
    ⟨(some 149), (some (145, true)), .eqs false [1, 1] (.t 146) (.t 148)⟩,
    ⟨(some 150), none, .pick (.t 145) (.t 149) (.c (.dat (.bool false)))⟩,
    ⟨(some 10), none, .mv (.t 150)⟩])
  .ret)))))))))))))) }

def mf_law27_BreachWorst : MFunc :=
  { n := 107, np := 2, res := [.t 4], body :=
  (.seq (.ops [
    ⟨(some 4), none, .mv (.c (.dat (.bool false)))⟩])
  (.seq (.ops [
    ⟨(some 11), none, .call id_law27_small []⟩,
    ⟨(some 5), none, .mv (.t 11)⟩])
  (.seq (.seq (.ops [
    ⟨(some 12), none, .mv (.t 0)⟩,
    ⟨(some 13), none, .len (.t 12)⟩,
    ⟨(some 14), none, .bin .gtr (.t 13) (.c (.dat (.int .i64 40)))⟩,
    ⟨(some 15), none, .mv (.t 14)⟩,
    ⟨(some 16), (some (15, false)), .mv (.t 1)⟩,
    ⟨(some 17), (some (15, false)), .len (.t 16)⟩,
    ⟨(some 18), (some (15, false)), .bin .gtr (.t 17) (.c (.dat (.int .i64 40)))⟩,
    ⟨(some 19), none, .pick (.t 15) (.c (.dat (.bool true))) (.t 18)⟩])
  (.cond (.t 19)
   (.seq (.ops [
     ⟨(some 20), none, .mv (.t 5)⟩,
     ⟨(some 4), none, .mv (.t 20)⟩])
   .ret)
   .skip))
  (.seq (.ops [
    ⟨(some 21), none, .bsl 30021 true [] 2 0 []⟩,
    ⟨(some 22), none, .mv (.t 1)⟩,
    ⟨(some 23), none, .app 30023 [(.dat (.int .i64 0)), (.dat (.int .i64 0))] 16 (.t 21) (.t 22)⟩,
    ⟨(some 24), none, .mv (.t 0)⟩,
    ⟨(some 25), none, .app 30025 [(.dat (.int .i64 0)), (.dat (.int .i64 0))] 16 (.t 23) (.t 24)⟩,
    ⟨(some 6), none, .mv (.t 25)⟩])
  (.seq (.seq (.ghost (.freeze 6) (.ops [
    ⟨(some 7), none, .mv (.c (.dat (.int .i64 0)))⟩]))
  (.block 0
   (.loop 
    (.seq (.seq (.ops [
      ⟨(some 26), none, .mv (.t 7)⟩,
      ⟨(some 27), none, .mv (.t 6)⟩,
      ⟨(some 28), none, .len (.t 27)⟩,
      ⟨(some 29), none, .bin .lss (.t 26) (.t 28)⟩])
    (.cond (.t 29)
     .skip
     (.exit 0)))
    (.seq (.block 1
     (.seq (.ops [
       ⟨(some 32), none, .mv (.t 6)⟩,
       ⟨(some 33), none, .mv (.t 7)⟩,
       ⟨(some 34), none, .iad 2 (.t 32) (.t 33)⟩,
       ⟨(some 35), none, .load 2 true (.t 34)⟩,
       ⟨(some 36), none, .call id_breach_Right [(.t 35)]⟩,
       ⟨(some 37), none, .un .not (.t 36)⟩])
     (.cond (.t 37)
      (.seq (.ops [
        ⟨(some 38), none, .mv (.t 5)⟩,
        ⟨(some 39), none, .mv (.t 38)⟩,
        ⟨(some 40), (some (39, true)), .mv (.t 6)⟩,
        ⟨(some 41), (some (39, true)), .call id_breach_Worst [(.t 40)]⟩,
        ⟨(some 42), (some (39, true)), .build [(.dat (.int .i64 0)), (.dat (.int .i64 0))] []⟩,
        ⟨(some 43), (some (39, true)), .eqs false [1, 1] (.t 41) (.t 42)⟩,
        ⟨(some 44), none, .pick (.t 39) (.t 43) (.c (.dat (.bool false)))⟩,
        ⟨(some 4), none, .mv (.t 44)⟩])
      .ret)
      .skip)))
    (.ops [
      ⟨(some 30), none, .mv (.t 7)⟩,
      ⟨(some 31), none, .bin .add (.t 30) (.c (.dat (.int .i64 1)))⟩,
      ⟨(some 7), none, .mv (.t 31)⟩]))))))
  (.seq (.ops [
    ⟨(some 45), none, .mv (.t 0)⟩,
    ⟨(some 46), none, .call id_breach_Worst [(.t 45)]⟩,
    ⟨(some 8), none, .alloc 30008 [(.dat (.int .i64 0)), (.dat (.int .i64 0))]⟩,
    ⟨none, none, .store 2 (.t 8) (.t 46)⟩])
  (.seq (.ops [
    ⟨(some 47), none, .load 2 true (.t 8)⟩,
    ⟨(some 48), none, .build [(.dat (.int .i64 0)), (.dat (.int .i64 0))] []⟩,
    ⟨(some 49), none, .eqs false [1, 1] (.t 47) (.t 48)⟩,
    ⟨(some 9), none, .mv (.t 49)⟩])
  (.seq (.seq (.ops [
    ⟨(some 10), none, .mv (.c (.dat (.int .i64 0)))⟩])
  (.block 2
   (.loop 
    (.seq (.seq (.ops [
      ⟨(some 50), none, .mv (.t 10)⟩,
      ⟨(some 51), none, .mv (.t 0)⟩,
      ⟨(some 52), none, .len (.t 51)⟩,
      ⟨(some 53), none, .bin .lss (.t 50) (.t 52)⟩])
    (.cond (.t 53)
     .skip
     (.exit 2)))
    (.seq (.block 3
     (.seq (.opsD [
       ⟨(some 56), none, .mv (.t 9)⟩,
       ⟨(some 57), none, .mv (.t 56)⟩,
       ⟨(some 58), (some (57, false)), .mv (.t 0)⟩,
       ⟨(some 59), (some (57, false)), .mv (.t 10)⟩,
       ⟨(some 60), (some (57, false)), .iad 2 (.t 58) (.t 59)⟩,
       ⟨(some 61), (some (57, false)), .load 2 true (.t 60)⟩,
       ⟨(some 62), (some (57, false)), .load 2 true (.t 8)⟩,
       ⟨(some 63), (some (57, false)), .eqs false [1, 1] (.t 61) (.t 62)⟩,
       ⟨(some 64), none, .pick (.t 57) (.c (.dat (.bool true))) (.t 63)⟩,
       ⟨(some 9), none, .mv (.t 64)⟩] [[], [], [], [], [], [], [], [], [], []])
     (.seq (.opsD [
       ⟨(some 65), none, .mv (.t 0)⟩,
       ⟨(some 66), none, .mv (.t 10)⟩,
       ⟨(some 67), none, .iad 2 (.t 65) (.t 66)⟩,
       ⟨(some 68), none, .fad 0 (.t 67)⟩,
       ⟨(some 69), none, .load 1 false (.t 68)⟩,
       ⟨(some 70), none, .fad 0 (.t 8)⟩,
       ⟨(some 71), none, .load 1 false (.t 70)⟩,
       ⟨(some 72), none, .bin .gtr (.t 69) (.t 71)⟩,
       ⟨(some 73), none, .mv (.t 72)⟩,
       ⟨(some 74), (some (73, false)), .mv (.t 0)⟩,
       ⟨(some 75), (some (73, false)), .mv (.t 10)⟩,
       ⟨(some 76), (some (73, false)), .iad 2 (.t 74) (.t 75)⟩,
       ⟨(some 77), (some (73, false)), .fad 0 (.t 76)⟩,
       ⟨(some 78), (some (73, false)), .load 1 false (.t 77)⟩,
       ⟨(some 79), (some (73, false)), .fad 0 (.t 8)⟩,
       ⟨(some 80), (some (73, false)), .load 1 false (.t 79)⟩,
       ⟨(some 81), (some (73, false)), .bin .eql (.t 78) (.t 80)⟩,
       ⟨(some 82), (some (73, false)), .mv (.t 81)⟩,
       ⟨(some 83), (some (82, true)), .mv (.t 0)⟩,
       ⟨(some 84), (some (82, true)), .mv (.t 10)⟩,
       ⟨(some 85), (some (82, true)), .iad 2 (.t 83) (.t 84)⟩,
       ⟨(some 86), (some (82, true)), .fad 1 (.t 85)⟩,
       ⟨(some 87), (some (82, true)), .load 1 false (.t 86)⟩,
       ⟨(some 88), (some (82, true)), .fad 1 (.t 8)⟩,
       ⟨(some 89), (some (82, true)), .load 1 false (.t 88)⟩,
       ⟨(some 90), (some (82, true)), .bin .lss (.t 87) (.t 89)⟩,
       ⟨(some 91), (some (73, false)), .pick (.t 82) (.t 90) (.c (.dat (.bool false)))⟩,
       ⟨(some 92), none, .pick (.t 73) (.c (.dat (.bool true))) (.t 91)⟩] [[], [], [], [], [], [], [], [], [], [], [], [], [], [], [], [], [], [], [], [], [], [], [], [], [], [], [], []])
     (.cond (.t 92)
      (.seq (.ops [
        ⟨(some 4), none, .mv (.c (.dat (.bool false)))⟩])
      .ret)
      .skip))))
    (.ops [
      ⟨(some 54), none, .mv (.t 10)⟩,
      ⟨(some 55), none, .bin .add (.t 54) (.c (.dat (.int .i64 1)))⟩,
      ⟨(some 10), none, .mv (.t 55)⟩]))))))
  (.seq (.opsD [
    ⟨(some 93), none, .mv (.t 5)⟩,
    ⟨(some 94), none, .mv (.t 93)⟩,
    ⟨(some 95), (some (94, true)), .mv (.t 9)⟩,
    ⟨(some 96), none, .pick (.t 94) (.t 95) (.c (.dat (.bool false)))⟩,
    ⟨(some 97), none, .mv (.t 96)⟩,
    ⟨(some 98), (some (97, true)), .mv (.t 6)⟩,
    ⟨(some 99), (some (97, true)), .call id_breach_Worst [(.t 98)]⟩,
    ⟨(some 100), (some (97, true)), .load 2 true (.t 8)⟩,
    ⟨(some 101), (some (97, true)), .mv (.t 1)⟩,
    ⟨(some 102), (some (97, true)), .call id_breach_Worst [(.t 101)]⟩,
    ⟨(some 103), (some (97, true)), .bsl 30103 false [(.dat (.int .i64 0)), (.dat (.int .i64 0)), (.dat (.int .i64 0)), (.dat (.int .i64 0))] 2 2 [(0, 2, (.t 100)), (2, 2, (.t 102))]⟩,
    ⟨(some 104), (some (97, true)), .call id_breach_Worst [(.t 103)]⟩,
    ⟨(some 105), (some (97, true)), .eqs false [1, 1] (.t 99) (.t 104)⟩,
    ⟨(some 106), none, .pick (.t 97) (.t 105) (.c (.dat (.bool false)))⟩,
    ⟨(some 4), none, .mv (.t 106)⟩] [[], [], [], [], [], [], [], [], [], [], [], [], [], [], []])
  .ret))))))))) }

def mf_law27_small : MFunc :=
  { n := 117, np := 0, res := [.t 0], body :=
  (.seq (.ops [
    ⟨(some 0), none, .mv (.c (.dat (.bool false)))⟩])
  (.seq (.ops [
    ⟨(some 16), none, .build [(.dat (.int .i64 0)), (.dat (.int .i64 0))] []⟩,
    ⟨(some 17), none, .call id_breach_Next [(.t 16), (.c (.dat (.int .i64 0))), (.c (.dat (.int .i64 3))), (.c (.dat (.int .i64 10)))]⟩,
    ⟨(some 15), none, .mv (.t 17)⟩,
    ⟨(some 18), none, .ext 0 (.t 15)⟩,
    ⟨(some 19), none, .ext 1 (.t 15)⟩,
    ⟨(some 1), none, .alloc 21001 [(.dat (.int .i64 0)), (.dat (.int .i64 0))]⟩,
    ⟨none, none, .store 2 (.t 1) (.t 18)⟩,
    ⟨(some 2), none, .mv (.t 19)⟩])
  (.seq (.ops [
    ⟨(some 21), none, .load 2 true (.t 1)⟩,
    ⟨(some 22), none, .call id_breach_Next [(.t 21), (.c (.dat (.int .i64 2))), (.c (.dat (.int .i64 3))), (.c (.dat (.int .i64 12)))]⟩,
    ⟨(some 20), none, .mv (.t 22)⟩,
    ⟨(some 23), none, .ext 0 (.t 20)⟩,
    ⟨(some 24), none, .ext 1 (.t 20)⟩,
    ⟨(some 3), none, .alloc 21003 [(.dat (.int .i64 0)), (.dat (.int .i64 0))]⟩,
    ⟨none, none, .store 2 (.t 3) (.t 23)⟩,
    ⟨(some 4), none, .mv (.t 24)⟩])
  (.seq (.ops [
    ⟨(some 26), none, .load 2 true (.t 3)⟩,
    ⟨(some 27), none, .call id_breach_Next [(.t 26), (.c (.dat (.int .i64 0))), (.c (.dat (.int .i64 3))), (.c (.dat (.int .i64 13)))]⟩,
    ⟨(some 25), none, .mv (.t 27)⟩,
    ⟨(some 28), none, .ext 0 (.t 25)⟩,
    ⟨(some 29), none, .ext 1 (.t 25)⟩,
    ⟨(some 5), none, .alloc 21005 [(.dat (.int .i64 0)), (.dat (.int .i64 0))]⟩,
    ⟨none, none, .store 2 (.t 5) (.t 28)⟩,
    ⟨(some 6), none, .mv (.t 29)⟩])
  (.seq (.ops [
    ⟨(some 31), none, .load 2 true (.t 1)⟩,
    ⟨(some 32), none, .call id_breach_Next [(.t 31), (.c (.dat (.int .i64 1))), (.c (.dat (.int .i64 3))), (.c (.dat (.int .i64 12)))]⟩,
    ⟨(some 30), none, .mv (.t 32)⟩,
    ⟨(some 33), none, .ext 0 (.t 30)⟩,
    ⟨(some 34), none, .ext 1 (.t 30)⟩,
    ⟨(some 7), none, .alloc 21007 [(.dat (.int .i64 0)), (.dat (.int .i64 0))]⟩,
    ⟨none, none, .store 2 (.t 7) (.t 33)⟩,
    ⟨(some 8), none, .mv (.t 34)⟩])
  (.seq (.ops [
    ⟨(some 36), none, .load 2 true (.t 5)⟩,
    ⟨(some 37), none, .call id_breach_Notice [(.t 36), (.c (.dat (.int .i64 14)))]⟩,
    ⟨(some 35), none, .mv (.t 37)⟩,
    ⟨(some 38), none, .ext 0 (.t 35)⟩,
    ⟨(some 39), none, .ext 1 (.t 35)⟩,
    ⟨(some 9), none, .alloc 21009 [(.dat (.int .i64 0)), (.dat (.int .i64 0))]⟩,
    ⟨none, none, .store 2 (.t 9) (.t 38)⟩,
    ⟨(some 10), none, .mv (.t 39)⟩])
  (.seq (.ops [
    ⟨(some 41), none, .load 2 true (.t 5)⟩,
    ⟨(some 42), none, .call id_breach_Waive [(.t 41), (.c (.dat (.int .i64 14)))]⟩,
    ⟨(some 40), none, .mv (.t 42)⟩,
    ⟨(some 43), none, .ext 0 (.t 40)⟩,
    ⟨(some 44), none, .ext 1 (.t 40)⟩,
    ⟨(some 11), none, .alloc 21011 [(.dat (.int .i64 0)), (.dat (.int .i64 0))]⟩,
    ⟨none, none, .store 2 (.t 11) (.t 43)⟩,
    ⟨(some 12), none, .mv (.t 44)⟩])
  (.seq (.ops [
    ⟨(some 45), none, .build [(.dat (.int .i64 0)), (.dat (.int .i64 0))] [(0, 1, (.c (.dat (.int .i64 1)))), (1, 1, (.c (.dat (.int .i64 10))))]⟩,
    ⟨(some 13), none, .alloc 21013 [(.dat (.int .i64 0)), (.dat (.int .i64 0))]⟩,
    ⟨none, none, .store 2 (.t 13) (.t 45)⟩])
  (.seq (.ops [
    ⟨(some 46), none, .mv (.t 2)⟩,
    ⟨(some 47), none, .bin .eql (.t 46) (.c (.dat (.int .i64 0)))⟩,
    ⟨(some 48), none, .mv (.t 47)⟩,
    ⟨(some 49), (some (48, true)), .mv (.t 4)⟩,
    ⟨(some 50), (some (48, true)), .bin .eql (.t 49) (.c (.dat (.int .i64 0)))⟩,
    ⟨(some 51), none, .pick (.t 48) (.t 50) (.c (.dat (.bool false)))⟩,
    ⟨(some 52), none, .mv (.t 51)⟩,
    ⟨(some 53), (some (52, true)), .mv (.t 6)⟩,
    ⟨(some 54), (some (52, true)), .bin .eql (.t 53) (.c (.dat (.int .i64 0)))⟩,
    ⟨(some 55), none, .pick (.t 52) (.t 54) (.c (.dat (.bool false)))⟩,
    ⟨(some 56), none, .mv (.t 55)⟩,
    ⟨(some 57), (some (56, true)), .mv (.t 8)⟩,
    ⟨(some 58), (some (56, true)), .bin .eql (.t 57) (.c (.dat (.int .i64 0)))⟩,
    ⟨(some 59), none, .pick (.t 56) (.t 58) (.c (.dat (.bool false)))⟩,
    ⟨(some 60), none, .mv (.t 59)⟩,
    ⟨(some 61), (some (60, true)), .mv (.t 10)⟩,
    ⟨(some 62), (some (60, true)), .bin .eql (.t 61) (.c (.dat (.int .i64 0)))⟩,
    ⟨(some 63), none, .pick (.t 60) (.t 62) (.c (.dat (.bool false)))⟩,
    ⟨(some 64), none, .mv (.t 63)⟩,
    ⟨(some 65), (some (64, true)), .mv (.t 12)⟩,
    ⟨(some 66), (some (64, true)), .bin .eql (.t 65) (.c (.dat (.int .i64 0)))⟩,
    ⟨(some 67), none, .pick (.t 64) (.t 66) (.c (.dat (.bool false)))⟩,
    ⟨(some 68), none, .mv (.t 67)⟩,
    ⟨(some 69), (some (68, true)), .load 2 true (.t 1)⟩,
    ⟨(some 70), (some (68, true)), .load 2 true (.t 13)⟩,
    ⟨(some 71), (some (68, true)), .eqs false [1, 1] (.t 69) (.t 70)⟩,
    ⟨(some 72), none, .pick (.t 68) (.t 71) (.c (.dat (.bool false)))⟩,
    ⟨(some 73), none, .mv (.t 72)⟩,
    ⟨(some 74), (some (73, true)), .load 2 true (.t 3)⟩,
    ⟨(some 75), (some (73, true)), .load 2 true (.t 13)⟩,
    ⟨(some 76), (some (73, true)), .eqs false [1, 1] (.t 74) (.t 75)⟩,
    ⟨(some 77), none, .pick (.t 73) (.t 76) (.c (.dat (.bool false)))⟩,
    ⟨(some 78), none, .mv (.t 77)⟩,
    ⟨(some 79), (some (78, true)), .load 2 true (.t 5)⟩,
    ⟨(some 80), (some (78, true)), .build [(.dat (.int .i64 0)), (.dat (.int .i64 0))] [(0, 1, (.c (.dat (.int .i64 2)))), (1, 1, (.c (.dat (.int .i64 13))))]⟩,
    ⟨(some 81), (some (78, true)), .eqs false [1, 1] (.t 79) (.t 80)⟩,
    ⟨(some 82), none, .pick (.t 78) (.t 81) (.c (.dat (.bool false)))⟩,
    ⟨(some 83), none, .mv (.t 82)⟩,
    ⟨(some 84), (some (83, true)), .load 2 true (.t 7)⟩,
    ⟨(some 85), (some (83, true)), .build [(.dat (.int .i64 0)), (.dat (.int .i64 0))] []⟩,
    ⟨(some 86), (some (83, true)), .eqs false [1, 1] (.t 84) (.t 85)⟩,
    ⟨(some 87), none, .pick (.t 83) (.t 86) (.c (.dat (.bool false)))⟩,
    ⟨(some 14), none, .mv (.t 87)⟩])
  (.seq (.opsD [
    ⟨(some 88), none, .mv (.t 14)⟩,
    ⟨(some 89), none, .mv (.t 88)⟩,
    ⟨(some 90), (some (89, true)), .load 2 true (.t 9)⟩,
    ⟨(some 91), (some (89, true)), .build [(.dat (.int .i64 0)), (.dat (.int .i64 0))] [(0, 1, (.c (.dat (.int .i64 3)))), (1, 1, (.c (.dat (.int .i64 14))))]⟩,
    ⟨(some 92), (some (89, true)), .eqs false [1, 1] (.t 90) (.t 91)⟩,
    ⟨(some 93), none, .pick (.t 89) (.t 92) (.c (.dat (.bool false)))⟩,
    ⟨(some 94), none, .mv (.t 93)⟩,
    ⟨(some 95), (some (94, true)), .load 2 true (.t 11)⟩,
    ⟨(some 96), (some (94, true)), .build [(.dat (.int .i64 0)), (.dat (.int .i64 0))] []⟩,
    ⟨(some 97), (some (94, true)), .eqs false [1, 1] (.t 95) (.t 96)⟩,
    ⟨(some 98), none, .pick (.t 94) (.t 97) (.c (.dat (.bool false)))⟩,
    ⟨(some 99), none, .mv (.t 98)⟩,
    ⟨(some 100), (some (99, true)), .load 2 true (.t 1)⟩,
    ⟨(some 101), (some (99, true)), .load 2 true (.t 5)⟩,
    ⟨(some 102), (some (99, true)), .load 2 true (.t 7)⟩,
    ⟨(some 103), (some (99, true)), .bsl 21103 false [(.dat (.int .i64 0)), (.dat (.int .i64 0)), (.dat (.int .i64 0)), (.dat (.int .i64 0)), (.dat (.int .i64 0)), (.dat (.int .i64 0))] 2 3 [(0, 2, (.t 100)), (2, 2, (.t 101)), (4, 2, (.t 102))]⟩,
    ⟨(some 104), (some (99, true)), .call id_breach_Worst [(.t 103)]⟩,
    ⟨(some 105), (some (99, true)), .load 2 true (.t 5)⟩,
    ⟨(some 106), (some (99, true)), .eqs false [1, 1] (.t 104) (.t 105)⟩,
    ⟨(some 107), none, .pick (.t 99) (.t 106) (.c (.dat (.bool false)))⟩,
    ⟨(some 108), none, .mv (.t 107)⟩,
    ⟨(some 109), (some (108, true)), .load 2 true (.t 5)⟩,
    ⟨(some 110), (some (108, true)), .call id_breach_Right [(.t 109)]⟩,
    ⟨(some 111), none, .pick (.t 108) (.t 110) (.c (.dat (.bool false)))⟩,
    ⟨(some 112), none, .mv (.t 111)⟩,
    ⟨(some 113), (some (112, true)), .build [(.dat (.int .i64 0)), (.dat (.int .i64 0))] [(1, 1, (.c (.dat (.int .i64 1))))]⟩,
    ⟨(some 114), (some (112, true)), .call id_breach_Right [(.t 113)]⟩,
    ⟨(some 115), (some (112, true)), .un .not (.t 114)⟩,
    ⟨(some 116), none, .pick (.t 112) (.t 115) (.c (.dat (.bool false)))⟩,
    ⟨(some 0), none, .mv (.t 116)⟩] [[], [], [], [], [], [], [], [], [], [], [], [], [], [], [], [], [], [], [], [], [], [], [], [], [], [], [], [], [], []])
  .ret)))))))))) }

def mf_breach_Next : MFunc :=
  { n := 71, np := 4, res := [.cell 8 2 true, .t 9], body :=
  (.seq (.ops [
    ⟨(some 4), none, .box 1004 (.t 0)⟩,
    ⟨(some 8), none, .alloc 1008 [(.dat (.int .i64 0)), (.dat (.int .i64 0))]⟩,
    ⟨(some 9), none, .mv (.c (.dat (.int .i64 0)))⟩])
  (.seq (.seq (.ops [
    ⟨(some 10), none, .load 2 true (.t 4)⟩,
    ⟨(some 11), none, .call id_breach_Right [(.t 10)]⟩,
    ⟨(some 12), none, .un .not (.t 11)⟩,
    ⟨(some 13), none, .mv (.t 12)⟩,
    ⟨(some 14), (some (13, false)), .mv (.t 1)⟩,
    ⟨(some 15), (some (13, false)), .bin .lss (.t 14) (.c (.dat (.int .i64 0)))⟩,
    ⟨(some 16), none, .pick (.t 13) (.c (.dat (.bool true))) (.t 15)⟩,
    ⟨(some 17), none, .mv (.t 16)⟩,
    ⟨(some 18), (some (17, false)), .mv (.t 1)⟩,
    ⟨(some 19), (some (17, false)), .bin .geq (.t 18) (.c (.dat (.int .i64 3)))⟩,
    ⟨(some 20), none, .pick (.t 17) (.c (.dat (.bool true))) (.t 19)⟩,
    ⟨(some 21), none, .mv (.t 20)⟩,
    ⟨(some 22), (some (21, false)), .mv (.t 2)⟩,
    ⟨(some 23), (some (21, false)), .bin .lss (.t 22) (.c (.dat (.int .i64 0)))⟩,
    ⟨(some 24), none, .pick (.t 21) (.c (.dat (.bool true))) (.t 23)⟩,
    ⟨(some 25), none, .mv (.t 24)⟩,
    ⟨(some 26), (some (25, false)), .mv (.t 2)⟩,
    ⟨(some 27), (some (25, false)), .bin .gtr (.t 26) (.c (.dat (.int .i64 1000)))⟩,
    ⟨(some 28), none, .pick (.t 25) (.c (.dat (.bool true))) (.t 27)⟩,
    ⟨(some 29), none, .mv (.t 28)⟩,
    ⟨(some 30), (some (29, false)), .mv (.t 3)⟩,
    ⟨(some 31), (some (29, false)), .call id_breach_day [(.t 30)]⟩,
    ⟨(some 32), (some (29, false)), .un .not (.t 31)⟩,
    ⟨(some 33), none, .pick (.t 29) (.c (.dat (.bool true))) (.t 32)⟩])
  (.cond (.t 33)
   (.seq (.ops [
     ⟨(some 34), none, .load 2 true (.t 4)⟩,
     ⟨none, none, .store 2 (.t 8) (.t 34)⟩,
     ⟨(some 9), none, .mv (.c (.dat (.int .i64 1)))⟩])
   .ret)
   .skip))
  (.seq (.seq (.ops [
    ⟨(some 35), none, .mv (.t 3)⟩,
    ⟨(some 36), none, .fad 1 (.t 4)⟩,
    ⟨(some 37), none, .load 1 false (.t 36)⟩,
    ⟨(some 38), none, .bin .lss (.t 35) (.t 37)⟩])
  (.cond (.t 38)
   (.seq (.ops [
     ⟨(some 39), none, .load 2 true (.t 4)⟩,
     ⟨none, none, .store 2 (.t 8) (.t 39)⟩,
     ⟨(some 9), none, .mv (.c (.dat (.int .i64 20)))⟩])
   .ret)
   .skip))
  (.seq (.seq (.ops [
    ⟨(some 40), none, .fad 0 (.t 4)⟩,
    ⟨(some 41), none, .load 1 false (.t 40)⟩,
    ⟨(some 42), none, .bin .eql (.t 41) (.c (.dat (.int .i64 1)))⟩,
    ⟨(some 43), none, .mv (.t 42)⟩,
    ⟨(some 44), (some (43, true)), .mv (.t 1)⟩,
    ⟨(some 45), (some (43, true)), .bin .eql (.t 44) (.c (.dat (.int .i64 1)))⟩,
    ⟨(some 46), none, .pick (.t 43) (.t 45) (.c (.dat (.bool false)))⟩])
  (.cond (.t 46)
   (.seq (.ops [
     ⟨(some 47), none, .build [(.dat (.int .i64 0)), (.dat (.int .i64 0))] []⟩,
     ⟨none, none, .store 2 (.t 8) (.t 47)⟩,
     ⟨(some 9), none, .mv (.c (.dat (.int .i64 0)))⟩])
   .ret)
   .skip))
  (.seq (.seq (.ops [
    ⟨(some 48), none, .fad 0 (.t 4)⟩,
    ⟨(some 49), none, .load 1 false (.t 48)⟩,
    ⟨(some 50), none, .bin .eql (.t 49) (.c (.dat (.int .i64 0)))⟩,
    ⟨(some 51), none, .mv (.t 50)⟩,
    ⟨(some 52), (some (51, true)), .mv (.t 1)⟩,
    ⟨(some 53), (some (51, true)), .bin .eql (.t 52) (.c (.dat (.int .i64 0)))⟩,
    ⟨(some 54), none, .pick (.t 51) (.t 53) (.c (.dat (.bool false)))⟩])
  (.cond (.t 54)
   (.ops [
     ⟨(some 55), none, .mv (.t 3)⟩,
     ⟨(some 56), none, .build [(.dat (.int .i64 0)), (.dat (.int .i64 0))] [(0, 1, (.c (.dat (.int .i64 1)))), (1, 1, (.t 55))]⟩,
     ⟨none, none, .store 2 (.t 4) (.t 56)⟩])
   .skip))
  (.seq (.seq (.ops [
    ⟨(some 57), none, .fad 0 (.t 4)⟩,
    ⟨(some 58), none, .load 1 false (.t 57)⟩,
    ⟨(some 59), none, .bin .eql (.t 58) (.c (.dat (.int .i64 1)))⟩,
    ⟨(some 60), none, .mv (.t 59)⟩,
    ⟨(some 61), (some (60, true)), .mv (.t 3)⟩,
    ⟨(some 62), (some (60, true)), .fad 1 (.t 4)⟩,
    ⟨(some 63), (some (60, true)), .load 1 false (.t 62)⟩,
    ⟨(some 64), (some (60, true)), .bin .sub (.t 61) (.t 63)⟩,
    ⟨(some 65), (some (60, true)), .mv (.t 2)⟩,
    ⟨(some 66), (some (60, true)), .bin .geq (.t 64) (.t 65)⟩,
    ⟨(some 67), none, .pick (.t 60) (.t 66) (.c (.dat (.bool false)))⟩])
  (.cond (.t 67)
   (.ops [
     ⟨(some 68), none, .mv (.t 3)⟩,
     ⟨(some 69), none, .build [(.dat (.int .i64 0)), (.dat (.int .i64 0))] [(0, 1, (.c (.dat (.int .i64 2)))), (1, 1, (.t 68))]⟩,
     ⟨none, none, .store 2 (.t 4) (.t 69)⟩])
   .skip))
  (.seq (.ops [
    ⟨(some 70), none, .load 2 true (.t 4)⟩,
    ⟨none, none, .store 2 (.t 8) (.t 70)⟩,
    ⟨(some 9), none, .mv (.c (.dat (.int .i64 0)))⟩])
  .ret))))))) }

def mf_ref27_Next : MFunc :=
  { n := 73, np := 4, res := [.cell 8 2 true, .t 9], body :=
  (.seq (.ops [
    ⟨(some 4), none, .box 11004 (.t 0)⟩,
    ⟨(some 8), none, .alloc 11008 [(.dat (.int .i64 0)), (.dat (.int .i64 0))]⟩,
    ⟨(some 9), none, .mv (.c (.dat (.int .i64 0)))⟩])
  (.seq (.seq (.ops [
    ⟨(some 10), none, .load 2 true (.t 4)⟩,
    ⟨(some 11), none, .call id_ref27_Right [(.t 10)]⟩,
    ⟨(some 12), none, .un .not (.t 11)⟩,
    ⟨(some 13), none, .mv (.t 12)⟩,
    ⟨(some 14), (some (13, false)), .mv (.t 1)⟩,
    ⟨(some 15), (some (13, false)), .bin .lss (.t 14) (.c (.dat (.int .i64 0)))⟩,
    ⟨(some 16), none, .pick (.t 13) (.c (.dat (.bool true))) (.t 15)⟩,
    ⟨(some 17), none, .mv (.t 16)⟩,
    ⟨(some 18), (some (17, false)), .mv (.t 1)⟩,
    ⟨(some 19), (some (17, false)), .bin .gtr (.t 18) (.c (.dat (.int .i64 2)))⟩,
    ⟨(some 20), none, .pick (.t 17) (.c (.dat (.bool true))) (.t 19)⟩,
    ⟨(some 21), none, .mv (.t 20)⟩,
    ⟨(some 22), (some (21, false)), .mv (.t 2)⟩,
    ⟨(some 23), (some (21, false)), .bin .lss (.t 22) (.c (.dat (.int .i64 0)))⟩,
    ⟨(some 24), none, .pick (.t 21) (.c (.dat (.bool true))) (.t 23)⟩,
    ⟨(some 25), none, .mv (.t 24)⟩,
    ⟨(some 26), (some (25, false)), .mv (.t 2)⟩,
    ⟨(some 27), (some (25, false)), .bin .gtr (.t 26) (.c (.dat (.int .i64 1000)))⟩,
    ⟨(some 28), none, .pick (.t 25) (.c (.dat (.bool true))) (.t 27)⟩,
    ⟨(some 29), none, .mv (.t 28)⟩,
    ⟨(some 30), (some (29, false)), .mv (.t 3)⟩,
    ⟨(some 31), (some (29, false)), .bin .lss (.t 30) (.c (.dat (.int .i64 0)))⟩,
    ⟨(some 32), none, .pick (.t 29) (.c (.dat (.bool true))) (.t 31)⟩,
    ⟨(some 33), none, .mv (.t 32)⟩,
    ⟨(some 34), (some (33, false)), .mv (.t 3)⟩,
    ⟨(some 35), (some (33, false)), .bin .gtr (.t 34) (.c (.dat (.int .i64 200000)))⟩,
    ⟨(some 36), none, .pick (.t 33) (.c (.dat (.bool true))) (.t 35)⟩])
  (.cond (.t 36)
   (.seq (.ops [
     ⟨(some 37), none, .load 2 true (.t 4)⟩,
     ⟨none, none, .store 2 (.t 8) (.t 37)⟩,
     ⟨(some 9), none, .mv (.c (.dat (.int .i64 1)))⟩])
   .ret)
   .skip))
  (.seq (.seq (.ops [
    ⟨(some 38), none, .mv (.t 3)⟩,
    ⟨(some 39), none, .fad 1 (.t 4)⟩,
    ⟨(some 40), none, .load 1 false (.t 39)⟩,
    ⟨(some 41), none, .bin .lss (.t 38) (.t 40)⟩])
  (.cond (.t 41)
   (.seq (.ops [
     ⟨(some 42), none, .load 2 true (.t 4)⟩,
     ⟨none, none, .store 2 (.t 8) (.t 42)⟩,
     ⟨(some 9), none, .mv (.c (.dat (.int .i64 20)))⟩])
   .ret)
   .skip))
  (.seq (.seq (.ops [
    ⟨(some 43), none, .fad 0 (.t 4)⟩,
    ⟨(some 44), none, .load 1 false (.t 43)⟩])
  (.block 0
   (.seq (.ops [
     ⟨(some 46), none, .bin .eql (.t 44) (.c (.dat (.int .i64 0)))⟩,
     ⟨(some 45), none, .mv (.t 46)⟩])
   (.cond (.t 45)
    (.seq (.seq (.ops [
      ⟨(some 47), none, .mv (.t 1)⟩,
      ⟨(some 48), none, .bin .eql (.t 47) (.c (.dat (.int .i64 0)))⟩,
      ⟨(some 49), none, .mv (.t 48)⟩,
      ⟨(some 50), (some (49, true)), .mv (.t 2)⟩,
      ⟨(some 51), (some (49, true)), .bin .eql (.t 50) (.c (.dat (.int .i64 0)))⟩,
      ⟨(some 52), none, .pick (.t 49) (.t 51) (.c (.dat (.bool false)))⟩])
    (.cond (.t 52)
     (.seq (.ops [
       ⟨(some 53), none, .mv (.t 3)⟩,
       ⟨(some 54), none, .build [(.dat (.int .i64 0)), (.dat (.int .i64 0))] [(0, 1, (.c (.dat (.int .i64 2)))), (1, 1, (.t 53))]⟩,
       ⟨none, none, .store 2 (.t 8) (.t 54)⟩,
       ⟨(some 9), none, .mv (.c (.dat (.int .i64 0)))⟩])
     .ret)
     .skip))
    (.seq (.ops [
      ⟨(some 55), none, .mv (.t 1)⟩,
      ⟨(some 56), none, .bin .eql (.t 55) (.c (.dat (.int .i64 0)))⟩])
    (.cond (.t 56)
     (.seq (.ops [
       ⟨(some 57), none, .mv (.t 3)⟩,
       ⟨(some 58), none, .build [(.dat (.int .i64 0)), (.dat (.int .i64 0))] [(0, 1, (.c (.dat (.int .i64 1)))), (1, 1, (.t 57))]⟩,
       ⟨none, none, .store 2 (.t 8) (.t 58)⟩,
       ⟨(some 9), none, .mv (.c (.dat (.int .i64 0)))⟩])
     .ret)
     .skip)))
    (.seq (.ops [
      ⟨(some 60), none, .bin .eql (.t 44) (.c (.dat (.int .i64 1)))⟩,
      ⟨(some 59), none, .mv (.t 60)⟩])
    (.cond (.t 59)
     (.seq (.seq (.ops [
       ⟨(some 61), none, .mv (.t 1)⟩,
       ⟨(some 62), none, .bin .eql (.t 61) (.c (.dat (.int .i64 1)))⟩])
     (.cond (.t 62)
      (.seq (.ops [
        ⟨(some 63), none, .build [(.dat (.int .i64 0)), (.dat (.int .i64 0))] []⟩,
        ⟨none, none, .store 2 (.t 8) (.t 63)⟩,
        ⟨(some 9), none, .mv (.c (.dat (.int .i64 0)))⟩])
      .ret)
      .skip))
     (.seq (.ops [
       ⟨(some 64), none, .mv (.t 3)⟩,
       ⟨(some 65), none, .fad 1 (.t 4)⟩,
       ⟨(some 66), none, .load 1 false (.t 65)⟩,
       ⟨(some 67), none, .mv (.t 2)⟩,
       ⟨(some 68), none, .bin .add (.t 66) (.t 67)⟩,
       ⟨(some 69), none, .bin .geq (.t 64) (.t 68)⟩])
     (.cond (.t 69)
      (.seq (.ops [
        ⟨(some 70), none, .mv (.t 3)⟩,
        ⟨(some 71), none, .build [(.dat (.int .i64 0)), (.dat (.int .i64 0))] [(0, 1, (.c (.dat (.int .i64 2)))), (1, 1, (.t 70))]⟩,
        ⟨none, none, .store 2 (.t 8) (.t 71)⟩,
        ⟨(some 9), none, .mv (.c (.dat (.int .i64 0)))⟩])
      .ret)
      .skip)))
     .skip))))))
  (.seq (.ops [
    ⟨(some 72), none, .load 2 true (.t 4)⟩,
    ⟨none, none, .store 2 (.t 8) (.t 72)⟩,
    ⟨(some 9), none, .mv (.c (.dat (.int .i64 0)))⟩])
  .ret))))) }

def mf_breach_Notice : MFunc :=
  { n := 20, np := 2, res := [.cell 4 2 true, .t 5], body :=
  (.seq (.ops [
    ⟨(some 2), none, .box 5002 (.t 0)⟩,
    ⟨(some 4), none, .alloc 5004 [(.dat (.int .i64 0)), (.dat (.int .i64 0))]⟩,
    ⟨(some 5), none, .mv (.c (.dat (.int .i64 0)))⟩])
  (.seq (.seq (.ops [
    ⟨(some 7), none, .load 2 true (.t 2)⟩,
    ⟨(some 8), none, .mv (.t 1)⟩,
    ⟨(some 9), none, .call id_breach_known [(.t 7), (.t 8)]⟩,
    ⟨(some 6), none, .mv (.t 9)⟩])
  (.seq (.ops [
    ⟨(some 10), none, .mv (.t 6)⟩,
    ⟨(some 11), none, .bin .neq (.t 10) (.c (.dat (.int .i64 0)))⟩])
  (.cond (.t 11)
   (.seq (.ops [
     ⟨(some 12), none, .load 2 true (.t 2)⟩,
     ⟨(some 13), none, .mv (.t 6)⟩,
     ⟨none, none, .store 2 (.t 4) (.t 12)⟩,
     ⟨(some 5), none, .mv (.t 13)⟩])
   .ret)
   .skip)))
  (.seq (.seq (.ops [
    ⟨(some 14), none, .fad 0 (.t 2)⟩,
    ⟨(some 15), none, .load 1 false (.t 14)⟩,
    ⟨(some 16), none, .bin .neq (.t 15) (.c (.dat (.int .i64 2)))⟩])
  (.cond (.t 16)
   (.seq (.ops [
     ⟨(some 17), none, .load 2 true (.t 2)⟩,
     ⟨none, none, .store 2 (.t 4) (.t 17)⟩,
     ⟨(some 5), none, .mv (.c (.dat (.int .i64 7)))⟩])
   .ret)
   .skip))
  (.seq (.ops [
    ⟨(some 18), none, .mv (.t 1)⟩,
    ⟨(some 19), none, .build [(.dat (.int .i64 0)), (.dat (.int .i64 0))] [(0, 1, (.c (.dat (.int .i64 3)))), (1, 1, (.t 18))]⟩,
    ⟨none, none, .store 2 (.t 4) (.t 19)⟩,
    ⟨(some 5), none, .mv (.c (.dat (.int .i64 0)))⟩])
  .ret)))) }

def mf_ref27_Notice : MFunc :=
  { n := 29, np := 2, res := [.cell 4 2 true, .t 5], body :=
  (.seq (.ops [
    ⟨(some 2), none, .box 13002 (.t 0)⟩,
    ⟨(some 4), none, .alloc 13004 [(.dat (.int .i64 0)), (.dat (.int .i64 0))]⟩,
    ⟨(some 5), none, .mv (.c (.dat (.int .i64 0)))⟩])
  (.seq (.seq (.ops [
    ⟨(some 6), none, .load 2 true (.t 2)⟩,
    ⟨(some 7), none, .call id_ref27_Right [(.t 6)]⟩,
    ⟨(some 8), none, .un .not (.t 7)⟩,
    ⟨(some 9), none, .mv (.t 8)⟩,
    ⟨(some 10), (some (9, false)), .mv (.t 1)⟩,
    ⟨(some 11), (some (9, false)), .bin .lss (.t 10) (.c (.dat (.int .i64 0)))⟩,
    ⟨(some 12), none, .pick (.t 9) (.c (.dat (.bool true))) (.t 11)⟩,
    ⟨(some 13), none, .mv (.t 12)⟩,
    ⟨(some 14), (some (13, false)), .mv (.t 1)⟩,
    ⟨(some 15), (some (13, false)), .bin .gtr (.t 14) (.c (.dat (.int .i64 200000)))⟩,
    ⟨(some 16), none, .pick (.t 13) (.c (.dat (.bool true))) (.t 15)⟩])
  (.cond (.t 16)
   (.seq (.ops [
     ⟨(some 17), none, .load 2 true (.t 2)⟩,
     ⟨none, none, .store 2 (.t 4) (.t 17)⟩,
     ⟨(some 5), none, .mv (.c (.dat (.int .i64 1)))⟩])
   .ret)
   .skip))
  (.seq (.seq (.ops [
    ⟨(some 18), none, .mv (.t 1)⟩,
    ⟨(some 19), none, .fad 1 (.t 2)⟩,
    ⟨(some 20), none, .load 1 false (.t 19)⟩,
    ⟨(some 21), none, .bin .lss (.t 18) (.t 20)⟩])
  (.cond (.t 21)
   (.seq (.ops [
     ⟨(some 22), none, .load 2 true (.t 2)⟩,
     ⟨none, none, .store 2 (.t 4) (.t 22)⟩,
     ⟨(some 5), none, .mv (.c (.dat (.int .i64 20)))⟩])
   .ret)
   .skip))
  (.seq (.seq (.ops [
    ⟨(some 23), none, .fad 0 (.t 2)⟩,
    ⟨(some 24), none, .load 1 false (.t 23)⟩,
    ⟨(some 25), none, .bin .neq (.t 24) (.c (.dat (.int .i64 2)))⟩])
  (.cond (.t 25)
   (.seq (.ops [
     ⟨(some 26), none, .load 2 true (.t 2)⟩,
     ⟨none, none, .store 2 (.t 4) (.t 26)⟩,
     ⟨(some 5), none, .mv (.c (.dat (.int .i64 7)))⟩])
   .ret)
   .skip))
  (.seq (.ops [
    ⟨(some 27), none, .mv (.t 1)⟩,
    ⟨(some 28), none, .build [(.dat (.int .i64 0)), (.dat (.int .i64 0))] [(0, 1, (.c (.dat (.int .i64 3)))), (1, 1, (.t 27))]⟩,
    ⟨none, none, .store 2 (.t 4) (.t 28)⟩,
    ⟨(some 5), none, .mv (.c (.dat (.int .i64 0)))⟩])
  .ret))))) }

def mf_breach_Waive : MFunc :=
  { n := 24, np := 2, res := [.cell 4 2 true, .t 5], body :=
  (.seq (.ops [
    ⟨(some 2), none, .box 6002 (.t 0)⟩,
    ⟨(some 4), none, .alloc 6004 [(.dat (.int .i64 0)), (.dat (.int .i64 0))]⟩,
    ⟨(some 5), none, .mv (.c (.dat (.int .i64 0)))⟩])
  (.seq (.seq (.ops [
    ⟨(some 7), none, .load 2 true (.t 2)⟩,
    ⟨(some 8), none, .mv (.t 1)⟩,
    ⟨(some 9), none, .call id_breach_known [(.t 7), (.t 8)]⟩,
    ⟨(some 6), none, .mv (.t 9)⟩])
  (.seq (.ops [
    ⟨(some 10), none, .mv (.t 6)⟩,
    ⟨(some 11), none, .bin .neq (.t 10) (.c (.dat (.int .i64 0)))⟩])
  (.cond (.t 11)
   (.seq (.ops [
     ⟨(some 12), none, .load 2 true (.t 2)⟩,
     ⟨(some 13), none, .mv (.t 6)⟩,
     ⟨none, none, .store 2 (.t 4) (.t 12)⟩,
     ⟨(some 5), none, .mv (.t 13)⟩])
   .ret)
   .skip)))
  (.seq (.seq (.ops [
    ⟨(some 14), none, .fad 0 (.t 2)⟩,
    ⟨(some 15), none, .load 1 false (.t 14)⟩,
    ⟨(some 16), none, .bin .neq (.t 15) (.c (.dat (.int .i64 1)))⟩,
    ⟨(some 17), none, .mv (.t 16)⟩,
    ⟨(some 18), (some (17, true)), .fad 0 (.t 2)⟩,
    ⟨(some 19), (some (17, true)), .load 1 false (.t 18)⟩,
    ⟨(some 20), (some (17, true)), .bin .neq (.t 19) (.c (.dat (.int .i64 2)))⟩,
    ⟨(some 21), none, .pick (.t 17) (.t 20) (.c (.dat (.bool false)))⟩])
  (.cond (.t 21)
   (.seq (.ops [
     ⟨(some 22), none, .load 2 true (.t 2)⟩,
     ⟨none, none, .store 2 (.t 4) (.t 22)⟩,
     ⟨(some 5), none, .mv (.c (.dat (.int .i64 7)))⟩])
   .ret)
   .skip))
  (.seq (.ops [
    ⟨(some 23), none, .build [(.dat (.int .i64 0)), (.dat (.int .i64 0))] []⟩,
    ⟨none, none, .store 2 (.t 4) (.t 23)⟩,
    ⟨(some 5), none, .mv (.c (.dat (.int .i64 0)))⟩])
  .ret)))) }

def mf_ref27_Waive : MFunc :=
  { n := 33, np := 2, res := [.cell 4 2 true, .t 5], body :=
  (.seq (.ops [
    ⟨(some 2), none, .box 14002 (.t 0)⟩,
    ⟨(some 4), none, .alloc 14004 [(.dat (.int .i64 0)), (.dat (.int .i64 0))]⟩,
    ⟨(some 5), none, .mv (.c (.dat (.int .i64 0)))⟩])
  (.seq (.seq (.ops [
    ⟨(some 6), none, .load 2 true (.t 2)⟩,
    ⟨(some 7), none, .call id_ref27_Right [(.t 6)]⟩,
    ⟨(some 8), none, .un .not (.t 7)⟩,
    ⟨(some 9), none, .mv (.t 8)⟩,
    ⟨(some 10), (some (9, false)), .mv (.t 1)⟩,
    ⟨(some 11), (some (9, false)), .bin .lss (.t 10) (.c (.dat (.int .i64 0)))⟩,
    ⟨(some 12), none, .pick (.t 9) (.c (.dat (.bool true))) (.t 11)⟩,
    ⟨(some 13), none, .mv (.t 12)⟩,
    ⟨(some 14), (some (13, false)), .mv (.t 1)⟩,
    ⟨(some 15), (some (13, false)), .bin .gtr (.t 14) (.c (.dat (.int .i64 200000)))⟩,
    ⟨(some 16), none, .pick (.t 13) (.c (.dat (.bool true))) (.t 15)⟩])
  (.cond (.t 16)
   (.seq (.ops [
     ⟨(some 17), none, .load 2 true (.t 2)⟩,
     ⟨none, none, .store 2 (.t 4) (.t 17)⟩,
     ⟨(some 5), none, .mv (.c (.dat (.int .i64 1)))⟩])
   .ret)
   .skip))
  (.seq (.seq (.ops [
    ⟨(some 18), none, .mv (.t 1)⟩,
    ⟨(some 19), none, .fad 1 (.t 2)⟩,
    ⟨(some 20), none, .load 1 false (.t 19)⟩,
    ⟨(some 21), none, .bin .lss (.t 18) (.t 20)⟩])
  (.cond (.t 21)
   (.seq (.ops [
     ⟨(some 22), none, .load 2 true (.t 2)⟩,
     ⟨none, none, .store 2 (.t 4) (.t 22)⟩,
     ⟨(some 5), none, .mv (.c (.dat (.int .i64 20)))⟩])
   .ret)
   .skip))
  (.seq (.seq (.ops [
    ⟨(some 23), none, .fad 0 (.t 2)⟩,
    ⟨(some 24), none, .load 1 false (.t 23)⟩,
    ⟨(some 25), none, .bin .eql (.t 24) (.c (.dat (.int .i64 0)))⟩,
    ⟨(some 26), none, .mv (.t 25)⟩,
    ⟨(some 27), (some (26, false)), .fad 0 (.t 2)⟩,
    ⟨(some 28), (some (26, false)), .load 1 false (.t 27)⟩,
    ⟨(some 29), (some (26, false)), .bin .eql (.t 28) (.c (.dat (.int .i64 3)))⟩,
    ⟨(some 30), none, .pick (.t 26) (.c (.dat (.bool true))) (.t 29)⟩])
  (.cond (.t 30)
   (.seq (.ops [
     ⟨(some 31), none, .load 2 true (.t 2)⟩,
     ⟨none, none, .store 2 (.t 4) (.t 31)⟩,
     ⟨(some 5), none, .mv (.c (.dat (.int .i64 7)))⟩])
   .ret)
   .skip))
  (.seq (.ops [
    ⟨(some 32), none, .build [(.dat (.int .i64 0)), (.dat (.int .i64 0))] []⟩,
    ⟨none, none, .store 2 (.t 4) (.t 32)⟩,
    ⟨(some 5), none, .mv (.c (.dat (.int .i64 0)))⟩])
  .ret))))) }

def mf_breach_Right : MFunc :=
  { n := 26, np := 1, res := [.t 2], body :=
  (.seq (.ops [
    ⟨(some 1), none, .box 2001 (.t 0)⟩,
    ⟨(some 2), none, .mv (.c (.dat (.bool false)))⟩])
  (.seq (.ops [
    ⟨(some 3), none, .fad 0 (.t 1)⟩,
    ⟨(some 4), none, .load 1 false (.t 3)⟩,
    ⟨(some 5), none, .bin .geq (.t 4) (.c (.dat (.int .i64 0)))⟩,
    ⟨(some 6), none, .mv (.t 5)⟩,
    ⟨(some 7), (some (6, true)), .fad 0 (.t 1)⟩,
    ⟨(some 8), (some (6, true)), .load 1 false (.t 7)⟩,
    ⟨(some 9), (some (6, true)), .bin .lss (.t 8) (.c (.dat (.int .i64 4)))⟩,
    ⟨(some 10), none, .pick (.t 6) (.t 9) (.c (.dat (.bool false)))⟩,
    ⟨(some 11), none, .mv (.t 10)⟩,
    ⟨(some 12), (some (11, true)), .fad 1 (.t 1)⟩,
    ⟨(some 13), (some (11, true)), .load 1 false (.t 12)⟩,
    ⟨(some 14), (some (11, true)), .call id_breach_day [(.t 13)]⟩,
    ⟨(some 15), none, .pick (.t 11) (.t 14) (.c (.dat (.bool false)))⟩,
    ⟨(some 16), none, .mv (.t 15)⟩,
    ⟨(some 17), (some (16, true)), .fad 0 (.t 1)⟩,
    ⟨(some 18), (some (16, true)), .load 1 false (.t 17)⟩,
    ⟨(some 19), (some (16, true)), .bin .neq (.t 18) (.c (.dat (.int .i64 0)))⟩,
    ⟨(some 20), (some (16, true)), .mv (.t 19)⟩,
    ⟨(some 21), (some (20, false)), .fad 1 (.t 1)⟩,
    ⟨(some 22), (some (20, false)), .load 1 false (.t 21)⟩,
    ⟨(some 23), (some (20, false)), .bin .eql (.t 22) (.c (.dat (.int .i64 0)))⟩,
    ⟨(some 24), (some (16, true)), .pick (.t 20) (.c (.dat (.bool true))) (.t 23)⟩,
    ⟨(some 25), none, .pick (.t 16) (.t 24) (.c (.dat (.bool false)))⟩,
    ⟨(some 2), none, .mv (.t 25)⟩])
  .ret)) }

def mf_ref27_Right : MFunc :=
  { n := 27, np := 1, res := [.t 2], body :=
  (.seq (.ops [
    ⟨(some 1), none, .box 12001 (.t 0)⟩,
    ⟨(some 2), none, .mv (.c (.dat (.bool false)))⟩])
  (.seq (.seq (.ops [
    ⟨(some 3), none, .fad 0 (.t 1)⟩,
    ⟨(some 4), none, .load 1 false (.t 3)⟩,
    ⟨(some 5), none, .bin .eql (.t 4) (.c (.dat (.int .i64 0)))⟩])
  (.cond (.t 5)
   (.seq (.ops [
     ⟨(some 6), none, .fad 1 (.t 1)⟩,
     ⟨(some 7), none, .load 1 false (.t 6)⟩,
     ⟨(some 8), none, .bin .eql (.t 7) (.c (.dat (.int .i64 0)))⟩,
     ⟨(some 2), none, .mv (.t 8)⟩])
   .ret)
   .skip))
  (.seq (.ops [
    ⟨(some 9), none, .fad 0 (.t 1)⟩,
    ⟨(some 10), none, .load 1 false (.t 9)⟩,
    ⟨(some 11), none, .bin .gtr (.t 10) (.c (.dat (.int .i64 0)))⟩,
    ⟨(some 12), none, .mv (.t 11)⟩,
    ⟨(some 13), (some (12, true)), .fad 0 (.t 1)⟩,
    ⟨(some 14), (some (12, true)), .load 1 false (.t 13)⟩,
    ⟨(some 15), (some (12, true)), .bin .lss (.t 14) (.c (.dat (.int .i64 4)))⟩,
    ⟨(some 16), none, .pick (.t 12) (.t 15) (.c (.dat (.bool false)))⟩,
    ⟨(some 17), none, .mv (.t 16)⟩,
    ⟨(some 18), (some (17, true)), .fad 1 (.t 1)⟩,
    ⟨(some 19), (some (17, true)), .load 1 false (.t 18)⟩,
    ⟨(some 20), (some (17, true)), .bin .geq (.t 19) (.c (.dat (.int .i64 0)))⟩,
    ⟨(some 21), none, .pick (.t 17) (.t 20) (.c (.dat (.bool false)))⟩,
    ⟨(some 22), none, .mv (.t 21)⟩,
    ⟨(some 23), (some (22, true)), .fad 1 (.t 1)⟩,
    ⟨(some 24), (some (22, true)), .load 1 false (.t 23)⟩,
    ⟨(some 25), (some (22, true)), .bin .leq (.t 24) (.c (.dat (.int .i64 200000)))⟩,
    ⟨(some 26), none, .pick (.t 22) (.t 25) (.c (.dat (.bool false)))⟩,
    ⟨(some 2), none, .mv (.t 26)⟩])
  .ret))) }

def mf_breach_Worst : MFunc :=
  { n := 39, np := 1, res := [.cell 2 2 true], body :=
  (.seq (.ops [
    ⟨(some 2), none, .alloc 7002 [(.dat (.int .i64 0)), (.dat (.int .i64 0))]⟩])
  (.seq (.ops [
    ⟨(some 6), none, .build [(.dat (.int .i64 0)), (.dat (.int .i64 0))] []⟩,
    ⟨(some 3), none, .alloc 7003 [(.dat (.int .i64 0)), (.dat (.int .i64 0))]⟩,
    ⟨none, none, .store 2 (.t 3) (.t 6)⟩])
  (.seq (.seq (.ops [
    ⟨(some 7), none, .mv (.t 0)⟩,
    ⟨(some 8), none, .len (.t 7)⟩,
    ⟨(some 9), none, .mv (.c (.dat (.int .i64 0)))⟩])
  (.block 0
   (.loop 
    (.seq (.ops [
      ⟨(some 10), none, .bin .lss (.t 9) (.t 8)⟩])
    (.seq (.cond (.t 10)
     .skip
     (.exit 0))
    (.seq (.block 1
     (.seq (.ops [
       ⟨(some 11), none, .iad 2 (.t 7) (.t 9)⟩,
       ⟨(some 12), none, .load 2 true (.t 11)⟩,
       ⟨(some 5), none, .alloc 7005 [(.dat (.int .i64 0)), (.dat (.int .i64 0))]⟩,
       ⟨none, none, .store 2 (.t 5) (.t 12)⟩])
     (.seq (.seq (.ops [
       ⟨(some 13), none, .load 2 true (.t 5)⟩,
       ⟨(some 14), none, .call id_breach_Right [(.t 13)]⟩,
       ⟨(some 15), none, .un .not (.t 14)⟩])
     (.cond (.t 15)
      (.seq (.ops [
        ⟨(some 16), none, .build [(.dat (.int .i64 0)), (.dat (.int .i64 0))] []⟩,
        ⟨none, none, .store 2 (.t 2) (.t 16)⟩])
      .ret)
      .skip))
     (.seq (.ops [
       ⟨(some 17), none, .fad 0 (.t 5)⟩,
       ⟨(some 18), none, .load 1 false (.t 17)⟩,
       ⟨(some 19), none, .fad 0 (.t 3)⟩,
       ⟨(some 20), none, .load 1 false (.t 19)⟩,
       ⟨(some 21), none, .bin .gtr (.t 18) (.t 20)⟩,
       ⟨(some 22), none, .mv (.t 21)⟩,
       ⟨(some 23), (some (22, false)), .fad 0 (.t 5)⟩,
       ⟨(some 24), (some (22, false)), .load 1 false (.t 23)⟩,
       ⟨(some 25), (some (22, false)), .fad 0 (.t 3)⟩,
       ⟨(some 26), (some (22, false)), .load 1 false (.t 25)⟩,
       ⟨(some 27), (some (22, false)), .bin .eql (.t 24) (.t 26)⟩,
       ⟨(some 28), (some (22, false)), .mv (.t 27)⟩,
       ⟨(some 29), (some (28, true)), .fad 1 (.t 5)⟩,
       ⟨(some 30), (some (28, true)), .load 1 false (.t 29)⟩,
       ⟨(some 31), (some (28, true)), .fad 1 (.t 3)⟩,
       ⟨(some 32), (some (28, true)), .load 1 false (.t 31)⟩,
       ⟨(some 33), (some (28, true)), .bin .lss (.t 30) (.t 32)⟩,
       ⟨(some 34), (some (22, false)), .pick (.t 28) (.t 33) (.c (.dat (.bool false)))⟩,
       ⟨(some 35), none, .pick (.t 22) (.c (.dat (.bool true))) (.t 34)⟩])
     (.cond (.t 35)
      (.ops [
        ⟨(some 36), none, .load 2 true (.t 5)⟩,
        ⟨none, none, .store 2 (.t 3) (.t 36)⟩])
      .skip)))))
    (.ops [
      ⟨(some 37), none, .bin .add (.t 9) (.c (.dat (.int .i64 1)))⟩,
      ⟨(some 9), none, .mv (.t 37)⟩])))))))
  (.seq (.ops [
    ⟨(some 38), none, .load 2 true (.t 3)⟩,
    ⟨none, none, .store 2 (.t 2) (.t 38)⟩])
  .ret)))) }

def mf_ref27_Worst : MFunc :=
  { n := 61, np := 1, res := [.cell 2 2 true], body :=
  (.seq (.ops [
    ⟨(some 2), none, .alloc 15002 [(.dat (.int .i64 0)), (.dat (.int .i64 0))]⟩])
  (.seq (.seq (.ops [
    ⟨(some 3), none, .mv (.c (.dat (.int .i64 0)))⟩])
  (.block 0
   (.loop 
    (.seq (.seq (.ops [
      ⟨(some 7), none, .mv (.t 3)⟩,
      ⟨(some 8), none, .mv (.t 0)⟩,
      ⟨(some 9), none, .len (.t 8)⟩,
      ⟨(some 10), none, .bin .lss (.t 7) (.t 9)⟩])
    (.cond (.t 10)
     .skip
     (.exit 0)))
    (.seq (.block 1
     (.seq (.ops [
       ⟨(some 13), none, .mv (.t 0)⟩,
       ⟨(some 14), none, .mv (.t 3)⟩,
       ⟨(some 15), none, .iad 2 (.t 13) (.t 14)⟩,
       ⟨(some 16), none, .load 2 true (.t 15)⟩,
       ⟨(some 17), none, .call id_ref27_Right [(.t 16)]⟩,
       ⟨(some 18), none, .un .not (.t 17)⟩])
     (.cond (.t 18)
      (.seq (.ops [
        ⟨(some 19), none, .build [(.dat (.int .i64 0)), (.dat (.int .i64 0))] []⟩,
        ⟨none, none, .store 2 (.t 2) (.t 19)⟩])
      .ret)
      .skip)))
    (.ops [
      ⟨(some 11), none, .mv (.t 3)⟩,
      ⟨(some 12), none, .bin .add (.t 11) (.c (.dat (.int .i64 1)))⟩,
      ⟨(some 3), none, .mv (.t 12)⟩]))))))
  (.seq (.seq (.ops [
    ⟨(some 4), none, .mv (.c (.dat (.int .i64 3)))⟩])
  (.block 2
   (.loop 
    (.seq (.seq (.ops [
      ⟨(some 20), none, .mv (.t 4)⟩,
      ⟨(some 21), none, .bin .gtr (.t 20) (.c (.dat (.int .i64 0)))⟩])
    (.cond (.t 21)
     .skip
     (.exit 2)))
    (.seq (.block 3
     (.seq (.ops [
       ⟨(some 5), none, .mv (.c (.dat (.int .i64 (-1))))⟩])
     (.seq (.seq (.ops [
       ⟨(some 6), none, .mv (.c (.dat (.int .i64 0)))⟩])
     (.block 4
      (.loop 
       (.seq (.seq (.ops [
         ⟨(some 24), none, .mv (.t 6)⟩,
         ⟨(some 25), none, .mv (.t 0)⟩,
         ⟨(some 26), none, .len (.t 25)⟩,
         ⟨(some 27), none, .bin .lss (.t 24) (.t 26)⟩])
       (.cond (.t 27)
        .skip
        (.exit 4)))
       (.seq (.block 5
        (.seq (.ops [
          ⟨(some 30), none, .mv (.t 0)⟩,
          ⟨(some 31), none, .mv (.t 6)⟩,
          ⟨(some 32), none, .iad 2 (.t 30) (.t 31)⟩,
          ⟨(some 33), none, .fad 0 (.t 32)⟩,
          ⟨(some 34), none, .load 1 false (.t 33)⟩,
          ⟨(some 35), none, .mv (.t 4)⟩,
          ⟨(some 36), none, .bin .eql (.t 34) (.t 35)⟩,
          ⟨(some 37), none, .mv (.t 36)⟩,
          ⟨(some 38), (some (37, true)), .mv (.t 5)⟩,
          ⟨(some 39), (some (37, true)), .bin .lss (.t 38) (.c (.dat (.int .i64 0)))⟩,
          ⟨(some 40), (some (37, true)), .mv (.t 39)⟩,
          ⟨(some 41), (some (40, false)), .mv (.t 0)⟩,
          ⟨(some 42), (some (40, false)), .mv (.t 6)⟩,
          ⟨(some 43), (some (40, false)), .iad 2 (.t 41) (.t 42)⟩,
          ⟨(some 44), (some (40, false)), .fad 1 (.t 43)⟩,
          ⟨(some 45), (some (40, false)), .load 1 false (.t 44)⟩,
          ⟨(some 46), (some (40, false)), .mv (.t 5)⟩,
          ⟨(some 47), (some (40, false)), .bin .lss (.t 45) (.t 46)⟩,
          ⟨(some 48), (some (37, true)), .pick (.t 40) (.c (.dat (.bool true))) (.t 47)⟩,
          ⟨(some 49), none, .pick (.t 37) (.t 48) (.c (.dat (.bool false)))⟩])
        (.cond (.t 49)
         (.ops [
           ⟨(some 50), none, .mv (.t 0)⟩,
           ⟨(some 51), none, .mv (.t 6)⟩,
           ⟨(some 52), none, .iad 2 (.t 50) (.t 51)⟩,
           ⟨(some 53), none, .fad 1 (.t 52)⟩,
           ⟨(some 54), none, .load 1 false (.t 53)⟩,
           ⟨(some 5), none, .mv (.t 54)⟩])
         .skip)))
       (.ops [
         ⟨(some 28), none, .mv (.t 6)⟩,
         ⟨(some 29), none, .bin .add (.t 28) (.c (.dat (.int .i64 1)))⟩,
         ⟨(some 6), none, .mv (.t 29)⟩]))))))
     (.seq (.ops [
       ⟨(some 55), none, .mv (.t 5)⟩,
       ⟨(some 56), none, .bin .geq (.t 55) (.c (.dat (.int .i64 0)))⟩])
     (.cond (.t 56)
      (.seq (.ops [
        ⟨(some 57), none, .mv (.t 4)⟩,
        ⟨(some 58), none, .mv (.t 5)⟩,
        ⟨(some 59), none, .build [(.dat (.int .i64 0)), (.dat (.int .i64 0))] [(0, 1, (.t 57)), (1, 1, (.t 58))]⟩,
        ⟨none, none, .store 2 (.t 2) (.t 59)⟩])
      .ret)
      .skip)))))
    (.ops [
      ⟨(some 22), none, .mv (.t 4)⟩,
      ⟨(some 23), none, .bin .sub (.t 22) (.c (.dat (.int .i64 1)))⟩,
      ⟨(some 4), none, .mv (.t 23)⟩]))))))
  (.seq (.ops [
    ⟨(some 60), none, .build [(.dat (.int .i64 0)), (.dat (.int .i64 0))] []⟩,
    ⟨none, none, .store 2 (.t 2) (.t 60)⟩])
  .ret)))) }

def mf_law27_play : MFunc :=
  { n := 43, np := 3, res := [.t 6, .t 7], body :=
  (.seq (.ops [
    ⟨(some 6), none, .mv (.c .nil)⟩,
    ⟨(some 7), none, .mv (.c (.dat (.bool false)))⟩])
  (.seq (.ops [
    ⟨(some 13), none, .build [(.dat (.int .i64 0)), (.dat (.int .i64 0))] []⟩,
    ⟨(some 8), none, .alloc 22008 [(.dat (.int .i64 0)), (.dat (.int .i64 0))]⟩,
    ⟨none, none, .store 2 (.t 8) (.t 13)⟩])
  (.seq (.ops [
    ⟨(some 9), none, .mv (.c .nil)⟩])
  (.seq (.seq (.ops [
    ⟨(some 10), none, .mv (.c (.dat (.int .i64 0)))⟩])
  (.block 0
   (.ghost (.adopt 9 22040 2) (.loop 
    (.seq (.seq (.ops [
      ⟨(some 14), none, .mv (.t 10)⟩,
      ⟨(some 15), none, .mv (.t 0)⟩,
      ⟨(some 16), none, .len (.t 15)⟩,
      ⟨(some 17), none, .bin .lss (.t 14) (.t 16)⟩])
    (.cond (.t 17)
     .skip
     (.exit 0)))
    (.seq (.block 1
     (.seq (.opsD [
       ⟨(some 21), none, .load 2 true (.t 8)⟩,
       ⟨(some 22), none, .mv (.t 0)⟩,
       ⟨(some 23), none, .mv (.t 10)⟩,
       ⟨(some 24), none, .iad 1 (.t 22) (.t 23)⟩,
       ⟨(some 25), none, .load 1 false (.t 24)⟩,
       ⟨(some 26), none, .bin .rem (.t 25) (.c (.dat (.int .u8 3)))⟩,
       ⟨(some 27), none, .conv .i64 (.t 26)⟩,
       ⟨(some 28), none, .mv (.t 1)⟩,
       ⟨(some 29), none, .mv (.t 2)⟩,
       ⟨(some 30), none, .mv (.t 10)⟩,
       ⟨(some 31), none, .bin .add (.t 29) (.t 30)⟩,
       ⟨(some 32), none, .call id_breach_Next [(.t 21), (.t 27), (.t 28), (.t 31)]⟩,
       ⟨(some 20), none, .mv (.t 32)⟩,
       ⟨(some 33), none, .ext 0 (.t 20)⟩,
       ⟨(some 34), none, .ext 1 (.t 20)⟩,
       ⟨(some 11), none, .alloc 22011 [(.dat (.int .i64 0)), (.dat (.int .i64 0))]⟩,
       ⟨none, none, .store 2 (.t 11) (.t 33)⟩,
       ⟨(some 12), none, .mv (.t 34)⟩] [[], [], [], [], [], [], [], [], [], [], [], [], [], [], [], [0, 4], [], []])
     (.seq (.seq (.ops [
       ⟨(some 35), none, .mv (.t 12)⟩,
       ⟨(some 36), none, .bin .neq (.t 35) (.c (.dat (.int .i64 0)))⟩])
     (.cond (.t 36)
      (.seq (.ops [
        ⟨(some 6), none, .mv (.c .nil)⟩,
        ⟨(some 7), none, .mv (.c (.dat (.bool false)))⟩])
      .ret)
      .skip))
     (.seq (.ops [
       ⟨(some 37), none, .mv (.t 9)⟩,
       ⟨(some 38), none, .load 2 true (.t 11)⟩,
       ⟨(some 39), none, .bsl 22039 false [(.dat (.int .i64 0)), (.dat (.int .i64 0))] 2 1 [(0, 2, (.t 38))]⟩,
       ⟨(some 40), none, .app 22040 [(.dat (.int .i64 0)), (.dat (.int .i64 0))] 16 (.t 37) (.t 39)⟩,
       ⟨(some 9), none, .mv (.t 40)⟩])
     (.ops [
       ⟨(some 41), none, .load 2 true (.t 11)⟩,
       ⟨none, none, .store 2 (.t 8) (.t 41)⟩])))))
    (.ops [
      ⟨(some 18), none, .mv (.t 10)⟩,
      ⟨(some 19), none, .bin .add (.t 18) (.c (.dat (.int .i64 1)))⟩,
      ⟨(some 10), none, .mv (.t 19)⟩])))))))
  (.seq (.ops [
    ⟨(some 42), none, .mv (.t 9)⟩,
    ⟨(some 6), none, .mv (.t 42)⟩,
    ⟨(some 7), none, .mv (.c (.dat (.bool true)))⟩])
  .ret))))) }

def mf_law27_expected : MFunc :=
  { n := 44, np := 2, res := [.t 4], body :=
  (.seq (.ops [
    ⟨(some 4), none, .mv (.c (.dat (.int .i64 0)))⟩])
  (.seq (.seq (.ops [
    ⟨(some 5), none, .mv (.c (.dat (.int .i64 0)))⟩])
  (.block 0
   (.loop 
    (.seq (.seq (.ops [
      ⟨(some 8), none, .mv (.t 5)⟩,
      ⟨(some 9), none, .mv (.t 1)⟩,
      ⟨(some 10), none, .bin .add (.t 8) (.t 9)⟩,
      ⟨(some 11), none, .mv (.t 0)⟩,
      ⟨(some 12), none, .len (.t 11)⟩,
      ⟨(some 13), none, .bin .lss (.t 10) (.t 12)⟩])
    (.cond (.t 13)
     .skip
     (.exit 0)))
    (.seq (.block 1
     (.seq (.ops [
       ⟨(some 16), none, .mv (.t 0)⟩,
       ⟨(some 17), none, .mv (.t 5)⟩,
       ⟨(some 18), none, .iad 1 (.t 16) (.t 17)⟩,
       ⟨(some 19), none, .load 1 false (.t 18)⟩,
       ⟨(some 20), none, .bin .rem (.t 19) (.c (.dat (.int .u8 3)))⟩,
       ⟨(some 21), none, .bin .eql (.t 20) (.c (.dat (.int .u8 0)))⟩,
       ⟨(some 6), none, .mv (.t 21)⟩])
     (.seq (.seq (.ops [
       ⟨(some 22), none, .mv (.t 5)⟩,
       ⟨(some 23), none, .bin .add (.t 22) (.c (.dat (.int .i64 1)))⟩,
       ⟨(some 7), none, .mv (.t 23)⟩])
     (.block 2
      (.loop 
       (.seq (.seq (.ops [
         ⟨(some 24), none, .mv (.t 7)⟩,
         ⟨(some 25), none, .mv (.t 5)⟩,
         ⟨(some 26), none, .mv (.t 1)⟩,
         ⟨(some 27), none, .bin .add (.t 25) (.t 26)⟩,
         ⟨(some 28), none, .bin .leq (.t 24) (.t 27)⟩])
       (.cond (.t 28)
        .skip
        (.exit 2)))
       (.seq (.block 3
        (.ops [
          ⟨(some 31), none, .mv (.t 6)⟩,
          ⟨(some 32), none, .mv (.t 31)⟩,
          ⟨(some 33), (some (32, true)), .mv (.t 0)⟩,
          ⟨(some 34), (some (32, true)), .mv (.t 7)⟩,
          ⟨(some 35), (some (32, true)), .iad 1 (.t 33) (.t 34)⟩,
          ⟨(some 36), (some (32, true)), .load 1 false (.t 35)⟩,
          ⟨(some 37), (some (32, true)), .bin .rem (.t 36) (.c (.dat (.int .u8 3)))⟩,
          ⟨(some 38), (some (32, true)), .bin .neq (.t 37) (.c (.dat (.int .u8 1)))⟩,
          ⟨(some 39), none, .pick (.t 32) (.t 38) (.c (.dat (.bool false)))⟩,
          ⟨(some 6), none, .mv (.t 39)⟩]))
       (.ops [
         ⟨(some 29), none, .mv (.t 7)⟩,
         ⟨(some 30), none, .bin .add (.t 29) (.c (.dat (.int .i64 1)))⟩,
         ⟨(some 7), none, .mv (.t 30)⟩]))))))
     (.seq (.ops [
       ⟨(some 40), none, .mv (.t 6)⟩])
     (.cond (.t 40)
      (.seq (.ops [
        ⟨(some 41), none, .mv (.t 5)⟩,
        ⟨(some 42), none, .mv (.t 1)⟩,
        ⟨(some 43), none, .bin .add (.t 41) (.t 42)⟩,
        ⟨(some 4), none, .mv (.t 43)⟩])
      .ret)
      .skip)))))
    (.ops [
      ⟨(some 14), none, .mv (.t 5)⟩,
      ⟨(some 15), none, .bin .add (.t 14) (.c (.dat (.int .i64 1)))⟩,
      ⟨(some 5), none, .mv (.t 15)⟩]))))))
  (.seq (.ops [
    ⟨(some 4), none, .mv (.c (.dat (.int .i64 (-1))))⟩])
  .ret))) }

def mf_law27_fallen : MFunc :=
  { n := 17, np := 1, res := [.t 2], body :=
  (.seq (.ops [
    ⟨(some 2), none, .mv (.c (.dat (.int .i64 0)))⟩])
  (.seq (.seq (.ops [
    ⟨(some 3), none, .mv (.c (.dat (.int .i64 0)))⟩])
  (.block 0
   (.loop 
    (.seq (.seq (.ops [
      ⟨(some 4), none, .mv (.t 3)⟩,
      ⟨(some 5), none, .mv (.t 0)⟩,
      ⟨(some 6), none, .len (.t 5)⟩,
      ⟨(some 7), none, .bin .lss (.t 4) (.t 6)⟩])
    (.cond (.t 7)
     .skip
     (.exit 0)))
    (.seq (.block 1
     (.seq (.ops [
       ⟨(some 10), none, .mv (.t 0)⟩,
       ⟨(some 11), none, .mv (.t 3)⟩,
       ⟨(some 12), none, .iad 2 (.t 10) (.t 11)⟩,
       ⟨(some 13), none, .fad 0 (.t 12)⟩,
       ⟨(some 14), none, .load 1 false (.t 13)⟩,
       ⟨(some 15), none, .bin .eql (.t 14) (.c (.dat (.int .i64 2)))⟩])
     (.cond (.t 15)
      (.seq (.ops [
        ⟨(some 16), none, .mv (.t 3)⟩,
        ⟨(some 2), none, .mv (.t 16)⟩])
      .ret)
      .skip)))
    (.ops [
      ⟨(some 8), none, .mv (.t 3)⟩,
      ⟨(some 9), none, .bin .add (.t 8) (.c (.dat (.int .i64 1)))⟩,
      ⟨(some 3), none, .mv (.t 9)⟩]))))))
  (.seq (.ops [
    ⟨(some 2), none, .mv (.c (.dat (.int .i64 (-1))))⟩])
  .ret))) }

def mf_law27_order : MFunc :=
  { n := 9, np := 1, res := [.t 2], body :=
  (.seq (.ops [
    ⟨(some 2), none, .mv (.c (.dat (.int .i64 0)))⟩])
  (.seq (.seq (.ops [
    ⟨(some 3), none, .mv (.t 0)⟩,
    ⟨(some 4), none, .bin .rem (.t 3) (.c (.dat (.int .u8 3)))⟩,
    ⟨(some 5), none, .bin .eql (.t 4) (.c (.dat (.int .u8 0)))⟩])
  (.cond (.t 5)
   (.seq (.ops [
     ⟨(some 2), none, .mv (.c (.dat (.int .i64 0)))⟩])
   .ret)
   .skip))
  (.seq (.seq (.ops [
    ⟨(some 6), none, .mv (.t 0)⟩,
    ⟨(some 7), none, .bin .rem (.t 6) (.c (.dat (.int .u8 3)))⟩,
    ⟨(some 8), none, .bin .eql (.t 7) (.c (.dat (.int .u8 2)))⟩])
  (.cond (.t 8)
   (.seq (.ops [
     ⟨(some 2), none, .mv (.c (.dat (.int .i64 1)))⟩])
   .ret)
   .skip))
  (.seq (.ops [
    ⟨(some 2), none, .mv (.c (.dat (.int .i64 2)))⟩])
  .ret)))) }

def mf_breach_day : MFunc :=
  { n := 9, np := 1, res := [.t 2], body :=
  (.seq (.ops [
    ⟨(some 2), none, .mv (.c (.dat (.bool false)))⟩])
  (.seq (.ops [
    ⟨(some 3), none, .mv (.t 0)⟩,
    ⟨(some 4), none, .bin .geq (.t 3) (.c (.dat (.int .i64 0)))⟩,
    ⟨(some 5), none, .mv (.t 4)⟩,
    ⟨(some 6), (some (5, true)), .mv (.t 0)⟩,
    ⟨(some 7), (some (5, true)), .bin .leq (.t 6) (.c (.dat (.int .i64 200000)))⟩,
    ⟨(some 8), none, .pick (.t 5) (.t 7) (.c (.dat (.bool false)))⟩,
    ⟨(some 2), none, .mv (.t 8)⟩])
  .ret)) }

def mf_breach_known : MFunc :=
  { n := 17, np := 2, res := [.t 4], body :=
  (.seq (.ops [
    ⟨(some 2), none, .box 4002 (.t 0)⟩,
    ⟨(some 4), none, .mv (.c (.dat (.int .i64 0)))⟩])
  (.seq (.seq (.ops [
    ⟨(some 5), none, .load 2 true (.t 2)⟩,
    ⟨(some 6), none, .call id_breach_Right [(.t 5)]⟩,
    ⟨(some 7), none, .un .not (.t 6)⟩,
    ⟨(some 8), none, .mv (.t 7)⟩,
    ⟨(some 9), (some (8, false)), .mv (.t 1)⟩,
    ⟨(some 10), (some (8, false)), .call id_breach_day [(.t 9)]⟩,
    ⟨(some 11), (some (8, false)), .un .not (.t 10)⟩,
    ⟨(some 12), none, .pick (.t 8) (.c (.dat (.bool true))) (.t 11)⟩])
  (.cond (.t 12)
   (.seq (.ops [
     ⟨(some 4), none, .mv (.c (.dat (.int .i64 1)))⟩])
   .ret)
   .skip))
  (.seq (.seq (.ops [
    ⟨(some 13), none, .mv (.t 1)⟩,
    ⟨(some 14), none, .fad 1 (.t 2)⟩,
    ⟨(some 15), none, .load 1 false (.t 14)⟩,
    ⟨(some 16), none, .bin .lss (.t 13) (.t 15)⟩])
  (.cond (.t 16)
   (.seq (.ops [
     ⟨(some 4), none, .mv (.c (.dat (.int .i64 20)))⟩])
   .ret)
   .skip))
  (.seq (.ops [
    ⟨(some 4), none, .mv (.c (.dat (.int .i64 0)))⟩])
  .ret)))) }

end Go.Mini
