/- The functions of the program, as the shadow machine runs them. -/
import Derived.Test.YtecncmmkghmojaaShT0
set_option linter.all false
namespace Go.Proofs.Ytecncmmkghmojaa.Sh
open Go
set_option maxRecDepth 100000
def sf84 : SFunc := ⟨5, [.tmp 2], .seq (.region 0 [ ⟨(some 1), none, .box 53 true (.tmp 0), none, 0, false, []⟩, ⟨(some 2), none, .mov (.const (.bool false)), none, 1, false, []⟩]) (.seq (.region 0 [ ⟨(some 3), none, .idxArr 2 1 (.tmp 1) (.const (.int .i64 0)), none, 0, false, []⟩, ⟨(some 4), none, .load none (.tmp 3), none, 1, false, []⟩, ⟨(some 5), none, .bin .lss (.tmp 4) (.const (.int .i64 (-1000))), none, 2, false, []⟩, ⟨(some 6), none, .mov (.tmp 5), none, 3, false, []⟩, ⟨(some 7), none, .idxArr 2 1 (.tmp 1) (.const (.int .i64 0)), some (6, false), 4, false, []⟩, ⟨(some 8), none, .load none (.tmp 7), some (6, false), 5, false, []⟩, ⟨(some 9), none, .bin .gtr (.tmp 8) (.const (.int .i64 1000)), some (6, false), 6, false, []⟩, ⟨(some 10), none, .pick (.tmp 6) (.const (.bool true)) (.tmp 9), none, 7, false, []⟩, ⟨(some 11), none, .mov (.tmp 10), none, 8, false, []⟩, ⟨(some 12), none, .idxArr 2 1 (.tmp 1) (.const (.int .i64 1)), some (11, false), 9, false, []⟩, ⟨(some 13), none, .load none (.tmp 12), some (11, false), 10, false, []⟩, ⟨(some 14), none, .bin .lss (.tmp 13) (.const (.int .i64 1)), some (11, false), 11, false, []⟩, ⟨(some 15), none, .pick (.tmp 11) (.const (.bool true)) (.tmp 14), none, 12, false, []⟩, ⟨(some 16), none, .mov (.tmp 15), none, 13, false, []⟩, ⟨(some 17), none, .idxArr 2 1 (.tmp 1) (.const (.int .i64 1)), some (16, false), 14, false, []⟩, ⟨(some 18), none, .load none (.tmp 17), some (16, false), 15, false, []⟩, ⟨(some 19), none, .bin .gtr (.tmp 18) (.const (.int .i64 100)), some (16, false), 16, false, []⟩, ⟨(some 20), none, .pick (.tmp 16) (.const (.bool true)) (.tmp 19), none, 17, false, []⟩, ⟨(some 2), none, .mov (.tmp 20), none, 18, false, []⟩]) (.ret))⟩
def sf73L0 : SCode := (.seq (.region 0 [ ⟨(some 14), none, .bin .lss (.tmp 13) (.tmp 12), none, 0, false, []⟩]) (.seq (.cond (.tmp 14) (.skip) (.exit 0)) (.seq (.block 1 (.seq (.region 0 [ ⟨(some 15), none, .idxSl 2 (.tmp 11) (.tmp 13), none, 0, false, []⟩, ⟨(some 16), none, .load (some 2) (.tmp 15), none, 1, false, []⟩, ⟨(some 8), none, .alloc 53 true [(.int .i64 0), (.int .i64 0)], none, 2, false, []⟩, ⟨none, none, .store 2 (.tmp 8) (.tmp 16), none, 3, false, []⟩]) (.seq (.region 0 [ ⟨(some 17), none, .mov (.tmp 5), none, 0, false, []⟩, ⟨(some 18), none, .idxArr 2 1 (.tmp 8) (.const (.int .i64 1)), none, 1, false, []⟩, ⟨(some 19), none, .load none (.tmp 18), none, 2, false, []⟩, ⟨(some 20), none, .idxArr 2 1 (.tmp 8) (.const (.int .i64 0)), none, 3, false, []⟩, ⟨(some 21), none, .load none (.tmp 20), none, 4, false, []⟩, ⟨(some 22), none, .bin .mul (.const (.int .i64 2)) (.tmp 21), none, 5, false, []⟩, ⟨(some 23), none, .idxArr 2 1 (.tmp 8) (.const (.int .i64 1)), none, 6, false, []⟩, ⟨(some 24), none, .load none (.tmp 23), none, 7, false, []⟩, ⟨(some 25), none, .bin .add (.tmp 22) (.tmp 24), none, 8, false, []⟩, ⟨(some 26), none, .bin .mul (.tmp 19) (.tmp 25), none, 9, false, []⟩, ⟨(some 27), none, .buildSlice 2 true [(.int .i64 0)] 1 [(0, 1, (.tmp 26))], none, 10, false, []⟩, ⟨(some 28), none, .append 2 true 1 8 (.tmp 17) (.tmp 27), none, 11, false, []⟩, ⟨(some 5), none, .mov (.tmp 28), none, 12, false, []⟩]) (.region 0 [ ⟨(some 29), none, .mov (.tmp 6), none, 0, false, []⟩, ⟨(some 30), none, .idxArr 2 1 (.tmp 8) (.const (.int .i64 1)), none, 1, false, []⟩, ⟨(some 31), none, .load none (.tmp 30), none, 2, false, []⟩, ⟨(some 32), none, .bin .mul (.const (.int .i64 2)) (.tmp 31), none, 3, false, []⟩, ⟨(some 33), none, .buildSlice 2 true [(.int .i64 0)] 1 [(0, 1, (.tmp 32))], none, 4, false, []⟩, ⟨(some 34), none, .append 2 true 1 8 (.tmp 29) (.tmp 33), none, 5, false, []⟩, ⟨(some 6), none, .mov (.tmp 34), none, 6, false, []⟩])))) (.region 0 [ ⟨(some 35), none, .bin .add (.tmp 13) (.const (.int .i64 1)), none, 0, false, []⟩, ⟨(some 13), none, .mov (.tmp 35), none, 1, false, []⟩]))))
def sf73 : SFunc := ⟨6, [.cell (some 2) 4], .seq (.region 0 [ ⟨(some 4), none, .alloc 82 true [(.int .i64 0), (.int .i64 0)], none, 0, false, []⟩]) (.seq (.region 0 [ ⟨(some 5), none, .mov (.const (.slice none 0 0)), none, 0, false, []⟩, ⟨(some 6), none, .mov (.const (.slice none 0 0)), none, 1, false, []⟩]) (.seq (.seq (.region 0 [ ⟨(some 9), none, .mov (.tmp 0), none, 0, false, []⟩, ⟨(some 10), none, .mov (.tmp 1), none, 1, false, []⟩, ⟨(some 11), none, .slice 53 2 (.tmp 9) (some (.tmp 10)) none none, none, 2, false, []⟩, ⟨(some 12), none, .len (.tmp 11), none, 3, false, []⟩, ⟨(some 13), none, .mov (.const (.int .i64 0)), none, 4, false, []⟩]) (.block 0 (.loop sf73L0))) (.seq (.region 0 [ ⟨(some 36), none, .mov (.tmp 5), none, 0, false, []⟩, ⟨(some 37), none, .call (.func 104) [(.tmp 36)], none, 1, false, []⟩, ⟨(some 38), none, .mov (.tmp 6), none, 2, false, []⟩, ⟨(some 39), none, .call (.func 104) [(.tmp 38)], none, 3, false, []⟩, ⟨(some 40), none, .build [(.int .i64 0), (.int .i64 0)] [(0, 1, (.tmp 37)), (1, 1, (.tmp 39))], none, 4, false, []⟩, ⟨(some 41), none, .call (.func 65) [(.tmp 40)], none, 5, false, []⟩, ⟨none, none, .store 2 (.tmp 4) (.tmp 41), none, 6, false, []⟩]) (.ret))))⟩
def sf104L0 : SCode := (.seq (.region 0 [ ⟨(some 9), none, .bin .lss (.tmp 8) (.tmp 7), none, 0, false, []⟩]) (.seq (.cond (.tmp 9) (.skip) (.exit 0)) (.seq (.block 1 (.seq (.region 0 [ ⟨(some 10), none, .idxSl 1 (.tmp 6) (.tmp 8), none, 0, false, []⟩, ⟨(some 11), none, .load none (.tmp 10), none, 1, false, []⟩, ⟨(some 5), none, .mov (.tmp 11), none, 2, false, []⟩]) (.region 0 [ ⟨(some 12), none, .mov (.tmp 3), none, 0, false, []⟩, ⟨(some 13), none, .mov (.tmp 5), none, 1, false, []⟩, ⟨(some 14), none, .bin .add (.tmp 12) (.tmp 13), none, 2, false, []⟩, ⟨(some 3), none, .mov (.tmp 14), none, 3, false, []⟩]))) (.region 0 [ ⟨(some 15), none, .bin .add (.tmp 8) (.const (.int .i64 1)), none, 0, false, []⟩, ⟨(some 8), none, .mov (.tmp 15), none, 1, false, []⟩]))))
def sf104 : SFunc := ⟨5, [.tmp 2], .seq (.region 0 [ ⟨(some 2), none, .mov (.const (.int .i64 0)), none, 0, false, []⟩]) (.seq (.region 0 [ ⟨(some 3), none, .mov (.const (.int .i64 0)), none, 0, false, []⟩]) (.seq (.seq (.region 0 [ ⟨(some 6), none, .mov (.tmp 0), none, 0, false, []⟩, ⟨(some 7), none, .len (.tmp 6), none, 1, false, []⟩, ⟨(some 8), none, .mov (.const (.int .i64 0)), none, 2, false, []⟩]) (.block 0 (.loop sf104L0))) (.seq (.region 0 [ ⟨(some 16), none, .mov (.tmp 3), none, 0, false, []⟩, ⟨(some 2), none, .mov (.tmp 16), none, 1, false, []⟩]) (.ret))))⟩
def sf24L0 : SCode := (.seq (.seq (.region 0 [ ⟨(some 16), none, .mov (.tmp 6), none, 0, false, []⟩, ⟨(some 17), none, .mov (.tmp 0), none, 1, false, []⟩, ⟨(some 18), none, .bin .leq (.tmp 16) (.tmp 17), none, 2, false, []⟩]) (.cond (.tmp 18) (.skip) (.exit 0))) (.seq (.block 1 (.seq (.seq (.region 0 [ ⟨(some 21), none, .load (some 2) (.tmp 5), none, 0, false, []⟩, ⟨(some 22), none, .load (some 2) (.tmp 4), none, 1, false, []⟩, ⟨(some 23), none, .eq (.agg [.int, .int]) false (.tmp 21) (.tmp 22), none, 2, false, []⟩]) (.cond (.tmp 23) (.seq (.region 0 [ ⟨(some 24), none, .build [(.int .i64 0), (.int .i64 0)] [(0, 1, (.const (.int .i64 1))), (1, 1, (.const (.int .i64 1)))], none, 0, false, []⟩, ⟨none, none, .store 2 (.tmp 5) (.tmp 24), none, 1, false, []⟩]) (.exit 1)) (.skip))) (.region 0 [ ⟨(some 25), none, .fieldAddr 0 (.tmp 5), none, 0, false, []⟩, ⟨(some 26), none, .load none (.tmp 25), none, 1, false, []⟩, ⟨(some 27), none, .mov (.tmp 6), none, 2, false, []⟩, ⟨(some 28), none, .bin .mul (.tmp 26) (.tmp 27), none, 3, false, []⟩, ⟨(some 29), none, .fieldAddr 1 (.tmp 5), none, 4, false, []⟩, ⟨(some 30), none, .load none (.tmp 29), none, 5, false, []⟩, ⟨(some 31), none, .bin .add (.tmp 28) (.tmp 30), none, 6, false, []⟩, ⟨(some 32), none, .fieldAddr 1 (.tmp 5), none, 7, false, []⟩, ⟨(some 33), none, .load none (.tmp 32), none, 8, false, []⟩, ⟨(some 34), none, .mov (.tmp 6), none, 9, false, []⟩, ⟨(some 35), none, .bin .mul (.tmp 33) (.tmp 34), none, 10, false, []⟩, ⟨(some 36), none, .build [(.int .i64 0), (.int .i64 0)] [(0, 1, (.tmp 31)), (1, 1, (.tmp 35))], none, 11, false, []⟩, ⟨(some 37), none, .call (.func 65) [(.tmp 36)], none, 12, false, []⟩, ⟨none, none, .store 2 (.tmp 5) (.tmp 37), none, 13, false, []⟩]))) (.region 0 [ ⟨(some 19), none, .mov (.tmp 6), none, 0, false, []⟩, ⟨(some 20), none, .bin .add (.tmp 19) (.const (.int .i64 1)), none, 1, false, []⟩, ⟨(some 6), none, .mov (.tmp 20), none, 2, false, []⟩])))
def sf24 : SFunc := ⟨6, [.cell (some 2) 2, .tmp 3], .seq (.region 0 [ ⟨(some 2), none, .alloc 34 true [(.int .i64 0), (.int .i64 0)], none, 0, false, []⟩, ⟨(some 3), none, .mov (.const (.int .i64 0)), none, 1, false, []⟩]) (.seq (.seq (.region 0 [ ⟨(some 7), none, .mov (.tmp 0), none, 0, false, []⟩, ⟨(some 8), none, .bin .lss (.tmp 7) (.const (.int .i64 1)), none, 1, false, []⟩, ⟨(some 9), none, .mov (.tmp 8), none, 2, false, []⟩, ⟨(some 10), none, .mov (.tmp 0), some (9, false), 3, false, []⟩, ⟨(some 11), none, .bin .gtr (.tmp 10) (.const (.int .i64 30)), some (9, false), 4, false, []⟩, ⟨(some 12), none, .pick (.tmp 9) (.const (.bool true)) (.tmp 11), none, 5, false, []⟩]) (.cond (.tmp 12) (.seq (.region 0 [ ⟨(some 13), none, .build [(.int .i64 0), (.int .i64 0)] [], none, 0, false, []⟩, ⟨none, none, .store 2 (.tmp 2) (.tmp 13), none, 1, false, []⟩, ⟨(some 3), none, .mov (.const (.int .i64 1)), none, 2, false, []⟩]) (.ret)) (.skip))) (.seq (.region 0 [ ⟨(some 14), none, .build [(.int .i64 0), (.int .i64 0)] [], none, 0, false, []⟩, ⟨(some 4), none, .alloc 82 true [(.int .i64 0), (.int .i64 0)], none, 1, false, []⟩, ⟨none, none, .store 2 (.tmp 4) (.tmp 14), none, 2, false, []⟩]) (.seq (.region 0 [ ⟨(some 15), none, .load (some 2) (.tmp 4), none, 0, false, []⟩, ⟨(some 5), none, .alloc 82 true [(.int .i64 0), (.int .i64 0)], none, 1, false, []⟩, ⟨none, none, .store 2 (.tmp 5) (.tmp 15), none, 2, false, []⟩]) (.seq (.seq (.region 0 [ ⟨(some 6), none, .mov (.const (.int .i64 1)), none, 0, false, []⟩]) (.block 0 (.loop sf24L0))) (.seq (.region 0 [ ⟨(some 38), none, .fieldAddr 0 (.tmp 5), none, 0, false, []⟩, ⟨(some 39), none, .load none (.tmp 38), none, 1, false, []⟩, ⟨(some 40), none, .fieldAddr 1 (.tmp 5), none, 2, false, []⟩, ⟨(some 41), none, .load none (.tmp 40), none, 3, false, []⟩, ⟨(some 42), none, .build [(.int .i64 0), (.int .i64 0)] [(0, 1, (.tmp 39)), (1, 1, (.tmp 41))], none, 4, false, []⟩, ⟨none, none, .store 2 (.tmp 2) (.tmp 42), none, 5, false, []⟩, ⟨(some 3), none, .mov (.const (.int .i64 0)), none, 6, false, []⟩]) (.ret))))))⟩

def FT : FuncId → Option SFunc
  | 12 => some sf12
  | 18 => some sf18
  | 59 => some sf59
  | 58 => some sf58
  | 61 => some sf61
  | 60 => some sf60
  | 97 => some sf97
  | 27 => some sf27
  | 69 => some sf69
  | 62 => some sf62
  | 85 => some sf85
  | 105 => some sf105
  | 98 => some sf98
  | 87 => some sf87
  | 99 => some sf99
  | 109 => some sf109
  | 80 => some sf80
  | 95 => some sf95
  | 100 => some sf100
  | 63 => some sf63
  | 101 => some sf101
  | 70 => some sf70
  | 71 => some sf71
  | 67 => some sf67
  | 68 => some sf68
  | 103 => some sf103
  | 82 => some sf82
  | 38 => some sf38
  | 76 => some sf76
  | 77 => some sf77
  | 20 => some sf20
  | 32 => some sf32
  | 55 => some sf55
  | 54 => some sf54
  | 57 => some sf57
  | 39 => some sf39
  | 29 => some sf29
  | 66 => some sf66
  | 72 => some sf72
  | 81 => some sf81
  | 65 => some sf65
  | 102 => some sf102
  | 33 => some sf33
  | 28 => some sf28
  | 23 => some sf23
  | 19 => some sf19
  | 37 => some sf37
  | 74 => some sf74
  | 75 => some sf75
  | 26 => some sf26
  | 35 => some sf35
  | 48 => some sf48
  | 84 => some sf84
  | 73 => some sf73
  | 104 => some sf104
  | 24 => some sf24
  | _ => none
end Go.Proofs.Ytecncmmkghmojaa.Sh

