/- The functions of the program, as the shadow machine runs them. -/
import Derived.Test.YtecncmmkghmojaaShT0
set_option linter.all false
namespace Go.Proofs.Ytecncmmkghmojaa.Sh
open Go
set_option maxRecDepth 100000
def sf39L0 : SCode := (.seq (.seq (.region 0 [ ⟨(some 11), none, .mov (.tmp 5), none, 0, false, []⟩, ⟨(some 12), none, .mov (.tmp 0), none, 1, false, []⟩, ⟨(some 13), none, .len (.tmp 12), none, 2, false, []⟩, ⟨(some 14), none, .bin .lss (.tmp 11) (.tmp 13), none, 3, false, []⟩]) (.cond (.tmp 14) (.skip) (.exit 0))) (.seq (.block 1 (.seq (.region 0 [ ⟨(some 17), none, .mov (.tmp 0), none, 0, false, []⟩, ⟨(some 18), none, .mov (.tmp 5), none, 1, false, []⟩, ⟨(some 19), none, .idxSl 1 (.tmp 17) (.tmp 18), none, 2, false, []⟩, ⟨(some 20), none, .load none (.tmp 19), none, 3, true, []⟩, ⟨(some 21), none, .mov (.tmp 1), none, 4, false, []⟩, ⟨(some 22), none, .mov (.tmp 5), none, 5, false, []⟩, ⟨(some 23), none, .idxSl 1 (.tmp 21) (.tmp 22), none, 6, false, []⟩, ⟨(some 24), none, .load none (.tmp 23), none, 7, true, []⟩, ⟨(some 25), none, .eq .int true (.tmp 20) (.tmp 24), none, 8, false, []⟩]) (.cond (.tmp 25) (.seq (.region 0 [ ⟨(some 4), none, .mov (.const (.bool false)), none, 0, false, []⟩]) (.ret)) (.skip)))) (.region 0 [ ⟨(some 15), none, .mov (.tmp 5), none, 0, false, []⟩, ⟨(some 16), none, .bin .add (.tmp 15) (.const (.int .i64 1)), none, 1, false, []⟩, ⟨(some 5), none, .mov (.tmp 16), none, 2, false, []⟩])))
def sf39 : SFunc := ⟨5, [.tmp 4], .seq (.region 0 [ ⟨(some 4), none, .mov (.const (.bool false)), none, 0, false, []⟩]) (.seq (.seq (.region 0 [ ⟨(some 6), none, .mov (.tmp 0), none, 0, false, []⟩, ⟨(some 7), none, .len (.tmp 6), none, 1, false, []⟩, ⟨(some 8), none, .mov (.tmp 1), none, 2, false, []⟩, ⟨(some 9), none, .len (.tmp 8), none, 3, false, []⟩, ⟨(some 10), none, .eq .int true (.tmp 7) (.tmp 9), none, 4, false, []⟩]) (.cond (.tmp 10) (.seq (.region 0 [ ⟨(some 4), none, .mov (.const (.bool false)), none, 0, false, []⟩]) (.ret)) (.skip))) (.seq (.seq (.region 0 [ ⟨(some 5), none, .mov (.const (.int .i64 0)), none, 0, false, []⟩]) (.block 0 (.loop sf39L0))) (.seq (.region 0 [ ⟨(some 4), none, .mov (.const (.bool true)), none, 0, false, []⟩]) (.ret))))⟩
def sf55 : SFunc := ⟨4, [.tmp 2], .seq (.region 0 [ ⟨(some 2), none, .mov (.const (.int .i64 0)), none, 0, false, []⟩]) (.seq (.region 0 [ ⟨(some 6), none, .mov (.tmp 0), none, 0, false, []⟩, ⟨(some 7), none, .call (.func 62) [(.tmp 6)], none, 1, false, []⟩, ⟨(some 5), none, .mov (.tmp 7), none, 2, false, []⟩, ⟨(some 8), none, .extract (.tmp 5) 0, none, 3, false, []⟩, ⟨(some 9), none, .extract (.tmp 5) 1, none, 4, false, []⟩, ⟨(some 3), none, .mov (.tmp 8), none, 5, false, []⟩, ⟨(some 4), none, .mov (.tmp 9), none, 6, false, []⟩]) (.seq (.region 0 [ ⟨(some 10), none, .mov (.tmp 4), none, 0, false, []⟩, ⟨(some 2), none, .mov (.tmp 10), none, 1, false, []⟩]) (.ret)))⟩

def FT : FuncId → Option SFunc
  | 13 => some sf13
  | 18 => some sf18
  | 59 => some sf59
  | 58 => some sf58
  | 61 => some sf61
  | 60 => some sf60
  | 97 => some sf97
  | 27 => some sf27
  | 69 => some sf69
  | 62 => some sf62
  | 85 => some sf85
  | 105 => some sf105
  | 98 => some sf98
  | 87 => some sf87
  | 99 => some sf99
  | 109 => some sf109
  | 80 => some sf80
  | 95 => some sf95
  | 100 => some sf100
  | 63 => some sf63
  | 101 => some sf101
  | 70 => some sf70
  | 71 => some sf71
  | 67 => some sf67
  | 68 => some sf68
  | 103 => some sf103
  | 82 => some sf82
  | 37 => some sf37
  | 74 => some sf74
  | 75 => some sf75
  | 38 => some sf38
  | 76 => some sf76
  | 77 => some sf77
  | 42 => some sf42
  | 81 => some sf81
  | 28 => some sf28
  | 29 => some sf29
  | 66 => some sf66
  | 72 => some sf72
  | 65 => some sf65
  | 102 => some sf102
  | 30 => some sf30
  | 31 => some sf31
  | 23 => some sf23
  | 19 => some sf19
  | 20 => some sf20
  | 26 => some sf26
  | 35 => some sf35
  | 48 => some sf48
  | 84 => some sf84
  | 73 => some sf73
  | 104 => some sf104
  | 24 => some sf24
  | 39 => some sf39
  | 55 => some sf55
  | _ => none
end Go.Proofs.Ytecncmmkghmojaa.Sh

