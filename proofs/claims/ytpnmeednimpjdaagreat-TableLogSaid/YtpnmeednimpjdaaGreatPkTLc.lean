/- Texts of this repo, laid together. -/
import Derived.Test.YtpnmeednimpjdaaGreatPkTLa
import Derived.Test.YtpnmeednimpjdaaGreatShelf
import Derived.Test.YtpnmeednimpjdaaGreatPkTLb
import Derived.Test.YtpnmeednimpjdaaGreatProg
import Derived.Lib.TrimUEq
import Derived.Lib.RuneCountTail
namespace Go.Proofs.YtpnmeednimpjdaaGreat.AM
open Go
set_option maxRecDepth 100000
set_option linter.unusedSimpArgs false
abbrev oMv (d x : Nat) : RO := ⟨some d, .move (.tmp x), none⟩
abbrev oMi (d : Nat) (n : Int) : RO := ⟨some d, .move (.const (.int .i64 n)), none⟩
abbrev oLf (d n x : Nat) : RO := ⟨some d, .load false n (.tmp x), none⟩
abbrev oLt (d n x : Nat) : RO := ⟨some d, .load true n (.tmp x), none⟩
abbrev oFd (d n x : Nat) : RO := ⟨some d, .fld n (.tmp x), none⟩
abbrev oSo (n x y : Nat) : RO := ⟨none, .store n (.tmp x) (.tmp y), none⟩
abbrev oPf (d x y : Nat) : RO := ⟨some d, .pick (.tmp x) (.tmp y) (.const (.bool false)), none⟩
abbrev oPt (d x y : Nat) : RO := ⟨some d, .pick (.tmp x) (.const (.bool true)) (.tmp y), none⟩
abbrev oK1 (d f x : Nat) : RO := ⟨some d, .call (.fn f) [.tmp x], none⟩
abbrev oK2 (d f x y : Nat) : RO := ⟨some d, .call (.fn f) [.tmp x, .tmp y], none⟩
abbrev oAi (d x : Nat) (n : Int) : RO := ⟨some d, .bin .add (.tmp x) (.const (.int .i64 n)), none⟩
abbrev oXt (d x i : Nat) : RO := ⟨some d, .ext (.tmp x) i, none⟩
abbrev oMf (d : Nat) : RO := ⟨some d, .move (.const (.bool false)), none⟩
abbrev oMg (d x g : Nat) (b : Bool) : RO := ⟨some d, .move (.tmp x), some (g, b)⟩
abbrev oNc (d x : Nat) : RO := ⟨some d, .nilCheck (.tmp x), none⟩
abbrev oNs (d : Nat) : RO := ⟨some d, .move (.const (.slice none 0 0)), none⟩
abbrev oIa (d n e x y : Nat) : RO := ⟨some d, .idxA n e (.tmp x) (.tmp y), none⟩
abbrev oIx (d e x y : Nat) : RO := ⟨some d, .idx e (.tmp x) (.tmp y), none⟩
abbrev oLs (d x y : Nat) : RO := ⟨some d, .bin .lss (.tmp x) (.tmp y), none⟩
abbrev oLi (d x : Nat) (n : Int) : RO := ⟨some d, .bin .lss (.tmp x) (.const (.int .i64 n)), none⟩
abbrev oEi (d x : Nat) (n : Int) : RO := ⟨some d, .bin .eql (.tmp x) (.const (.int .i64 n)), none⟩
abbrev oNi (d x : Nat) (n : Int) : RO := ⟨some d, .bin .neq (.tmp x) (.const (.int .i64 n)), none⟩
abbrev oLn (d k x : Nat) : RO := ⟨some d, .len k (.tmp x), none⟩
abbrev oBx (d t x : Nat) : RO := ⟨some d, .box t (.tmp x), none⟩
abbrev oAp (d t e b x y : Nat) : RO := ⟨some d, .app t e b (.tmp x) (.tmp y), none⟩
abbrev oGl (d n x g : Nat) (b : Bool) : RO := ⟨some d, .load false n (.tmp x), some (g, b)⟩
abbrev oGf (d n x g : Nat) (b : Bool) : RO := ⟨some d, .fld n (.tmp x), some (g, b)⟩
abbrev oGn (d x g : Nat) (b : Bool) : RO := ⟨some d, .nilCheck (.tmp x), some (g, b)⟩
abbrev oUn (d x : Nat) : RO := ⟨some d, .un .not (.tmp x), none⟩
abbrev ZL0 : List Value := [.bool false, .string ⟨#[]⟩, .bool false, .int .i64 0, .int .i64 0, .string ⟨#[]⟩, .bool false, .string ⟨#[]⟩, .bool false, .int .i64 0, .int .i64 0, .string ⟨#[]⟩, .bool false, .string ⟨#[]⟩, .bool false, .int .i64 0, .int .i64 0, .string ⟨#[]⟩, .bool false, .string ⟨#[]⟩, .bool false, .int .i64 0, .int .i64 0, .string ⟨#[]⟩, .bool false, .string ⟨#[]⟩, .bool false, .int .i64 0, .int .i64 0, .string ⟨#[]⟩, .bool false, .string ⟨#[]⟩, .bool false, .int .i64 0, .int .i64 0, .string ⟨#[]⟩, .bool false, .string ⟨#[]⟩, .bool false, .int .i64 0, .int .i64 0, .string ⟨#[]⟩, .bool false, .string ⟨#[]⟩, .bool false, .int .i64 0, .int .i64 0, .string ⟨#[]⟩, .bool false, .string ⟨#[]⟩, .bool false, .int .i64 0, .int .i64 0, .string ⟨#[]⟩, .bool false, .string ⟨#[]⟩, .bool false, .int .i64 0, .int .i64 0, .string ⟨#[]⟩, .bool false, .string ⟨#[]⟩, .bool false, .int .i64 0, .int .i64 0, .string ⟨#[]⟩, .bool false, .string ⟨#[]⟩, .bool false, .int .i64 0, .int .i64 0, .string ⟨#[]⟩, .bool false, .string ⟨#[]⟩, .bool false, .int .i64 0, .int .i64 0, .string ⟨#[]⟩, .bool false, .string ⟨#[]⟩, .bool false, .int .i64 0, .int .i64 0, .string ⟨#[]⟩, .bool false, .string ⟨#[]⟩, .bool false, .int .i64 0, .int .i64 0, .string ⟨#[]⟩, .bool false, .string ⟨#[]⟩, .bool false, .int .i64 0, .int .i64 0, .string ⟨#[]⟩, .bool false, .string ⟨#[]⟩, .bool false, .int .i64 0, .int .i64 0, .string ⟨#[]⟩, .bool false, .string ⟨#[]⟩, .bool false, .int .i64 0, .int .i64 0, .string ⟨#[]⟩, .bool false, .string ⟨#[]⟩, .bool false, .int .i64 0, .int .i64 0, .string ⟨#[]⟩, .bool false, .string ⟨#[]⟩, .bool false, .int .i64 0, .int .i64 0, .string ⟨#[]⟩, .bool false, .string ⟨#[]⟩, .bool false, .int .i64 0, .int .i64 0, .string ⟨#[]⟩, .bool false, .string ⟨#[]⟩, .bool false, .int .i64 0, .int .i64 0, .string ⟨#[]⟩, .bool false, .string ⟨#[]⟩, .bool false, .int .i64 0, .int .i64 0, .string ⟨#[]⟩, .bool false, .string ⟨#[]⟩, .bool false, .int .i64 0, .int .i64 0, .string ⟨#[]⟩, .bool false, .string ⟨#[]⟩, .bool false, .int .i64 0, .int .i64 0, .string ⟨#[]⟩, .bool false, .string ⟨#[]⟩, .bool false, .int .i64 0, .int .i64 0, .string ⟨#[]⟩, .bool false, .string ⟨#[]⟩, .bool false, .int .i64 0, .int .i64 0, .string ⟨#[]⟩, .bool false, .string ⟨#[]⟩, .bool false, .int .i64 0, .int .i64 0, .string ⟨#[]⟩, .bool false, .string ⟨#[]⟩, .bool false, .int .i64 0, .int .i64 0, .string ⟨#[]⟩, .bool false, .string ⟨#[]⟩, .bool false, .int .i64 0, .int .i64 0, .string ⟨#[]⟩, .bool false, .string ⟨#[]⟩, .bool false, .int .i64 0, .int .i64 0, .string ⟨#[]⟩, .bool false, .string ⟨#[]⟩, .bool false, .int .i64 0, .int .i64 0, .string ⟨#[]⟩]
abbrev ZL1 : List Value := [.bool false, .string ⟨#[]⟩, .bool false, .int .i64 0, .int .i64 0, .string ⟨#[]⟩, .bool false, .string ⟨#[]⟩, .bool false, .int .i64 0, .int .i64 0, .string ⟨#[]⟩, .bool false, .string ⟨#[]⟩, .bool false, .int .i64 0, .int .i64 0, .string ⟨#[]⟩, .bool false, .string ⟨#[]⟩, .bool false, .int .i64 0, .int .i64 0, .string ⟨#[]⟩]
abbrev ZL2 : List Value := [.bool false, .int .i64 0, .int .i64 0, .bool false, .int .i64 0, .int .i64 0, .bool false, .int .i64 0, .int .i64 0, .bool false, .int .i64 0, .int .i64 0, .bool false, .int .i64 0, .int .i64 0, .bool false, .int .i64 0, .int .i64 0, .bool false, .int .i64 0, .int .i64 0, .bool false, .int .i64 0, .int .i64 0, .bool false, .int .i64 0, .int .i64 0, .bool false, .int .i64 0, .int .i64 0, .bool false, .int .i64 0, .int .i64 0, .bool false, .int .i64 0, .int .i64 0, .bool false, .int .i64 0, .int .i64 0, .bool false, .int .i64 0, .int .i64 0, .bool false, .int .i64 0, .int .i64 0, .bool false, .int .i64 0, .int .i64 0, .bool false, .int .i64 0, .int .i64 0, .bool false, .int .i64 0, .int .i64 0, .bool false, .int .i64 0, .int .i64 0, .bool false, .int .i64 0, .int .i64 0, .bool false, .int .i64 0, .int .i64 0, .bool false, .int .i64 0, .int .i64 0, .bool false, .int .i64 0, .int .i64 0, .bool false, .int .i64 0, .int .i64 0, .bool false, .int .i64 0, .int .i64 0, .bool false, .int .i64 0, .int .i64 0, .bool false, .int .i64 0, .int .i64 0, .bool false, .int .i64 0, .int .i64 0, .bool false, .int .i64 0, .int .i64 0, .bool false, .int .i64 0, .int .i64 0, .bool false, .int .i64 0, .int .i64 0, .bool false, .int .i64 0, .int .i64 0, .int .i64 0]
abbrev f_loesslaw20_TableLog : FuncId := 5
def L_loesslaw20_TableLog_0 : RCode := (.seq (.seq (.region [oMv 23 5, oMv 24 0, oLn 25 1 24, oLs 26 23 25]) (.cond (.tmp 26) .skip (.exit 0))) (.seq (.block 1 (.region [oMv 29 4, oMv 30 0, oMv 31 5, oIx 32 5 30 31, oLt 33 5 32, oK2 34 18 29 33])) (.region [oMv 27 5, oAi 28 27 1, oMv 5 28])))
def L_loesslaw20_TableLog_1 : RCode := (.seq (.seq (.region [oMv 35 7, oLi 36 35 32]) (.cond (.tmp 36) .skip (.exit 2))) (.seq (.block 3 (.seq (.region [oMv 40 4, oMv 41 7, ⟨some 42, .bin .quo (.tmp 41) (.const (.int .i64 4)), none⟩, oMv 43 7, ⟨some 44, .bin .rem (.tmp 43) (.const (.int .i64 4)), none⟩, ⟨some 45, .call (.fn 19) [.tmp 40, .tmp 42, .tmp 44], none⟩, oMv 39 45, oXt 46 39 0, oXt 47 39 1, ⟨some 8, .new 28 [.string ⟨#[]⟩, .bool false, .int .i64 0, .int .i64 0, .string ⟨#[]⟩], none⟩, oSo 5 8 46, oMv 9 47]) (.seq (.region [oMv 48 9]) (.cond (.tmp 48) (.region [oMv 49 7, ⟨some 50, .bin .quo (.tmp 49) (.const (.int .i64 4)), none⟩, oMv 51 7, ⟨some 52, .bin .rem (.tmp 51) (.const (.int .i64 4)), none⟩, oLt 53 5 8, ⟨some 54, .build [.bool false, .string ⟨#[]⟩, .bool false, .int .i64 0, .int .i64 0, .string ⟨#[]⟩] [(0, (1, .const (.bool true))), (1, (5, .tmp 53))], none⟩, oIa 55 8 24 6 50, oIa 56 4 6 55 52, oSo 6 56 54]) .skip)))) (.region [oMv 37 7, oAi 38 37 1, oMv 7 38])))
def L_loesslaw20_TableLog_2 : RCode := (.seq (.seq (.region [oMv 72 12, oMv 73 0, oLn 74 1 73, oLs 75 72 74]) (.cond (.tmp 75) .skip (.exit 4))) (.seq (.block 5 (.seq (.region [oMv 79 10, oMv 80 0, oMv 81 12, oIx 82 5 80 81, oFd 83 0 82, oLf 84 1 83, oK2 85 23 79 84, oMv 78 85, oXt 86 78 0, oXt 87 78 1, ⟨some 13, .new 28 [.string ⟨#[]⟩, .bool false, .int .i64 0, .int .i64 0, .string ⟨#[]⟩], none⟩, oSo 5 13 86, oMv 14 87]) (.seq (.region [oMv 89 4, oMv 90 0, oMv 91 12, oIx 92 5 90 91, oFd 93 0 92, oLf 94 1 93, oK2 95 24 89 94, oMv 88 95, oXt 96 88 0, oXt 97 88 1, ⟨some 15, .new 28 [.string ⟨#[]⟩, .bool false, .int .i64 0, .int .i64 0, .string ⟨#[]⟩], none⟩, oSo 5 15 96, oMv 16 97]) (.seq (.drawn [oMv 98 14, oMv 99 16, ⟨some 100, .eqB true (.tmp 98) (.tmp 99), none⟩, oMv 101 100, ⟨some 102, .load true 5 (.tmp 13), some (101, false)⟩, ⟨some 103, .load true 5 (.tmp 15), some (101, false)⟩, ⟨some 104, .call (.fn 25) [.tmp 102, .tmp 103], some (101, false)⟩, ⟨some 105, .un .not (.tmp 104), some (101, false)⟩, oPt 106 101 105, oMv 107 106, oMg 108 10 107 false, oMg 109 0 107 false, oMg 110 12 107 false, ⟨some 111, .idx 5 (.tmp 109) (.tmp 110), some (107, false)⟩, oGf 112 0 111 107 false, oGl 113 1 112 107 false, ⟨some 114, .call (.fn 26) [.tmp 108, .tmp 113], some (107, false)⟩, oMg 115 4 107 false, oMg 116 0 107 false, oMg 117 12 107 false, ⟨some 118, .idx 5 (.tmp 116) (.tmp 117), some (107, false)⟩, oGf 119 0 118 107 false, oGl 120 1 119 107 false, ⟨some 121, .call (.fn 27) [.tmp 115, .tmp 120], some (107, false)⟩, ⟨some 122, .bin .neq (.tmp 114) (.tmp 121), some (107, false)⟩, oPt 123 107 122] [(16, (22, true))]) (.cond (.tmp 123) (.seq (.region [oMf 2]) .ret) .skip))))) (.region [oMv 76 12, oAi 77 76 1, oMv 12 77])))
def c_loesslaw20_TableLog : RFunc := ⟨124, [(2, none)], (.seq (.region [oMf 2]) (.seq (.region [⟨some 17, .call (.fn 6) [], none⟩, oMv 3 17]) (.seq (.seq (.region [oMv 18 3, oUn 19 18]) (.cond (.tmp 19) (.seq (.region [oMf 2]) .ret) .skip)) (.seq (.region [oMv 20 0, ⟨some 21, .call (.fn 16) [.tmp 20, .const (.int .i64 40)], none⟩, oMv 0 21]) (.seq (.region [⟨some 22, .call (.fn 17) [], none⟩, oMv 4 22]) (.seq (.seq (.region [oMi 5 0]) (.block 0 (.loop L_loesslaw20_TableLog_0))) (.seq (.region [⟨some 6, .new 43 ZL0, none⟩]) (.seq (.seq (.region [oMi 7 0]) (.block 2 (.loop L_loesslaw20_TableLog_1))) (.seq (.region [oLt 58 192 6, oK1 59 9 58, oMv 57 59, oXt 60 57 0, oXt 61 57 1, oMv 10 60, oMv 11 61]) (.seq (.seq (.region [oMv 62 11, oNi 63 62 0, oMv 64 63, oMg 65 10 64 false, ⟨some 66, .call (.fn 21) [.tmp 65], some (64, false)⟩, oMg 67 4 64 false, ⟨some 68, .call (.fn 22) [.tmp 67], some (64, false)⟩, ⟨some 69, .call (.fn 20) [.tmp 66, .tmp 68], some (64, false)⟩, ⟨some 70, .un .not (.tmp 69), some (64, false)⟩, oPt 71 64 70]) (.cond (.tmp 71) (.seq (.region [oMf 2]) .ret) .skip)) (.seq (.seq (.region [oMi 12 0]) (.block 4 (.loop L_loesslaw20_TableLog_2))) (.seq (.region [⟨some 2, .move (.const (.bool true)), none⟩]) .ret))))))))))))⟩
abbrev f_loesslaw20_begun : FuncId := 6
def c_loesslaw20_begun : RFunc := ⟨82, [(0, none)], (.seq (.region [oMf 0]) (.seq (.region [⟨some 12, .build [.string ⟨#[]⟩, .bool false, .int .i64 0, .int .i64 0, .string ⟨#[]⟩] [(0, (1, .const (.string ⟨#[97]⟩))), (1, (1, .const (.bool true)))], none⟩, ⟨some 13, .lit 28 5 1 [.string ⟨#[]⟩, .bool false, .int .i64 0, .int .i64 0, .string ⟨#[]⟩] [(0, (5, .tmp 12))], none⟩, ⟨some 14, .call (.fn 7) [.tmp 13, .const (.slice none 0 0)], none⟩, oK1 15 10 14, ⟨some 1, .new 43 ZL0, none⟩, oSo 192 1 15]) (.seq (.region [oLt 17 192 1, oK1 18 9 17, oMv 16 18, oXt 19 16 0, oXt 20 16 1, oMv 2 19, oMv 3 20]) (.seq (.seq (.region [oMv 21 3, oNi 22 21 0, oMv 23 22, oMg 24 2 23 false, ⟨some 25, .eqN false 0 (.tmp 24) (.const (.pointer none)), some (23, false)⟩, oPt 26 23 25]) (.cond (.tmp 26) (.seq (.region [oMf 0]) .ret) .skip)) (.seq (.region [oMv 28 2, ⟨some 29, .call (.fn 23) [.tmp 28, .const (.string ⟨#[97]⟩)], none⟩, oMv 27 29, oXt 30 27 0, oXt 31 27 1, ⟨some 4, .new 28 [.string ⟨#[]⟩, .bool false, .int .i64 0, .int .i64 0, .string ⟨#[]⟩], none⟩, oSo 5 4 30, oMv 5 31]) (.seq (.region [oMv 33 2, ⟨some 34, .call (.fn 23) [.tmp 33, .const (.string ⟨#[98]⟩)], none⟩, oMv 32 34, oXt 35 32 0, oXt 36 32 1, ⟨some 6, .new 28 [.string ⟨#[]⟩, .bool false, .int .i64 0, .int .i64 0, .string ⟨#[]⟩], none⟩, oSo 5 6 35, oMv 7 36]) (.seq (.region [oMv 38 2, oK1 39 13 38, oK1 40 12 39, oMv 37 40, oXt 41 37 0, oXt 42 37 1, oMv 8 41, oMv 9 42]) (.seq (.region [⟨some 44, .call (.fn 12) [.const (.slice none 0 0)], none⟩, oMv 43 44, oXt 45 43 0, oXt 46 43 1, oMv 10 45, oMv 11 46]) (.seq (.region [⟨some 47, .call (.fn 28) [], none⟩, oMv 48 47, oMg 49 5 48 true, oPf 50 48 49, oMv 51 50, oGf 52 1 4 51 true, oGl 53 1 52 51 true, oPf 54 51 53, oMv 55 54, oMg 56 7 55 true, ⟨some 57, .un .not (.tmp 56), some (55, true)⟩, oPf 58 55 57, oMv 59 58, oMg 60 2 59 true, ⟨some 61, .call (.fn 26) [.tmp 60, .const (.string ⟨#[97]⟩)], some (59, true)⟩, ⟨some 62, .bin .eql (.tmp 61) (.const (.int .i64 1)), some (59, true)⟩, oPf 63 59 62, oMv 64 63, oMg 65 2 64 true, ⟨some 66, .call (.fn 15) [.tmp 65], some (64, true)⟩, ⟨some 67, .bin .eql (.tmp 66) (.const (.int .i64 1)), some (64, true)⟩, oPf 68 64 67, oMv 69 68, oMg 70 9 69 true, ⟨some 71, .bin .eql (.tmp 70) (.const (.int .i64 0)), some (69, true)⟩, oPf 72 69 71, oMv 73 72, oMg 74 8 73 true, ⟨some 75, .call (.fn 15) [.tmp 74], some (73, true)⟩, ⟨some 76, .bin .eql (.tmp 75) (.const (.int .i64 1)), some (73, true)⟩, oPf 77 73 76, oMv 78 77, oMg 79 11 78 true, ⟨some 80, .bin .eql (.tmp 79) (.const (.int .i64 8)), some (78, true)⟩, oPf 81 78 80, oMv 0 81]) .ret)))))))))⟩
abbrev f_loesslaw19_Lay : FuncId := 7
def L_loesslaw19_Lay_1 : RCode := (.seq (.seq (.region [oMv 62 12, oLi 63 62 4]) (.cond (.tmp 63) .skip (.exit 2))) (.seq (.block 3 (.seq (.region [oMv 66 12, oMv 67 6, ⟨some 68, .bin .add (.tmp 66) (.tmp 67), none⟩, ⟨some 69, .bin .rem (.tmp 68) (.const (.int .i64 4)), none⟩, oMv 13 69]) (.seq (.region [oMv 70 11, oMv 71 13, oIa 72 8 24 5 70, oIa 73 4 6 72 71, oFd 74 0 73, oLf 75 1 74, oUn 76 75]) (.cond (.tmp 76) (.seq (.region [oMv 77 11, oMv 78 13, oLt 79 5 7, ⟨some 80, .build [.bool false, .string ⟨#[]⟩, .bool false, .int .i64 0, .int .i64 0, .string ⟨#[]⟩] [(0, (1, .const (.bool true))), (1, (5, .tmp 79))], none⟩, oIa 81 8 24 5 77, oIa 82 4 6 81 78, oSo 6 82 80]) (.exit 2)) .skip)))) (.region [oMv 64 12, oAi 65 64 1, oMv 12 65])))
def L_loesslaw19_Lay_0 : RCode := (.seq (.seq (.region [oMv 14 6, oMv 15 0, oLn 16 1 15, oLs 17 14 16, oMv 18 17, oMg 19 6 18 true, ⟨some 20, .bin .lss (.tmp 19) (.const (.int .i64 40)), some (18, true)⟩, oPf 21 18 20]) (.cond (.tmp 21) .skip (.exit 0))) (.seq (.block 1 (.seq (.region [oMv 24 0, oMv 25 6, oIx 26 5 24 25, oLt 27 5 26, oK1 28 29 27, ⟨some 7, .new 28 [.string ⟨#[]⟩, .bool false, .int .i64 0, .int .i64 0, .string ⟨#[]⟩], none⟩, oSo 5 7 28]) (.seq (.seq (.many [oLt 30 192 5, oK1 31 31 30, oFd 32 0 7, oLf 33 1 32, oK2 34 30 31 33, oMv 29 34, oXt 35 29 0, oXt 36 29 1, ⟨some 8, .new 28 [.string ⟨#[]⟩, .bool false, .int .i64 0, .int .i64 0, .string ⟨#[]⟩], none⟩, oSo 5 8 35, oMv 9 36] (.r 0 (.q 2 (.r 3 (.alt (.m 1 [0] (.alt (.m 4 [0, 1, 2, 3] (.q 5 (.q 6 (.q 7 (.m 8 [] (.m 9 [0, 1, 2, 3, 4, 5, 6, 8] (.q 10 .leaf))))))) (.m 8 [] (.m 4 [0, 1, 2, 3] (.q 5 (.q 6 (.q 7 (.m 9 [0, 1, 2, 3, 4, 5, 6, 8] (.q 10 .leaf))))))))) (.m 8 [] (.m 1 [0] (.m 4 [0, 1, 2, 3] (.q 5 (.q 6 (.q 7 (.m 9 [0, 1, 2, 3, 4, 5, 6, 8] (.q 10 .leaf))))))))))))) (.seq (.region [oMv 37 9, oMv 38 37, ⟨some 39, .load true 5 (.tmp 7), some (38, false)⟩, ⟨some 40, .call (.fn 32) [.tmp 39], some (38, false)⟩, ⟨some 41, .un .not (.tmp 40), some (38, false)⟩, oPt 42 38 41]) (.cond (.tmp 42) (.exit 1) .skip))) (.seq (.region [oFd 43 0 7, oLf 44 1 43, oK1 45 33 44, oMv 10 45]) (.seq (.region [oMv 46 10, oK1 47 34 46, oMv 11 47]) (.seq (.seq (.region [oMv 48 6, oMv 49 1, oLn 50 1 49, oLs 51 48 50, oMv 52 51, oMg 53 1 52 true, oMg 54 6 52 true, ⟨some 55, .idx 1 (.tmp 53) (.tmp 54), some (52, true)⟩, oGl 56 1 55 52 true, oPf 57 52 56]) (.cond (.tmp 57) (.region [oMv 58 11, oMv 59 10, oK1 60 36 59, oK2 61 35 58 60, oMv 11 61]) .skip)) (.seq (.region [oMi 12 0]) (.block 2 (.loop L_loesslaw19_Lay_1))))))))) (.region [oMv 22 6, oAi 23 22 1, oMv 6 23])))
def c_loesslaw19_Lay : RFunc := ⟨84, [(4, some (true, 192))], (.seq (.region [⟨some 4, .new 33 ZL0, none⟩]) (.seq (.region [⟨some 5, .new 33 ZL0, none⟩]) (.seq (.seq (.region [oMi 6 0]) (.block 0 (.loop L_loesslaw19_Lay_0))) (.seq (.region [oLt 83 192 5, oSo 192 4 83]) .ret))))⟩
abbrev f_loesslaw3_Cut : FuncId := 8
def c_loesslaw3_Cut : RFunc := ⟨13, [(4, none)], (.seq (.region [⟨some 4, .move (.const (.string ⟨#[]⟩)), none⟩]) (.seq (.seq (.region [oMv 5 0, oLn 6 0 5, oMv 7 1, ⟨some 8, .bin .gtr (.tmp 6) (.tmp 7), none⟩]) (.cond (.tmp 8) (.seq (.region [oMv 9 0, oMv 10 1, ⟨some 11, .cutS (.tmp 9) none (some (.tmp 10)), none⟩, oMv 4 11]) .ret) .skip)) (.seq (.region [oMv 12 0, oMv 4 12]) .ret)))⟩
abbrev f_hashstore_New : FuncId := 9
def L_hashstore_New_1 : RCode := (.seq (.region [oLi 24 23 4]) (.seq (.cond (.tmp 24) .skip (.exit 2)) (.seq (.block 3 (.seq (.region [⟨some 25, .idxV 4 true 6 (.tmp 22) (.tmp 23), none⟩, ⟨some 9, .new 40 [.bool false, .string ⟨#[]⟩, .bool false, .int .i64 0, .int .i64 0, .string ⟨#[]⟩], none⟩, oSo 6 9 25]) (.seq (.region [oMv 26 5, oFd 27 0 9, oLf 28 1 27, oK2 29 38 26 28]) (.seq (.region [oFd 30 0 9, oLf 31 1 30]) (.cond (.tmp 31) (.seq (.region [oMv 32 4, oMv 33 4, oNc 34 33, oFd 35 193 34, oLf 36 1 35, oFd 37 1 9, oLt 38 5 37, ⟨some 39, .lit 28 5 1 [.string ⟨#[]⟩, .bool false, .int .i64 0, .int .i64 0, .string ⟨#[]⟩] [(0, (5, .tmp 38))], none⟩, oAp 40 28 5 56 36 39, oNc 41 32, oFd 42 193 41, oSo 1 42 40]) (.drawn [oMv 43 4, oMv 44 4, oNc 45 44, oFd 46 194 45, oLf 47 1 46, oFd 48 1 9, oFd 49 0 48, oLf 50 1 49, oK1 51 40 50, oK1 52 39 51, ⟨some 53, .lit 3 1 1 [.int .i64 0] [(0, (1, .tmp 52))], none⟩, oAp 54 3 1 8 47 53, oNc 55 43, oFd 56 194 55, oSo 1 56 54] [(4, (8, false)), (4, (9, false)), (4, (10, false))])) .skip))))) (.region [oAi 57 23 1, oMv 23 57]))))
def L_hashstore_New_0 : RCode := (.seq (.region [oLi 20 19 8]) (.seq (.cond (.tmp 20) .skip (.exit 0)) (.seq (.block 1 (.seq (.region [⟨some 21, .idxV 8 true 24 (.tmp 18) (.tmp 19), none⟩, ⟨some 7, .new 41 ZL1, none⟩, oSo 24 7 21]) (.seq (.region [oLt 22 24 7, oMi 23 0]) (.block 2 (.loop L_hashstore_New_1))))) (.region [oAi 58 19 1, oMv 19 58]))))
def c_hashstore_New : RFunc := ⟨65, [(2, none), (3, none)], (.seq (.region [oBx 1 43 0, ⟨some 2, .move (.const (.pointer none)), none⟩, oMi 3 0]) (.seq (.seq (.region [oLt 10 192 1, oK1 11 37 10, oUn 12 11]) (.cond (.tmp 12) (.seq (.region [⟨some 2, .move (.const (.pointer none)), none⟩, oMi 3 1]) .ret) .skip)) (.seq (.region [oLt 13 192 1, ⟨some 14, .build [.bool false, .string ⟨#[]⟩, .bool false, .int .i64 0, .int .i64 0, .string ⟨#[]⟩, .bool false, .string ⟨#[]⟩, .bool false, .int .i64 0, .int .i64 0, .string ⟨#[]⟩, .bool false, .string ⟨#[]⟩, .bool false, .int .i64 0, .int .i64 0, .string ⟨#[]⟩, .bool false, .string ⟨#[]⟩, .bool false, .int .i64 0, .int .i64 0, .string ⟨#[]⟩, .bool false, .string ⟨#[]⟩, .bool false, .int .i64 0, .int .i64 0, .string ⟨#[]⟩, .bool false, .string ⟨#[]⟩, .bool false, .int .i64 0, .int .i64 0, .string ⟨#[]⟩, .bool false, .string ⟨#[]⟩, .bool false, .int .i64 0, .int .i64 0, .string ⟨#[]⟩, .bool false, .string ⟨#[]⟩, .bool false, .int .i64 0, .int .i64 0, .string ⟨#[]⟩, .bool false, .string ⟨#[]⟩, .bool false, .int .i64 0, .int .i64 0, .string ⟨#[]⟩, .bool false, .string ⟨#[]⟩, .bool false, .int .i64 0, .int .i64 0, .string ⟨#[]⟩, .bool false, .string ⟨#[]⟩, .bool false, .int .i64 0, .int .i64 0, .string ⟨#[]⟩, .bool false, .string ⟨#[]⟩, .bool false, .int .i64 0, .int .i64 0, .string ⟨#[]⟩, .bool false, .string ⟨#[]⟩, .bool false, .int .i64 0, .int .i64 0, .string ⟨#[]⟩, .bool false, .string ⟨#[]⟩, .bool false, .int .i64 0, .int .i64 0, .string ⟨#[]⟩, .bool false, .string ⟨#[]⟩, .bool false, .int .i64 0, .int .i64 0, .string ⟨#[]⟩, .bool false, .string ⟨#[]⟩, .bool false, .int .i64 0, .int .i64 0, .string ⟨#[]⟩, .bool false, .string ⟨#[]⟩, .bool false, .int .i64 0, .int .i64 0, .string ⟨#[]⟩, .bool false, .string ⟨#[]⟩, .bool false, .int .i64 0, .int .i64 0, .string ⟨#[]⟩, .bool false, .string ⟨#[]⟩, .bool false, .int .i64 0, .int .i64 0, .string ⟨#[]⟩, .bool false, .string ⟨#[]⟩, .bool false, .int .i64 0, .int .i64 0, .string ⟨#[]⟩, .bool false, .string ⟨#[]⟩, .bool false, .int .i64 0, .int .i64 0, .string ⟨#[]⟩, .bool false, .string ⟨#[]⟩, .bool false, .int .i64 0, .int .i64 0, .string ⟨#[]⟩, .bool false, .string ⟨#[]⟩, .bool false, .int .i64 0, .int .i64 0, .string ⟨#[]⟩, .bool false, .string ⟨#[]⟩, .bool false, .int .i64 0, .int .i64 0, .string ⟨#[]⟩, .bool false, .string ⟨#[]⟩, .bool false, .int .i64 0, .int .i64 0, .string ⟨#[]⟩, .bool false, .string ⟨#[]⟩, .bool false, .int .i64 0, .int .i64 0, .string ⟨#[]⟩, .bool false, .string ⟨#[]⟩, .bool false, .int .i64 0, .int .i64 0, .string ⟨#[]⟩, .bool false, .string ⟨#[]⟩, .bool false, .int .i64 0, .int .i64 0, .string ⟨#[]⟩, .bool false, .string ⟨#[]⟩, .bool false, .int .i64 0, .int .i64 0, .string ⟨#[]⟩, .bool false, .string ⟨#[]⟩, .bool false, .int .i64 0, .int .i64 0, .string ⟨#[]⟩, .bool false, .string ⟨#[]⟩, .bool false, .int .i64 0, .int .i64 0, .string ⟨#[]⟩, .bool false, .string ⟨#[]⟩, .bool false, .int .i64 0, .int .i64 0, .string ⟨#[]⟩, .pointer none, .slice none 0 0, .slice none 0 0] [(0, (192, .tmp 13))], none⟩, oBx 15 77 14, oMv 4 15]) (.seq (.region [⟨some 16, .build [.slice none 0 0, .int .i64 0] [], none⟩, oBx 17 80 16, oMv 5 17]) (.seq (.seq (.region [oLt 18 192 1, oMi 19 0]) (.block 0 (.loop L_hashstore_New_0))) (.seq (.region [oMv 59 4, oMv 60 5, oK1 61 41 60, oNc 62 59, oFd 63 192 62, oSo 1 63 61]) (.seq (.region [oMv 64 4, oMv 2 64, oMi 3 0]) .ret)))))))⟩
abbrev f_loesslaw19_Of : FuncId := 10
def L_loesslaw19_Of_0 : RCode := (.seq (.seq (.region [oMv 5 4, oLi 6 5 32]) (.cond (.tmp 6) .skip (.exit 0))) (.seq (.block 1 (.region [oMv 9 4, ⟨some 10, .bin .quo (.tmp 9) (.const (.int .i64 4)), none⟩, oMv 11 4, ⟨some 12, .bin .rem (.tmp 11) (.const (.int .i64 4)), none⟩, oMv 13 4, ⟨some 14, .bin .quo (.tmp 13) (.const (.int .i64 4)), none⟩, oMv 15 4, ⟨some 16, .bin .rem (.tmp 15) (.const (.int .i64 4)), none⟩, oIa 17 8 24 1 14, oIa 18 4 6 17 16, oFd 19 0 18, oLf 20 1 19, oMv 21 4, ⟨some 22, .bin .quo (.tmp 21) (.const (.int .i64 4)), none⟩, oMv 23 4, ⟨some 24, .bin .rem (.tmp 23) (.const (.int .i64 4)), none⟩, oIa 25 8 24 1 22, oIa 26 4 6 25 24, oFd 27 1 26, oLt 28 5 27, ⟨some 29, .build [.bool false, .string ⟨#[]⟩, .bool false, .int .i64 0, .int .i64 0, .string ⟨#[]⟩] [(0, (1, .tmp 20)), (1, (5, .tmp 28))], none⟩, oIa 30 8 24 3 10, oIa 31 4 6 30 12, oSo 6 31 29])) (.region [oMv 7 4, oAi 8 7 1, oMv 4 8])))
def c_loesslaw19_Of : RFunc := ⟨33, [(2, some (true, 192))], (.seq (.region [oBx 1 33 0, ⟨some 2, .new 43 ZL0, none⟩]) (.seq (.region [⟨some 3, .new 43 ZL0, none⟩]) (.seq (.seq (.region [oMi 4 0]) (.block 0 (.loop L_loesslaw19_Of_0))) (.seq (.region [oLt 32 192 3, oSo 192 2 32]) .ret))))⟩
abbrev f_hashstore_Open : FuncId := 12
def c_hashstore_Open : RFunc := ⟨18, [(2, none), (3, none)], (.seq (.region [⟨some 2, .move (.const (.pointer none)), none⟩, oMi 3 0]) (.seq (.region [oMv 7 0, oK1 8 44 7, oMv 6 8, oXt 9 6 0, oXt 10 6 1, ⟨some 4, .new 43 ZL0, none⟩, oSo 192 4 9, oMv 5 10]) (.seq (.seq (.region [oMv 11 5, oNi 12 11 0]) (.cond (.tmp 12) (.seq (.region [oMv 13 5, ⟨some 2, .move (.const (.pointer none)), none⟩, oMv 3 13]) .ret) .skip)) (.seq (.region [oLt 14 192 4, oK1 15 9 14, oXt 16 15 0, oXt 17 15 1, oMv 2 16, oMv 3 17]) .ret))))⟩
abbrev f_hashstore_Store_Bytes : FuncId := 13
def c_hashstore_Store_Bytes : RFunc := ⟨10, [(2, none)], (.seq (.region [oNs 2]) (.seq (.seq (.region [oMv 3 0, ⟨some 4, .eqN false 0 (.tmp 3) (.const (.pointer none)), none⟩]) (.cond (.tmp 4) (.seq (.region [oNs 2]) .ret) .skip)) (.seq (.region [oMv 5 0, oNc 6 5, oFd 7 0 6, oLt 8 192 7, oK1 9 45 8, oMv 2 9]) .ret)))⟩
abbrev f_hashstore_Store_Len : FuncId := 15
def c_hashstore_Store_Len : RFunc := ⟨10, [(2, none)], (.seq (.region [oMi 2 0]) (.seq (.seq (.region [oMv 3 0, ⟨some 4, .eqN false 0 (.tmp 3) (.const (.pointer none)), none⟩]) (.cond (.tmp 4) (.seq (.region [oMi 2 0]) .ret) .skip)) (.seq (.region [oMv 5 0, oNc 6 5, oFd 7 193 6, oLf 8 1 7, oLn 9 1 8, oMv 2 9]) .ret)))⟩
abbrev f_loesslaw10_Recs : FuncId := 16
def L_loesslaw10_Recs_0 : RCode := (.seq (.seq (.region [oMv 7 6, oMv 8 0, oLn 9 1 8, oLs 10 7 9, oMv 11 10, oMg 12 6 11 true, oMg 13 1 11 true, ⟨some 14, .bin .lss (.tmp 12) (.tmp 13), some (11, true)⟩, oPf 15 11 14]) (.cond (.tmp 15) .skip (.exit 0))) (.seq (.block 1 (.region [oMv 18 5, oMv 19 0, oMv 20 6, oIx 21 5 19 20, oLt 22 5 21, oK1 23 29 22, ⟨some 24, .lit 28 5 1 [.string ⟨#[]⟩, .bool false, .int .i64 0, .int .i64 0, .string ⟨#[]⟩] [(0, (5, .tmp 23))], none⟩, oAp 25 28 5 56 18 24, oMv 5 25])) (.region [oMv 16 6, oAi 17 16 1, oMv 6 17])))
def c_loesslaw10_Recs : RFunc := ⟨27, [(4, none)], (.seq (.region [oNs 4]) (.seq (.region [oNs 5]) (.seq (.seq (.region [oMi 6 0]) (.block 0 (.loop L_loesslaw10_Recs_0))) (.seq (.region [oMv 26 5, oMv 4 26]) .ret))))⟩
abbrev f_logstore_New : FuncId := 17
def c_logstore_New : RFunc := ⟨4, [(0, none)], (.seq (.region [⟨some 0, .move (.const (.pointer none)), none⟩]) (.seq (.region [⟨some 1, .call (.fn 46) [], none⟩, ⟨some 2, .build [.slice none 0 0, .pointer none] [(1, (1, .tmp 1))], none⟩, oBx 3 91 2, oMv 0 3]) .ret))⟩
abbrev f_logstore_Log_Put : FuncId := 18
def c_logstore_Log_Put : RFunc := ⟨50, [(4, none)], (.seq (.region [oBx 3 28 1, oMi 4 0]) (.seq (.block 0 (.seq (.region [oMv 7 0, ⟨some 8, .eqN false 0 (.tmp 7) (.const (.pointer none)), none⟩, oMv 6 8]) (.cond (.tmp 6) (.seq (.region [oMi 4 7]) .ret) (.seq (.region [oLt 10 5 3, oK1 11 47 10, oUn 12 11, oMv 9 12]) (.cond (.tmp 9) (.seq (.region [oMi 4 1]) .ret) .skip))))) (.seq (.seq (.region [oMv 13 0, oFd 14 0 3, oLf 15 1 14, oK2 16 48 13 15, oMv 5 16]) (.seq (.region [oMv 17 5, ⟨some 18, .bin .geq (.tmp 17) (.const (.int .i64 0)), none⟩]) (.cond (.tmp 18) (.seq (.region [oMv 19 0, oNc 20 19, oFd 21 0 20, oLf 22 1 21, oMv 23 5, oLt 24 5 3, oIx 25 5 22 23, oSo 5 25 24]) (.seq (.region [oMi 4 0]) .ret)) .skip))) (.seq (.seq (.drawn [oMv 26 0, oNc 27 26, oFd 28 1 27, oLf 29 1 28, oFd 30 0 3, oLf 31 1 30, oK1 32 40 31, oMv 33 0, oNc 34 33, oFd 35 0 34, oLf 36 1 35, oLn 37 1 36, ⟨some 38, .call (.fn 49) [.tmp 29, .tmp 32, .tmp 37], none⟩, oUn 39 38] [(3, (6, false)), (6, (10, true))]) (.cond (.tmp 39) (.seq (.region [oMi 4 5]) .ret) .skip)) (.seq (.region [oMv 40 0, oMv 41 0, oNc 42 41, oFd 43 0 42, oLf 44 1 43, oLt 45 5 3, ⟨some 46, .lit 28 5 1 [.string ⟨#[]⟩, .bool false, .int .i64 0, .int .i64 0, .string ⟨#[]⟩] [(0, (5, .tmp 45))], none⟩, oAp 47 28 5 56 44 46, oNc 48 40, oFd 49 0 48, oSo 1 49 47]) (.seq (.region [oMi 4 0]) .ret))))))⟩
abbrev f_logstore_Log_Slot : FuncId := 19
def c_logstore_Log_Slot : RFunc := ⟨35, [(6, some (true, 5)), (7, none)], (.seq (.region [⟨some 6, .new 28 [.string ⟨#[]⟩, .bool false, .int .i64 0, .int .i64 0, .string ⟨#[]⟩], none⟩, oMf 7]) (.seq (.seq (.region [oMv 11 0, ⟨some 12, .eqN false 0 (.tmp 11) (.const (.pointer none)), none⟩]) (.cond (.tmp 12) (.seq (.region [⟨some 13, .build [.string ⟨#[]⟩, .bool false, .int .i64 0, .int .i64 0, .string ⟨#[]⟩] [], none⟩, oSo 5 6 13, oMf 7]) .ret) .skip)) (.seq (.region [oMv 15 0, oNc 16 15, oFd 17 1 16, oLf 18 1 17, oMv 19 1, oMv 20 2, ⟨some 21, .call (.fn 50) [.tmp 18, .tmp 19, .tmp 20], none⟩, oMv 14 21, oXt 22 14 0, oXt 23 14 1, oXt 24 14 2, oMv 8 22, oMv 9 23, oMv 10 24]) (.seq (.seq (.region [oMv 25 10, oUn 26 25]) (.cond (.tmp 26) (.seq (.region [⟨some 27, .build [.string ⟨#[]⟩, .bool false, .int .i64 0, .int .i64 0, .string ⟨#[]⟩] [], none⟩, oSo 5 6 27, oMf 7]) .ret) .skip)) (.seq (.region [oMv 28 0, oNc 29 28, oFd 30 0 29, oLf 31 1 30, oMv 32 8, oIx 33 5 31 32, oLt 34 5 33, oSo 5 6 34, ⟨some 7, .move (.const (.bool true)), none⟩]) .ret)))))⟩
abbrev f_loessref10_EqRecs : FuncId := 20
def L_loessref10_EqRecs_0 : RCode := (.seq (.seq (.region [oMv 11 5, oMv 12 0, oLn 13 1 12, oLs 14 11 13]) (.cond (.tmp 14) .skip (.exit 0))) (.seq (.block 1 (.seq (.region [oMv 17 0, oMv 18 5, oIx 19 5 17 18, oLt 20 5 19, oMv 21 1, oMv 22 5, oIx 23 5 21 22, oLt 24 5 23, oK2 25 25 20 24, oUn 26 25]) (.cond (.tmp 26) (.seq (.region [oMf 4]) .ret) .skip))) (.region [oMv 15 5, oAi 16 15 1, oMv 5 16])))
def c_loessref10_EqRecs : RFunc := ⟨27, [(4, none)], (.seq (.region [oMf 4]) (.seq (.seq (.region [oMv 6 0, oLn 7 1 6, oMv 8 1, oLn 9 1 8, ⟨some 10, .bin .neq (.tmp 7) (.tmp 9), none⟩]) (.cond (.tmp 10) (.seq (.region [oMf 4]) .ret) .skip)) (.seq (.seq (.region [oMi 5 0]) (.block 0 (.loop L_loessref10_EqRecs_0))) (.seq (.region [⟨some 4, .move (.const (.bool true)), none⟩]) .ret))))⟩
abbrev f_hashstore_Store_List : FuncId := 21
def c_hashstore_Store_List : RFunc := ⟨10, [(2, none)], (.seq (.region [oNs 2]) (.seq (.seq (.region [oMv 3 0, ⟨some 4, .eqN false 0 (.tmp 3) (.const (.pointer none)), none⟩]) (.cond (.tmp 4) (.seq (.region [oNs 2]) .ret) .skip)) (.seq (.region [oMv 5 0, oNc 6 5, oFd 7 0 6, oLt 8 192 7, oK1 9 51 8, oMv 2 9]) .ret)))⟩
abbrev f_logstore_Log_List : FuncId := 22
def c_logstore_Log_List : RFunc := ⟨10, [(2, none)], (.seq (.region [oNs 2]) (.seq (.seq (.region [oMv 3 0, ⟨some 4, .eqN false 0 (.tmp 3) (.const (.pointer none)), none⟩]) (.cond (.tmp 4) (.seq (.region [oNs 2]) .ret) .skip)) (.seq (.region [oMv 5 0, oNc 6 5, oFd 7 0 6, oLf 8 1 7, oK1 9 52 8, oMv 2 9]) .ret)))⟩
abbrev f_hashstore_Store_Get : FuncId := 23
def L_hashstore_Store_Get_0 : RCode := (.seq (.region [oLs 13 12 11]) (.seq (.cond (.tmp 13) .skip (.exit 0)) (.seq (.block 1 (.seq (.region [oIx 14 5 10 12, oLt 15 5 14, ⟨some 7, .new 28 [.string ⟨#[]⟩, .bool false, .int .i64 0, .int .i64 0, .string ⟨#[]⟩], none⟩, oSo 5 7 15]) (.seq (.region [oFd 16 0 7, oLf 17 1 16, oMv 18 1, ⟨some 19, .bin .eql (.tmp 17) (.tmp 18), none⟩]) (.cond (.tmp 19) (.seq (.region [oLt 20 5 7, oSo 5 4 20, ⟨some 5, .move (.const (.bool true)), none⟩]) .ret) .skip)))) (.region [oAi 21 12 1, oMv 12 21]))))
def c_hashstore_Store_Get : RFunc := ⟨23, [(4, some (true, 5)), (5, none)], (.seq (.region [⟨some 4, .new 28 [.string ⟨#[]⟩, .bool false, .int .i64 0, .int .i64 0, .string ⟨#[]⟩], none⟩, oMf 5]) (.seq (.seq (.region [oMv 8 0, oMv 9 1, oK2 10 53 8 9, oLn 11 1 10, oMi 12 0]) (.block 0 (.loop L_hashstore_Store_Get_0))) (.seq (.region [⟨some 22, .build [.string ⟨#[]⟩, .bool false, .int .i64 0, .int .i64 0, .string ⟨#[]⟩] [], none⟩, oSo 5 4 22, oMf 5]) .ret)))⟩
abbrev f_logstore_Log_Get : FuncId := 24
def c_logstore_Log_Get : RFunc := ⟨20, [(4, some (true, 5)), (5, none)], (.seq (.region [⟨some 4, .new 28 [.string ⟨#[]⟩, .bool false, .int .i64 0, .int .i64 0, .string ⟨#[]⟩], none⟩, oMf 5]) (.seq (.region [oMv 7 0, oMv 8 1, oK2 9 48 7 8, oMv 6 9]) (.seq (.seq (.region [oMv 10 6, oLi 11 10 0]) (.cond (.tmp 11) (.seq (.region [⟨some 12, .build [.string ⟨#[]⟩, .bool false, .int .i64 0, .int .i64 0, .string ⟨#[]⟩] [], none⟩, oSo 5 4 12, oMf 5]) .ret) .skip)) (.seq (.region [oMv 13 0, oNc 14 13, oFd 15 0 14, oLf 16 1 15, oMv 17 6, oIx 18 5 16 17, oLt 19 5 18, oSo 5 4 19, ⟨some 5, .move (.const (.bool true)), none⟩]) .ret))))⟩
abbrev f_loessref10_Eq : FuncId := 25
def c_loessref10_Eq : RFunc := ⟨24, [(4, none)], (.seq (.region [oBx 2 28 0, oBx 3 28 1, oMf 4]) (.seq (.region [oFd 5 0 2, oLf 6 1 5, oFd 7 0 3, oLf 8 1 7, ⟨some 9, .bin .eql (.tmp 6) (.tmp 8), none⟩, oMv 10 9, oGf 11 1 2 10 true, oGl 12 1 11 10 true, oGf 13 1 3 10 true, oGl 14 1 13 10 true, ⟨some 15, .eqB false (.tmp 12) (.tmp 14), some (10, true)⟩, oPf 16 10 15, oMv 17 16, oGf 18 2 2 17 true, ⟨some 19, .load true 3 (.tmp 18), some (17, true)⟩, oGf 20 2 3 17 true, ⟨some 21, .load true 3 (.tmp 20), some (17, true)⟩, ⟨some 22, .call (.fn 54) [.tmp 19, .tmp 21], some (17, true)⟩, oPf 23 17 22, oMv 4 23]) .ret))⟩
abbrev f_hashstore_Store_Reads : FuncId := 26
def c_hashstore_Store_Reads : RFunc := ⟨9, [(4, none)], (.seq (.region [oMi 4 0]) (.seq (.region [oMv 5 0, oMv 6 1, oK2 7 53 5 6, oLn 8 1 7, oMv 4 8]) .ret))⟩
abbrev f_logstore_Log_Reads : FuncId := 27
def c_logstore_Log_Reads : RFunc := ⟨15, [(4, none)], (.seq (.region [oMi 4 0]) (.seq (.seq (.region [oMv 5 0, ⟨some 6, .eqN false 0 (.tmp 5) (.const (.pointer none)), none⟩]) (.cond (.tmp 6) (.seq (.region [oMi 4 0]) .ret) .skip)) (.seq (.drawn [oMv 7 0, oNc 8 7, oFd 9 1 8, oLf 10 1 9, oMv 11 1, oK1 12 40 11, oK2 13 55 10 12, oLn 14 1 13, oMv 4 14] [(3, (5, false))]) .ret)))⟩
abbrev f_loesslaw19_Begun : FuncId := 28
def c_loesslaw19_Begun : RFunc := ⟨2, [(0, none)], (.seq (.region [oMf 0]) (.seq (.region [⟨some 1, .call (.fn 56) [], none⟩, oMv 0 1]) .ret))⟩
abbrev f_loesslaw10_Cut : FuncId := 29
def c_loesslaw10_Cut : RFunc := ⟨12, [(2, some (true, 5))], (.seq (.region [oBx 1 28 0, ⟨some 2, .new 28 [.string ⟨#[]⟩, .bool false, .int .i64 0, .int .i64 0, .string ⟨#[]⟩], none⟩]) (.seq (.drawn [oFd 3 0 1, oLf 4 1 3, ⟨some 5, .call (.fn 8) [.tmp 4, .const (.int .i64 20)], none⟩, oFd 6 2 1, oLt 7 3 6, oK1 8 57 7, oFd 9 0 1, oSo 1 9 5, oFd 10 2 1, oSo 3 10 8] [(2, (4, true))]) (.seq (.region [oLt 11 5 1, oSo 5 2 11]) .ret)))⟩
abbrev f_loessref10_Find : FuncId := 30
def L_loessref10_Find_0 : RCode := (.seq (.seq (.region [oMv 7 6, oMv 8 0, oLn 9 1 8, oLs 10 7 9]) (.cond (.tmp 10) .skip (.exit 0))) (.seq (.block 1 (.seq (.region [oMv 13 0, oMv 14 6, oIx 15 5 13 14, oFd 16 0 15, oLf 17 1 16, oMv 18 1, ⟨some 19, .bin .eql (.tmp 17) (.tmp 18), none⟩]) (.cond (.tmp 19) (.seq (.region [oMv 20 0, oMv 21 6, oIx 22 5 20 21, oLt 23 5 22, oSo 5 4 23, ⟨some 5, .move (.const (.bool true)), none⟩]) .ret) .skip))) (.region [oMv 11 6, oAi 12 11 1, oMv 6 12])))
def c_loessref10_Find : RFunc := ⟨25, [(4, some (true, 5)), (5, none)], (.seq (.region [⟨some 4, .new 28 [.string ⟨#[]⟩, .bool false, .int .i64 0, .int .i64 0, .string ⟨#[]⟩], none⟩, oMf 5]) (.seq (.seq (.region [oMi 6 0]) (.block 0 (.loop L_loessref10_Find_0))) (.seq (.region [⟨some 24, .build [.string ⟨#[]⟩, .bool false, .int .i64 0, .int .i64 0, .string ⟨#[]⟩] [], none⟩, oSo 5 4 24, oMf 5]) .ret)))⟩
abbrev f_loessref10_Records : FuncId := 31
def L_loessref10_Records_0 : RCode := (.seq (.seq (.region [oMv 5 4, oLi 6 5 32]) (.cond (.tmp 6) .skip (.exit 0))) (.seq (.block 1 (.seq (.region [oMv 9 4, ⟨some 10, .bin .quo (.tmp 9) (.const (.int .i64 4)), none⟩, oMv 11 4, ⟨some 12, .bin .rem (.tmp 11) (.const (.int .i64 4)), none⟩, oIa 13 8 24 1 10, oIa 14 4 6 13 12, oFd 15 0 14, oLf 16 1 15]) (.cond (.tmp 16) (.region [oMv 17 3, oMv 18 4, ⟨some 19, .bin .quo (.tmp 18) (.const (.int .i64 4)), none⟩, oMv 20 4, ⟨some 21, .bin .rem (.tmp 20) (.const (.int .i64 4)), none⟩, oIa 22 8 24 1 19, oIa 23 4 6 22 21, oFd 24 1 23, oLt 25 5 24, oK2 26 58 17 25, oMv 3 26]) .skip))) (.region [oMv 7 4, oAi 8 7 1, oMv 4 8])))
def c_loessref10_Records : RFunc := ⟨28, [(2, none)], (.seq (.region [oBx 1 33 0, oNs 2]) (.seq (.region [oNs 3]) (.seq (.seq (.region [oMi 4 0]) (.block 0 (.loop L_loessref10_Records_0))) (.seq (.region [oMv 27 3, oMv 2 27]) .ret))))⟩
abbrev f_loessref10_May : FuncId := 32
def c_loessref10_May : RFunc := ⟨28, [(2, none)], (.seq (.region [oBx 1 28 0, oMf 2]) (.seq (.seq (.region [oFd 3 0 1, oLf 4 1 3, oK1 5 59 4, oUn 6 5]) (.cond (.tmp 6) (.seq (.region [oMf 2]) .ret) .skip)) (.seq (.seq (.region [oFd 7 1 1, oLf 8 1 7]) (.cond (.tmp 8) (.seq (.region [oFd 9 2 1, oFd 10 0 9, oLf 11 1 10, oEi 12 11 0, oMv 13 12, oGf 14 2 1 13 true, oGf 15 1 14 13 true, oGl 16 1 15 13 true, ⟨some 17, .bin .eql (.tmp 16) (.const (.int .i64 0)), some (13, true)⟩, oPf 18 13 17, oMv 19 18, oGf 20 2 1 19 true, oGf 21 2 20 19 true, oGl 22 1 21 19 true, ⟨some 23, .bin .eql (.tmp 22) (.const (.string ⟨#[]⟩)), some (19, true)⟩, oPf 24 19 23, oMv 2 24]) .ret) .skip)) (.seq (.region [oFd 25 2 1, oLt 26 3 25, oK1 27 60 26, oMv 2 27]) .ret))))⟩
abbrev f_loessref6_Hash : FuncId := 33
def L_loessref6_Hash_0 : RCode := (.seq (.seq (.region [oMv 12 6, oMv 13 4, oLn 14 1 13, oLs 15 12 14]) (.cond (.tmp 15) .skip (.exit 0))) (.seq (.block 1 (.region [oMv 18 3, oMv 19 4, oMv 20 6, oIx 21 1 19 20, oLf 22 1 21, ⟨some 23, .conv .u64 (.tmp 22), none⟩, ⟨some 24, .bin .xor (.tmp 18) (.tmp 23), none⟩, ⟨some 25, .bin .mul (.tmp 24) (.const (.int .u64 1099511628211)), none⟩, oMv 3 25])) (.region [oMv 16 6, oAi 17 16 1, oMv 6 17])))
def c_loessref6_Hash : RFunc := ⟨36, [(2, none)], (.seq (.region [⟨some 2, .move (.const (.int .u64 0)), none⟩]) (.seq (.region [⟨some 3, .move (.const (.int .u64 14695981039346656037)), none⟩]) (.seq (.region [oMv 8 0, oK1 9 61 8, oMv 7 9, oXt 10 7 0, oXt 11 7 1, oMv 4 10, oMv 5 11]) (.seq (.seq (.region [oMi 6 0]) (.block 0 (.loop L_loessref6_Hash_0))) (.seq (.region [oMv 26 3, oMv 27 3, ⟨some 28, .bin .shr (.tmp 27) (.const (.int .u64 32)), none⟩, ⟨some 29, .bin .xor (.tmp 26) (.tmp 28), none⟩, oMv 3 29]) (.seq (.region [oMv 30 3, ⟨some 31, .bin .mul (.tmp 30) (.const (.int .u64 11400714819323198485)), none⟩, oMv 3 31]) (.seq (.region [oMv 32 3, oMv 33 3, ⟨some 34, .bin .shr (.tmp 33) (.const (.int .u64 29)), none⟩, ⟨some 35, .bin .xor (.tmp 32) (.tmp 34), none⟩, oMv 2 35]) .ret)))))))⟩
abbrev f_loessref6_First : FuncId := 34
def c_loessref6_First : RFunc := ⟨6, [(2, none)], (.seq (.region [oMi 2 0]) (.seq (.region [oMv 3 0, ⟨some 4, .bin .rem (.tmp 3) (.const (.int .u64 8)), none⟩, ⟨some 5, .conv .i64 (.tmp 4), none⟩, oMv 2 5]) .ret))⟩
abbrev f_loessref6_Other : FuncId := 35
def c_loessref6_Other : RFunc := ⟨24, [(4, none)], (.seq (.region [oMi 4 0]) (.seq (.seq (.region [oMv 5 0, oLi 6 5 0, oMv 7 6, oMg 8 0 7 false, ⟨some 9, .bin .gtr (.tmp 8) (.const (.int .i64 7)), some (7, false)⟩, oPt 10 7 9, oMv 11 10, oMg 12 1 11 false, ⟨some 13, .bin .lss (.tmp 12) (.const (.int .i64 0)), some (11, false)⟩, oPt 14 11 13, oMv 15 14, oMg 16 1 15 false, ⟨some 17, .bin .gtr (.tmp 16) (.const (.int .i64 32767)), some (15, false)⟩, oPt 18 15 17]) (.cond (.tmp 18) (.seq (.region [oMi 4 (-1)]) .ret) .skip)) (.seq (.region [oMv 19 0, oMv 20 1, ⟨some 21, .bin .rem (.tmp 20) (.const (.int .i64 7)), none⟩, ⟨some 22, .bin .add (.const (.int .i64 1)) (.tmp 21), none⟩, ⟨some 23, .bin .xor (.tmp 19) (.tmp 22), none⟩, oMv 4 23]) .ret)))⟩
abbrev f_loessref6_Tag : FuncId := 36
def c_loessref6_Tag : RFunc := ⟨7, [(2, none)], (.seq (.region [oMi 2 0]) (.seq (.region [oMv 3 0, ⟨some 4, .bin .quo (.tmp 3) (.const (.int .u64 256)), none⟩, ⟨some 5, .bin .rem (.tmp 4) (.const (.int .u64 32768)), none⟩, ⟨some 6, .conv .i64 (.tmp 5), none⟩, oMv 2 6]) .ret))⟩
abbrev f_order_May : FuncId := 37
def L_order_May_1 : RCode := (.seq (.region [oLi 15 14 4]) (.seq (.cond (.tmp 15) .skip (.exit 2)) (.seq (.block 3 (.seq (.region [⟨some 16, .idxV 4 true 6 (.tmp 13) (.tmp 14), none⟩, ⟨some 7, .new 40 [.bool false, .string ⟨#[]⟩, .bool false, .int .i64 0, .int .i64 0, .string ⟨#[]⟩], none⟩, oSo 6 7 16]) (.seq (.seq (.region [oFd 17 0 7, oLf 18 1 17, oUn 19 18]) (.cond (.tmp 19) (.seq (.seq (.region [oFd 20 1 7, oLt 21 5 20, ⟨some 22, .build [.string ⟨#[]⟩, .bool false, .int .i64 0, .int .i64 0, .string ⟨#[]⟩] [], none⟩, ⟨some 23, .eqA true [.s, .b, .i, .i, .s] (.tmp 21) (.tmp 22), none⟩]) (.cond (.tmp 23) (.seq (.region [oMf 2]) .ret) .skip)) (.exit 3)) .skip)) (.seq (.seq (.region [oFd 24 1 7, oLt 25 5 24, oK1 26 47 25, oUn 27 26, oMv 28 27, oGf 29 1 7 28 false, oGf 30 0 29 28 false, oGl 31 1 30 28 false, oMg 32 4 28 false, ⟨some 33, .call (.fn 62) [.tmp 31, .tmp 32], some (28, false)⟩, ⟨some 34, .un .not (.tmp 33), some (28, false)⟩, oPt 35 28 34, oMv 36 35, oMg 37 3 36 false, oGf 38 1 7 36 false, oGf 39 0 38 36 false, oGl 40 1 39 36 false, ⟨some 41, .call (.fn 63) [.tmp 37, .tmp 40], some (36, false)⟩, oPt 42 36 41]) (.cond (.tmp 42) (.seq (.region [oMf 2]) .ret) .skip)) (.region [oMv 43 3, oFd 44 1 7, oFd 45 0 44, oLf 46 1 45, ⟨some 47, .lit 9 1 1 [.string ⟨#[]⟩] [(0, (1, .tmp 46))], none⟩, oAp 48 9 1 16 43 47, oMv 3 48]))))) (.region [oAi 49 14 1, oMv 14 49]))))
def L_order_May_0 : RCode := (.seq (.region [oLi 10 9 8]) (.seq (.cond (.tmp 10) .skip (.exit 0)) (.seq (.block 1 (.seq (.region [oMv 11 9, ⟨some 12, .idxV 8 true 24 (.tmp 8) (.tmp 9), none⟩, ⟨some 5, .new 41 ZL1, none⟩, oMv 4 11, oSo 24 5 12]) (.seq (.region [oLt 13 24 5, oMi 14 0]) (.block 2 (.loop L_order_May_1))))) (.region [oAi 50 9 1, oMv 9 50]))))
def c_order_May : RFunc := ⟨51, [(2, none)], (.seq (.region [oBx 1 43 0, oMf 2]) (.seq (.region [oNs 3]) (.seq (.seq (.region [oLt 8 192 1, oMi 9 0]) (.block 0 (.loop L_order_May_0))) (.seq (.region [⟨some 2, .move (.const (.bool true)), none⟩]) .ret))))⟩
abbrev f_bits_Bits_Put : FuncId := 38
def c_bits_Bits_Put : RFunc := ⟨49, [], (.seq (.seq (.region [oMv 4 0, ⟨some 5, .eqN false 0 (.tmp 4) (.const (.pointer none)), none⟩]) (.cond (.tmp 5) .ret .skip)) (.seq (.seq (.region [oMv 6 0, oNc 7 6, oFd 8 1 7, oLf 9 1 8, ⟨some 10, .bin .rem (.tmp 9) (.const (.int .i64 8)), none⟩, oEi 11 10 0]) (.cond (.tmp 11) (.region [oMv 12 0, oMv 13 0, oNc 14 13, oFd 15 0 14, oLf 16 1 15, ⟨some 17, .lit 5 1 1 [.int .u8 0] [(0, (1, .const (.int .u8 0)))], none⟩, oAp 18 5 1 1 16 17, oNc 19 12, oFd 20 0 19, oSo 1 20 18]) .skip)) (.seq (.seq (.region [oMv 21 1]) (.cond (.tmp 21) (.region [oMv 22 0, oNc 23 22, oFd 24 0 23, oLf 25 1 24, oMv 26 0, oNc 27 26, oFd 28 1 27, oLf 29 1 28, ⟨some 30, .bin .quo (.tmp 29) (.const (.int .i64 8)), none⟩, oIx 31 1 25 30, oLf 32 1 31, oMv 33 0, oNc 34 33, oFd 35 1 34, oLf 36 1 35, ⟨some 37, .bin .rem (.tmp 36) (.const (.int .i64 8)), none⟩, ⟨some 38, .bin .sub (.const (.int .i64 7)) (.tmp 37), none⟩, ⟨some 39, .bin .shl (.const (.int .u8 1)) (.tmp 38), none⟩, ⟨some 40, .bin .or (.tmp 32) (.tmp 39), none⟩, oIx 41 1 25 30, oSo 1 41 40]) .skip)) (.region [oMv 42 0, oNc 43 42, oFd 44 1 43, oLf 45 1 44, oAi 46 45 1, oNc 47 42, oFd 48 1 47, oSo 1 48 46]))))⟩
abbrev f_hash_Tag : FuncId := 39
def c_hash_Tag : RFunc := ⟨7, [(2, none)], (.seq (.region [oMi 2 0]) (.seq (.region [oMv 3 0, ⟨some 4, .bin .shr (.tmp 3) (.const (.int .u64 8)), none⟩, ⟨some 5, .bin .rem (.tmp 4) (.const (.int .u64 32768)), none⟩, ⟨some 6, .conv .i64 (.tmp 5), none⟩, oMv 2 6]) .ret))⟩
abbrev f_hash_Of : FuncId := 40
def L_hash_Of_0 : RCode := (.seq (.region [oLs 10 9 8]) (.seq (.cond (.tmp 10) .skip (.exit 0)) (.seq (.block 1 (.seq (.region [oIx 11 1 7 9, oLf 12 1 11, oMv 5 12]) (.region [oMv 13 3, oMv 14 5, ⟨some 15, .conv .u64 (.tmp 14), none⟩, ⟨some 16, .bin .xor (.tmp 13) (.tmp 15), none⟩, ⟨some 17, .bin .mul (.tmp 16) (.const (.int .u64 1099511628211)), none⟩, oMv 3 17]))) (.region [oAi 18 9 1, oMv 9 18]))))
def c_hash_Of : RFunc := ⟨28, [(2, none)], (.seq (.region [⟨some 2, .move (.const (.int .u64 0)), none⟩]) (.seq (.region [⟨some 3, .move (.const (.int .u64 14695981039346656037)), none⟩]) (.seq (.seq (.region [oMv 6 0, oK1 7 64 6, oLn 8 1 7, oMi 9 0]) (.block 0 (.loop L_hash_Of_0))) (.seq (.region [oMv 19 3, oMv 20 3, ⟨some 21, .bin .shr (.tmp 20) (.const (.int .u64 32)), none⟩, ⟨some 22, .bin .xor (.tmp 19) (.tmp 21), none⟩, ⟨some 23, .bin .mul (.tmp 22) (.const (.int .u64 11400714819323198485)), none⟩, oMv 3 23]) (.seq (.region [oMv 24 3, oMv 25 3, ⟨some 26, .bin .shr (.tmp 25) (.const (.int .u64 29)), none⟩, ⟨some 27, .bin .xor (.tmp 24) (.tmp 26), none⟩, oMv 2 27]) .ret)))))⟩
abbrev f_rank_New : FuncId := 41
def L_rank_New_0 : RCode := (.seq (.region [oLs 12 11 10]) (.seq (.cond (.tmp 12) .skip (.exit 0)) (.seq (.block 1 (.seq (.region [oMv 13 11, oMv 4 13]) (.seq (.region [oMv 14 3, oNc 15 14, oFd 16 0 15, oLf 17 1 16, oMv 18 4, oIx 19 1 17 18, oLf 20 1 19, oMv 5 20]) (.seq (.seq (.region [oMv 21 0, oMv 22 4, oK2 23 66 21 22]) (.cond (.tmp 23) (.region [oMv 24 5, oAi 25 24 1, oMv 5 25]) .skip)) (.region [oMv 26 3, oMv 27 3, oNc 28 27, oFd 29 0 28, oLf 30 1 29, oMv 31 5, ⟨some 32, .lit 3 1 1 [.int .i64 0] [(0, (1, .tmp 31))], none⟩, oAp 33 3 1 8 30 32, oNc 34 26, oFd 35 0 34, oSo 1 35 33]))))) (.region [oAi 36 11 1, oMv 11 36]))))
def c_rank_New : RFunc := ⟨38, [(2, none)], (.seq (.region [⟨some 2, .move (.const (.pointer none)), none⟩]) (.seq (.region [⟨some 6, .lit 3 1 1 [.int .i64 0] [(0, (1, .const (.int .i64 0)))], none⟩, ⟨some 7, .build [.slice none 0 0] [(0, (1, .tmp 6))], none⟩, oBx 8 113 7, oMv 3 8]) (.seq (.seq (.region [oMv 9 0, oK1 10 65 9, oMi 11 0]) (.block 0 (.loop L_rank_New_0))) (.seq (.region [oMv 37 3, oMv 2 37]) .ret))))⟩
abbrev f_order_Decode : FuncId := 44
def L_order_Decode_0 : RCode := (.seq (.region [oLi 24 23 32]) (.seq (.cond (.tmp 24) .skip (.exit 0)) (.seq (.block 1 (.seq (.region [oMv 25 23, oMv 8 25]) (.seq (.seq (.region [oMv 26 4, oMv 27 8, oK2 28 66 26 27, oUn 29 28]) (.cond (.tmp 29) (.exit 1) .skip)) (.seq (.seq (.region [oMv 30 0, oLn 31 1 30, oMv 32 7, ⟨some 33, .bin .sub (.tmp 31) (.tmp 32), none⟩, oLi 34 33 2]) (.cond (.tmp 34) (.seq (.region [⟨some 35, .build ZL0 [], none⟩, oSo 192 2 35, oMi 3 8]) .ret) .skip)) (.seq (.region [oMv 37 0, oMv 38 7, oAi 39 38 2, ⟨some 40, .cut 1 (.tmp 37) (some (.tmp 39)) none none, none⟩, oK1 41 72 40, oMv 36 41, oXt 42 36 0, oXt 43 36 1, oXt 44 36 2, ⟨some 9, .new 28 [.string ⟨#[]⟩, .bool false, .int .i64 0, .int .i64 0, .string ⟨#[]⟩], none⟩, oSo 5 9 42, oMv 10 43, oMv 11 44]) (.seq (.seq (.region [oMv 45 11, oNi 46 45 0]) (.cond (.tmp 46) (.seq (.region [⟨some 47, .build ZL0 [], none⟩, oSo 192 2 47, oMi 3 8]) .ret) .skip)) (.seq (.region [oMv 48 8, ⟨some 49, .bin .quo (.tmp 48) (.const (.int .i64 4)), none⟩, oMv 50 8, ⟨some 51, .bin .rem (.tmp 50) (.const (.int .i64 4)), none⟩, oLt 52 5 9, ⟨some 53, .build [.bool false, .string ⟨#[]⟩, .bool false, .int .i64 0, .int .i64 0, .string ⟨#[]⟩] [(0, (1, .const (.bool true))), (1, (5, .tmp 52))], none⟩, oIa 54 8 24 6 49, oIa 55 4 6 54 51, oSo 6 55 53]) (.region [oMv 56 7, oMv 57 10, ⟨some 58, .bin .add (.const (.int .i64 2)) (.tmp 57), none⟩, ⟨some 59, .bin .add (.tmp 56) (.tmp 58), none⟩, oMv 7 59])))))))) (.region [oAi 60 23 1, oMv 23 60]))))
def c_order_Decode : RFunc := ⟨73, [(2, some (true, 192)), (3, none)], (.seq (.region [⟨some 2, .new 43 ZL0, none⟩, oMi 3 0]) (.seq (.seq (.region [oMv 13 0, oLn 14 1 13, oLi 15 14 4]) (.cond (.tmp 15) (.seq (.region [⟨some 16, .build ZL0 [], none⟩, oSo 192 2 16, oMi 3 8]) .ret) .skip)) (.seq (.region [oMv 18 0, ⟨some 19, .cut 1 (.tmp 18) none (some (.const (.int .i64 4))) none, none⟩, ⟨some 20, .call (.fn 71) [.tmp 19, .const (.int .i64 32)], none⟩, oMv 17 20, oXt 21 17 0, oXt 22 17 1, oMv 4 21, oMv 5 22]) (.seq (.region [⟨some 6, .new 43 ZL0, none⟩]) (.seq (.region [oMi 7 4]) (.seq (.seq (.region [oMi 23 0]) (.block 0 (.loop L_order_Decode_0))) (.seq (.seq (.region [oLt 61 192 6, oK1 62 45 61, oMv 12 62]) (.seq (.region [oMv 63 12, ⟨some 64, .eqN false 1 (.tmp 63) (.const (.slice none 0 0)), none⟩, oMv 65 64, oMg 66 12 65 false, oMg 67 0 65 false, ⟨some 68, .call (.fn 73) [.tmp 66, .tmp 67], some (65, false)⟩, ⟨some 69, .un .not (.tmp 68), some (65, false)⟩, oPt 70 65 69]) (.cond (.tmp 70) (.seq (.region [⟨some 71, .build ZL0 [], none⟩, oSo 192 2 71, oMi 3 8]) .ret) .skip))) (.seq (.region [oLt 72 192 6, oSo 192 2 72, oMi 3 0]) .ret))))))))⟩
abbrev f_order_Encode : FuncId := 45
def L_order_Encode_1 : RCode := (.seq (.region [oLi 21 20 4]) (.seq (.cond (.tmp 21) .skip (.exit 2)) (.seq (.block 3 (.seq (.region [⟨some 22, .idxV 4 true 6 (.tmp 19) (.tmp 20), none⟩, ⟨some 8, .new 40 [.bool false, .string ⟨#[]⟩, .bool false, .int .i64 0, .int .i64 0, .string ⟨#[]⟩], none⟩, oSo 6 8 22]) (.seq (.region [oMv 23 3, oFd 24 0 8, oLf 25 1 24, oK2 26 38 23 25]) (.seq (.region [oFd 27 0 8, oLf 28 1 27]) (.cond (.tmp 28) (.seq (.region [oFd 29 1 8, oFd 30 0 29, oLf 31 1 30, oK1 32 40 31, oK1 33 39 32, oMv 9 33]) (.drawn [oMv 34 4, oMv 35 9, ⟨some 36, .bin .shr (.tmp 35) (.const (.int .u64 8)), none⟩, ⟨some 37, .conv .u8 (.tmp 36), none⟩, oMv 38 9, ⟨some 39, .conv .u8 (.tmp 38), none⟩, ⟨some 40, .lit 5 1 2 [.int .u8 0, .int .u8 0] [(0, (1, .tmp 37)), (1, (1, .tmp 39))], none⟩, oAp 41 5 1 1 34 40, oFd 42 1 8, oLt 43 5 42, oK2 44 74 41 43, oMv 4 44] [(6, (9, true)), (7, (9, true))])) .skip))))) (.region [oAi 45 20 1, oMv 20 45]))))
def L_order_Encode_0 : RCode := (.seq (.region [oLi 17 16 8]) (.seq (.cond (.tmp 17) .skip (.exit 0)) (.seq (.block 1 (.seq (.region [⟨some 18, .idxV 8 true 24 (.tmp 15) (.tmp 16), none⟩, ⟨some 6, .new 41 ZL1, none⟩, oSo 24 6 18]) (.seq (.region [oLt 19 24 6, oMi 20 0]) (.block 2 (.loop L_order_Encode_1))))) (.region [oAi 46 16 1, oMv 16 46]))))
def c_order_Encode : RFunc := ⟨51, [(2, none)], (.seq (.region [oBx 1 43 0, oNs 2]) (.seq (.seq (.region [oLt 10 192 1, oK1 11 37 10, oUn 12 11]) (.cond (.tmp 12) (.seq (.region [oNs 2]) .ret) .skip)) (.seq (.region [⟨some 13, .build [.slice none 0 0, .int .i64 0] [], none⟩, oBx 14 80 13, oMv 3 14]) (.seq (.region [oNs 4]) (.seq (.seq (.region [oLt 15 192 1, oMi 16 0]) (.block 0 (.loop L_order_Encode_0))) (.seq (.region [oMv 47 3, oK1 48 75 47, oMv 49 4, oAp 50 5 1 1 48 49, oMv 2 50]) .ret))))))⟩
abbrev f_cuckoo_New : FuncId := 46
def c_cuckoo_New : RFunc := ⟨3, [(0, none)], (.seq (.region [⟨some 0, .move (.const (.pointer none)), none⟩]) (.seq (.region [⟨some 1, .build ZL2 [], none⟩, oBx 2 130 1, oMv 0 2]) .ret))⟩
abbrev f_record_May : FuncId := 47
def c_record_May : RFunc := ⟨23, [(2, none)], (.seq (.region [oBx 1 28 0, oMf 2]) (.seq (.seq (.region [oFd 5 0 1, oLf 6 1 5, oK1 7 76 6, oUn 8 7]) (.cond (.tmp 8) (.seq (.region [oMf 2]) .ret) .skip)) (.seq (.seq (.region [oFd 9 1 1, oLf 10 1 9]) (.cond (.tmp 10) (.seq (.region [oFd 11 2 1, oLt 12 3 11, ⟨some 13, .build [.int .i64 0, .int .i64 0, .string ⟨#[]⟩] [], none⟩, ⟨some 14, .eqA false [.i, .i, .s] (.tmp 12) (.tmp 13), none⟩, oMv 2 14]) .ret) .skip)) (.seq (.region [oFd 16 2 1, oLt 17 3 16, oK1 18 77 17, oMv 15 18, oXt 19 15 0, oXt 20 15 1, ⟨some 3, .new 132 [.nilIface], none⟩, oSo 1 3 19, oMv 4 20]) (.seq (.region [oMv 21 4, oEi 22 21 0, oMv 2 22]) .ret)))))⟩
abbrev f_logstore_Log_find : FuncId := 48
def L_logstore_Log_find_0 : RCode := (.seq (.region [oLs 18 17 16]) (.seq (.cond (.tmp 18) .skip (.exit 0)) (.seq (.block 1 (.seq (.region [oIx 19 1 15 17, oLf 20 1 19, oMv 6 20]) (.seq (.region [oMv 21 0, oNc 22 21, oFd 23 0 22, oLf 24 1 23, oMv 25 6, oIx 26 5 24 25, oFd 27 0 26, oLf 28 1 27, oMv 29 1, ⟨some 30, .bin .eql (.tmp 28) (.tmp 29), none⟩]) (.cond (.tmp 30) (.seq (.region [oMv 31 6, oMv 4 31]) .ret) .skip)))) (.region [oAi 32 17 1, oMv 17 32]))))
def c_logstore_Log_find : RFunc := ⟨33, [(4, none)], (.seq (.region [oMi 4 0]) (.seq (.seq (.region [oMv 7 0, ⟨some 8, .eqN false 0 (.tmp 7) (.const (.pointer none)), none⟩]) (.cond (.tmp 8) (.seq (.region [oMi 4 (-1)]) .ret) .skip)) (.seq (.seq (.drawn [oMv 9 0, oNc 10 9, oFd 11 1 10, oLf 12 1 11, oMv 13 1, oK1 14 40 13, oK2 15 55 12 14, oLn 16 1 15, oMi 17 0] [(3, (5, false))]) (.block 0 (.loop L_logstore_Log_find_0))) (.seq (.region [oMi 4 (-1)]) .ret))))⟩
abbrev f_cuckoo_Dir_Insert : FuncId := 49
def L_cuckoo_Dir_Insert_0 : RCode := (.seq (.seq (.region [oMv 29 8, oMv 30 7, ⟨some 31, .look .i (.agg #[.int .i64 0, .int .i64 0]) false (.tmp 29) (.tmp 30), none⟩, ⟨some 32, .part false 0 1 (.tmp 31), none⟩, ⟨some 33, .bin .geq (.tmp 32) (.const (.int .i64 0)), none⟩]) (.cond (.tmp 33) .skip (.exit 0))) (.block 1 (.seq (.region [oMv 34 8, oMv 35 7, ⟨some 36, .look .i (.agg #[.int .i64 0, .int .i64 0]) false (.tmp 34) (.tmp 35), none⟩, ⟨some 10, .new 140 [.int .i64 0, .int .i64 0], none⟩, oSo 2 10 36]) (.seq (.region [oMv 37 0, oMv 38 7, oMv 39 9, oMv 40 0, oFd 41 0 10, oLf 42 1 41, oFd 43 1 10, oLf 44 1 43, oNc 45 40, oFd 46 0 45, oIa 47 8 12 46 42, oIa 48 4 3 47 44, oLt 49 3 48, oNc 50 37, oFd 51 0 50, oIa 52 8 12 51 38, oIa 53 4 3 52 39, oSo 3 53 49]) (.region [oFd 54 0 10, oLf 55 1 54, oFd 56 1 10, oLf 57 1 56, oMv 7 55, oMv 9 57])))))
def c_cuckoo_Dir_Insert : RFunc := ⟨76, [(6, none)], (.seq (.region [oMf 6]) (.seq (.seq (.region [oMv 11 0, ⟨some 12, .eqN false 0 (.tmp 11) (.const (.pointer none)), none⟩, oMv 13 12, oMg 14 2 13 false, ⟨some 15, .call (.fn 78) [.tmp 14], some (13, false)⟩, ⟨some 16, .un .not (.tmp 15), some (13, false)⟩, oPt 17 13 16]) (.cond (.tmp 17) (.seq (.region [oMf 6]) .ret) .skip)) (.seq (.region [oMv 19 0, oMv 20 1, oK2 21 79 19 20, oMv 18 21, oXt 22 18 0, oXt 23 18 1, oMv 7 22, oMv 8 23]) (.seq (.seq (.region [oMv 24 7, oLi 25 24 0]) (.cond (.tmp 25) (.seq (.region [oMf 6]) .ret) .skip)) (.seq (.region [oMv 26 0, oMv 27 7, oK2 28 80 26 27, oMv 9 28]) (.seq (.block 0 (.loop L_cuckoo_Dir_Insert_0)) (.seq (.region [oMv 58 0, oMv 59 7, oMv 60 9, oMv 61 2, oMv 62 1, oK1 63 39 62, ⟨some 64, .build [.bool false, .int .i64 0, .int .i64 0] [(0, (1, .const (.bool true))), (1, (1, .tmp 61)), (2, (1, .tmp 63))], none⟩, oNc 65 58, oFd 66 0 65, oIa 67 8 12 66 59, oIa 68 4 3 67 60, oSo 3 68 64]) (.seq (.region [oMv 69 0, oNc 70 69, oFd 71 96 70, oLf 72 1 71, oAi 73 72 1, oNc 74 69, oFd 75 96 74, oSo 1 75 73]) (.seq (.region [⟨some 6, .move (.const (.bool true)), none⟩]) .ret)))))))))⟩
abbrev f_cuckoo_Dir_At : FuncId := 50
def c_cuckoo_Dir_At : RFunc := ⟨42, [(6, none), (7, none), (8, none)], (.seq (.region [oMi 6 0, oMi 7 0, oMf 8]) (.seq (.seq (.region [oMv 10 0, ⟨some 11, .eqN false 0 (.tmp 10) (.const (.pointer none)), none⟩, oMv 12 11, oMg 13 1 12 false, ⟨some 14, .bin .lss (.tmp 13) (.const (.int .i64 0)), some (12, false)⟩, oPt 15 12 14, oMv 16 15, oMg 17 1 16 false, ⟨some 18, .bin .geq (.tmp 17) (.const (.int .i64 8)), some (16, false)⟩, oPt 19 16 18, oMv 20 19, oMg 21 2 20 false, ⟨some 22, .bin .lss (.tmp 21) (.const (.int .i64 0)), some (20, false)⟩, oPt 23 20 22, oMv 24 23, oMg 25 2 24 false, ⟨some 26, .bin .geq (.tmp 25) (.const (.int .i64 4)), some (24, false)⟩, oPt 27 24 26]) (.cond (.tmp 27) (.seq (.region [oMi 6 0, oMi 7 0, oMf 8]) .ret) .skip)) (.seq (.region [oMv 28 0, oMv 29 1, oMv 30 2, oNc 31 28, oFd 32 0 31, oIa 33 8 12 32 29, oIa 34 4 3 33 30, oLt 35 3 34, ⟨some 9, .new 126 [.bool false, .int .i64 0, .int .i64 0], none⟩, oSo 3 9 35]) (.seq (.region [oFd 36 1 9, oLf 37 1 36, oFd 38 2 9, oLf 39 1 38, oFd 40 0 9, oLf 41 1 40, oMv 6 37, oMv 7 39, oMv 8 41]) .ret))))⟩
abbrev f_order_List : FuncId := 51
def L_order_List_1 : RCode := (.seq (.region [oLi 14 13 4]) (.seq (.cond (.tmp 14) .skip (.exit 2)) (.seq (.block 3 (.seq (.region [⟨some 15, .idxV 4 true 6 (.tmp 12) (.tmp 13), none⟩, ⟨some 7, .new 40 [.bool false, .string ⟨#[]⟩, .bool false, .int .i64 0, .int .i64 0, .string ⟨#[]⟩], none⟩, oSo 6 7 15]) (.seq (.region [oFd 16 0 7, oLf 17 1 16]) (.cond (.tmp 17) (.region [oMv 18 3, oFd 19 1 7, oLt 20 5 19, ⟨some 21, .lit 28 5 1 [.string ⟨#[]⟩, .bool false, .int .i64 0, .int .i64 0, .string ⟨#[]⟩] [(0, (5, .tmp 20))], none⟩, oAp 22 28 5 56 18 21, oMv 3 22]) .skip)))) (.region [oAi 23 13 1, oMv 13 23]))))
def L_order_List_0 : RCode := (.seq (.region [oLi 10 9 8]) (.seq (.cond (.tmp 10) .skip (.exit 0)) (.seq (.block 1 (.seq (.region [⟨some 11, .idxV 8 true 24 (.tmp 8) (.tmp 9), none⟩, ⟨some 5, .new 41 ZL1, none⟩, oSo 24 5 11]) (.seq (.region [oLt 12 24 5, oMi 13 0]) (.block 2 (.loop L_order_List_1))))) (.region [oAi 24 9 1, oMv 9 24]))))
def c_order_List : RFunc := ⟨27, [(2, none)], (.seq (.region [oBx 1 43 0, oNs 2]) (.seq (.region [oNs 3]) (.seq (.seq (.region [oLt 8 192 1, oMi 9 0]) (.block 0 (.loop L_order_List_0))) (.seq (.region [oMv 25 3, oK1 26 52 25, oMv 2 26]) .ret))))⟩
abbrev f_record_Newest : FuncId := 52
def L_record_Newest_0 : RCode := (.seq (.region [oLs 13 12 11]) (.seq (.cond (.tmp 13) .skip (.exit 0)) (.seq (.block 1 (.seq (.region [oIx 14 5 10 12, oLt 15 5 14, ⟨some 5, .new 28 [.string ⟨#[]⟩, .bool false, .int .i64 0, .int .i64 0, .string ⟨#[]⟩], none⟩, oSo 5 5 15]) (.region [oMv 16 3, oFd 17 0 5, oLf 18 1 17, oLt 19 5 5, ⟨none, .upd .s (.tmp 16) (.tmp 18) (.tmp 19), none⟩]))) (.region [oAi 20 12 1, oMv 12 20]))))
def L_record_Newest_1 : RCode := (.seq (.region [oLs 26 25 24]) (.seq (.cond (.tmp 26) .skip (.exit 2)) (.seq (.block 3 (.seq (.region [oIx 27 1 23 25, oLf 28 1 27, oMv 8 28]) (.region [oMv 29 6, oMv 30 3, oMv 31 8, ⟨some 32, .look .s (.agg #[.string ⟨#[]⟩, .bool false, .int .i64 0, .int .i64 0, .string ⟨#[]⟩]) false (.tmp 30) (.tmp 31), none⟩, ⟨some 33, .lit 28 5 1 [.string ⟨#[]⟩, .bool false, .int .i64 0, .int .i64 0, .string ⟨#[]⟩] [(0, (5, .tmp 32))], none⟩, oAp 34 28 5 56 29 33, oMv 6 34]))) (.region [oAi 35 25 1, oMv 25 35]))))
def c_record_Newest : RFunc := ⟨37, [(2, none)], (.seq (.region [oNs 2]) (.seq (.region [⟨some 9, .mkMap, none⟩, oMv 3 9]) (.seq (.seq (.region [oMv 10 0, oLn 11 1 10, oMi 12 0]) (.block 0 (.loop L_record_Newest_0))) (.seq (.region [oNs 6]) (.seq (.seq (.region [oMv 21 3, oK1 22 82 21, oK1 23 81 22, oLn 24 1 23, oMi 25 0]) (.block 2 (.loop L_record_Newest_1))) (.seq (.region [oMv 36 6, oMv 2 36]) .ret))))))⟩
abbrev f_hashstore_Store_like : FuncId := 53
def L_hashstore_Store_like_1 : RCode := (.seq (.seq (.region [oMv 34 10, oMv 35 0, oNc 36 35, oFd 37 192 36, oLf 38 1 37, oMv 39 9, oAi 40 39 1, ⟨some 41, .bin .mul (.tmp 40) (.const (.int .i64 4)), none⟩, oK2 42 85 38 41, oLs 43 34 42]) (.cond (.tmp 43) .skip (.exit 2))) (.seq (.block 3 (.seq (.region [oMv 46 0, oNc 47 46, oFd 48 194 47, oLf 49 1 48, oMv 50 10, oIx 51 1 49 50, oLf 52 1 51, oMv 53 6, ⟨some 54, .bin .eql (.tmp 52) (.tmp 53), none⟩]) (.cond (.tmp 54) (.region [oMv 55 7, oMv 56 0, oNc 57 56, oFd 58 193 57, oLf 59 1 58, oMv 60 10, oIx 61 5 59 60, oLt 62 5 61, ⟨some 63, .lit 28 5 1 [.string ⟨#[]⟩, .bool false, .int .i64 0, .int .i64 0, .string ⟨#[]⟩] [(0, (5, .tmp 62))], none⟩, oAp 64 28 5 56 55 63, oMv 7 64]) .skip))) (.region [oMv 44 10, oAi 45 44 1, oMv 10 45])))
def L_hashstore_Store_like_0 : RCode := (.seq (.region [oLi 25 24 2]) (.seq (.cond (.tmp 25) .skip (.exit 0)) (.seq (.block 1 (.seq (.region [⟨some 26, .idxV 2 false 1 (.tmp 23) (.tmp 24), none⟩, oMv 9 26]) (.seq (.region [oMv 27 0, oNc 28 27, oFd 29 192 28, oLf 30 1 29, oMv 31 9, ⟨some 32, .bin .mul (.tmp 31) (.const (.int .i64 4)), none⟩, oK2 33 85 30 32, oMv 10 33]) (.block 2 (.loop L_hashstore_Store_like_1))))) (.region [oAi 65 24 1, oMv 24 65]))))
def c_hashstore_Store_like : RFunc := ⟨67, [(4, none)], (.seq (.region [oNs 4]) (.seq (.seq (.region [oMv 11 0, ⟨some 12, .eqN false 0 (.tmp 11) (.const (.pointer none)), none⟩]) (.cond (.tmp 12) (.seq (.region [oNs 4]) .ret) .skip)) (.seq (.region [oMv 13 1, oK1 14 40 13, oMv 5 14]) (.seq (.region [oMv 15 5, oK1 16 39 15, oMv 6 16]) (.seq (.region [oNs 7]) (.seq (.seq (.region [oMv 17 5, oK1 18 83 17, oMv 19 5, oK1 20 83 19, oMv 21 6, oK2 22 84 20 21, ⟨some 23, .build [.int .i64 0, .int .i64 0] [(0, (1, .tmp 18)), (1, (1, .tmp 22))], none⟩, oMi 24 0]) (.block 0 (.loop L_hashstore_Store_like_0))) (.seq (.region [oMv 66 7, oMv 4 66]) .ret)))))))⟩
abbrev f_loessref1_EqVal : FuncId := 54
def c_loessref1_EqVal : RFunc := ⟨24, [(4, none)], (.seq (.region [oBx 2 26 0, oBx 3 26 1, oMf 4]) (.seq (.region [oFd 5 0 2, oLf 6 1 5, oFd 7 0 3, oLf 8 1 7, ⟨some 9, .bin .eql (.tmp 6) (.tmp 8), none⟩, oMv 10 9, oGf 11 1 2 10 true, oGl 12 1 11 10 true, oGf 13 1 3 10 true, oGl 14 1 13 10 true, ⟨some 15, .bin .eql (.tmp 12) (.tmp 14), some (10, true)⟩, oPf 16 10 15, oMv 17 16, oGf 18 2 2 17 true, oGl 19 1 18 17 true, oGf 20 2 3 17 true, oGl 21 1 20 17 true, ⟨some 22, .bin .eql (.tmp 19) (.tmp 21), some (17, true)⟩, oPf 23 17 22, oMv 4 23]) .ret))⟩
abbrev f_cuckoo_Dir_Find : FuncId := 55
def c_cuckoo_Dir_Find : RFunc := ⟨13, [(4, none)], (.seq (.region [oNs 4]) (.seq (.region [⟨some 5, .new 75 [.slice none 0 0], none⟩]) (.seq (.region [oMv 6 0, oMv 7 1, ⟨some 8, .mkFunc 87 [.tmp 5], none⟩, ⟨some 9, .call (.fn 86) [.tmp 6, .tmp 7, .tmp 8], none⟩]) (.seq (.region [oLf 10 1 5, oK1 11 88 10]) (.seq (.region [oLf 12 1 5, oMv 4 12]) .ret)))))⟩
abbrev f_loesslaw19_begun : FuncId := 56
def c_loesslaw19_begun : RFunc := ⟨75, [(0, none)], (.seq (.region [oMf 0]) (.seq (.region [⟨some 9, .build [.string ⟨#[]⟩, .bool false, .int .i64 0, .int .i64 0, .string ⟨#[]⟩] [(0, (1, .const (.string ⟨#[97]⟩))), (1, (1, .const (.bool true)))], none⟩, ⟨some 10, .lit 28 5 1 [.string ⟨#[]⟩, .bool false, .int .i64 0, .int .i64 0, .string ⟨#[]⟩] [(0, (5, .tmp 9))], none⟩, ⟨some 11, .call (.fn 7) [.tmp 10, .const (.slice none 0 0)], none⟩, oK1 12 10 11, ⟨some 1, .new 43 ZL0, none⟩, oSo 192 1 12]) (.seq (.region [oLt 13 192 1, oK1 14 45 13, oMv 2 14]) (.seq (.region [oMv 16 2, oK1 17 44 16, oMv 15 17, oXt 18 15 0, oXt 19 15 1, ⟨some 3, .new 43 ZL0, none⟩, oSo 192 3 18, oMv 4 19]) (.seq (.region [⟨some 21, .lit 5 1 3 [.int .u8 0, .int .u8 0, .int .u8 0] [(0, (1, .const (.int .u8 0))), (1, (1, .const (.int .u8 0))), (2, (1, .const (.int .u8 0)))], none⟩, oK1 22 44 21, oMv 20 22, oXt 23 20 0, oXt 24 20 1, ⟨some 5, .new 43 ZL0, none⟩, oSo 192 5 23, oMv 6 24]) (.seq (.region [⟨some 7, .new 43 ZL0, none⟩]) (.seq (.region [⟨some 25, .idxA 8 24 (.tmp 7) (.const (.int .i64 0)), none⟩, ⟨some 26, .idxA 4 6 (.tmp 25) (.const (.int .i64 0)), none⟩, oFd 27 0 26, ⟨none, .store 1 (.tmp 27) (.const (.bool true)), none⟩]) (.seq (.region [oLt 28 192 1, oK1 29 51 28, oMv 8 29]) (.seq (.drawn [oLt 30 192 1, oK1 31 37 30, oMv 32 31, ⟨some 33, .load true 192 (.tmp 7), some (32, true)⟩, ⟨some 34, .call (.fn 37) [.tmp 33], some (32, true)⟩, ⟨some 35, .un .not (.tmp 34), some (32, true)⟩, oPf 36 32 35, oMv 37 36, oMg 38 2 37 true, ⟨some 39, .len 1 (.tmp 38), some (37, true)⟩, ⟨some 40, .bin .eql (.tmp 39) (.const (.int .i64 9)), some (37, true)⟩, oPf 41 37 40, oMv 42 41, oMg 43 4 42 true, ⟨some 44, .bin .eql (.tmp 43) (.const (.int .i64 0)), some (42, true)⟩, oPf 45 42 44, oMv 46 45, ⟨some 47, .load true 192 (.tmp 3), some (46, true)⟩, ⟨some 48, .call (.fn 90) [.tmp 47], some (46, true)⟩, ⟨some 49, .load true 192 (.tmp 1), some (46, true)⟩, ⟨some 50, .call (.fn 90) [.tmp 49], some (46, true)⟩, ⟨some 51, .call (.fn 89) [.tmp 48, .tmp 50], some (46, true)⟩, oPf 52 46 51, oMv 53 52, oMg 54 6 53 true, ⟨some 55, .bin .eql (.tmp 54) (.const (.int .i64 8)), some (53, true)⟩, oPf 56 53 55, oMv 57 56, oMg 58 8 57 true, ⟨some 59, .len 1 (.tmp 58), some (57, true)⟩, ⟨some 60, .bin .eql (.tmp 59) (.const (.int .i64 1)), some (57, true)⟩, oPf 61 57 60, oMv 62 61, oMg 63 8 62 true, ⟨some 64, .idx 5 (.tmp 63) (.const (.int .i64 0)), some (62, true)⟩, oGf 65 0 64 62 true, oGl 66 1 65 62 true, ⟨some 67, .bin .eql (.tmp 66) (.const (.string ⟨#[97]⟩)), some (62, true)⟩, oPf 68 62 67, oMv 69 68, ⟨some 70, .build ZL0 [], some (69, true)⟩, ⟨some 71, .call (.fn 45) [.tmp 70], some (69, true)⟩, ⟨some 72, .len 1 (.tmp 71), some (69, true)⟩, ⟨some 73, .bin .eql (.tmp 72) (.const (.int .i64 4)), some (69, true)⟩, oPf 74 69 73, oMv 0 74] [(18, (19, true))]) .ret)))))))))⟩
abbrev f_loesslaw4_Cut : FuncId := 57
def c_loesslaw4_Cut : RFunc := ⟨8, [(2, some (true, 3))], (.seq (.region [oBx 1 26 0, ⟨some 2, .new 26 [.int .i64 0, .int .i64 0, .string ⟨#[]⟩], none⟩]) (.seq (.region [oFd 3 2 1, oLf 4 1 3, ⟨some 5, .call (.fn 8) [.tmp 4, .const (.int .i64 30)], none⟩, oFd 6 2 1, oSo 1 6 5]) (.seq (.region [oLt 7 3 1, oSo 3 2 7]) .ret)))⟩
abbrev f_loessref10_Set : FuncId := 58
def L_loessref10_Set_0 : RCode := (.seq (.seq (.region [oMv 8 7, oMv 9 0, oLn 10 1 9, oLs 11 8 10]) (.cond (.tmp 11) .skip (.exit 0))) (.seq (.block 1 (.seq (.seq (.region [oMv 14 6, oUn 15 14, oMv 16 15, oMg 17 0 16 true, oMg 18 7 16 true, ⟨some 19, .idx 5 (.tmp 17) (.tmp 18), some (16, true)⟩, oGf 20 0 19 16 true, oGl 21 1 20 16 true, oGf 22 0 3 16 true, oGl 23 1 22 16 true, ⟨some 24, .bin .geq (.tmp 21) (.tmp 23), some (16, true)⟩, oPf 25 16 24]) (.cond (.tmp 25) (.seq (.region [oMv 26 5, oLt 27 5 3, ⟨some 28, .lit 28 5 1 [.string ⟨#[]⟩, .bool false, .int .i64 0, .int .i64 0, .string ⟨#[]⟩] [(0, (5, .tmp 27))], none⟩, oAp 29 28 5 56 26 28, oMv 5 29]) (.region [⟨some 6, .move (.const (.bool true)), none⟩])) .skip)) (.seq (.region [oMv 30 0, oMv 31 7, oIx 32 5 30 31, oFd 33 0 32, oLf 34 1 33, oFd 35 0 3, oLf 36 1 35, ⟨some 37, .bin .neq (.tmp 34) (.tmp 36), none⟩]) (.cond (.tmp 37) (.region [oMv 38 5, oMv 39 0, oMv 40 7, oIx 41 5 39 40, oLt 42 5 41, ⟨some 43, .lit 28 5 1 [.string ⟨#[]⟩, .bool false, .int .i64 0, .int .i64 0, .string ⟨#[]⟩] [(0, (5, .tmp 42))], none⟩, oAp 44 28 5 56 38 43, oMv 5 44]) .skip)))) (.region [oMv 12 7, oAi 13 12 1, oMv 7 13])))
def c_loessref10_Set : RFunc := ⟨52, [(4, none)], (.seq (.region [oBx 3 28 1, oNs 4]) (.seq (.region [oNs 5]) (.seq (.region [oMf 6]) (.seq (.seq (.region [oMi 7 0]) (.block 0 (.loop L_loessref10_Set_0))) (.seq (.seq (.region [oMv 45 6, oUn 46 45]) (.cond (.tmp 46) (.region [oMv 47 5, oLt 48 5 3, ⟨some 49, .lit 28 5 1 [.string ⟨#[]⟩, .bool false, .int .i64 0, .int .i64 0, .string ⟨#[]⟩] [(0, (5, .tmp 48))], none⟩, oAp 50 28 5 56 47 49, oMv 5 50]) .skip)) (.seq (.region [oMv 51 5, oMv 4 51]) .ret))))))⟩
abbrev f_loessref1_MayKey : FuncId := 59
def c_loessref1_MayKey : RFunc := ⟨11, [(2, none)], (.seq (.region [oMf 2]) (.seq (.region [oMv 3 0, oLn 4 0 3, ⟨some 5, .bin .geq (.tmp 4) (.const (.int .i64 1)), none⟩, oMv 6 5, oMg 7 0 6 true, ⟨some 8, .len 0 (.tmp 7), some (6, true)⟩, ⟨some 9, .bin .leq (.tmp 8) (.const (.int .i64 16)), some (6, true)⟩, oPf 10 6 9, oMv 2 10]) .ret))⟩
abbrev f_loessref1_MayVal : FuncId := 60
def c_loessref1_MayVal : RFunc := ⟨26, [(2, none)], (.seq (.region [oBx 1 26 0, oMf 2]) (.seq (.seq (.region [oFd 3 0 1, oLf 4 1 3]) (.block 0 (.seq (.region [oEi 6 4 1, oMv 5 6]) (.cond (.tmp 5) (.seq (.region [oFd 7 2 1, oLf 8 1 7, ⟨some 9, .bin .eql (.tmp 8) (.const (.string ⟨#[]⟩)), none⟩, oMv 2 9]) .ret) (.seq (.region [oEi 11 4 2, oMv 10 11]) (.cond (.tmp 10) (.seq (.region [oFd 12 1 1, oLf 13 1 12, oEi 14 13 0, oMv 15 14, oGf 16 2 1 15 true, oGl 17 1 16 15 true, ⟨some 18, .len 0 (.tmp 17), some (15, true)⟩, ⟨some 19, .bin .leq (.tmp 18) (.const (.int .i64 24)), some (15, true)⟩, oPf 20 15 19, oMv 21 20, oGf 22 2 1 21 true, oGl 23 1 22 21 true, ⟨some 24, .call (.fn 91) [.tmp 23], some (21, true)⟩, oPf 25 21 24, oMv 2 25]) .ret) .skip)))))) (.seq (.region [oMf 2]) .ret)))⟩
abbrev f_loessref1_Runes : FuncId := 61
def L_loessref1_Runes_0 : RCode := (.seq (.seq (.region [oMv 10 6, oMv 11 0, oLn 12 0 11, oLs 13 10 12]) (.cond (.tmp 13) .skip (.exit 0))) (.block 1 (.seq (.region [oMv 15 0, oMv 16 6, ⟨some 17, .cutS (.tmp 15) (some (.tmp 16)) none, none⟩, oK1 18 92 17, oMv 14 18, oXt 19 14 0, oXt 20 14 1, oXt 21 14 2, oMv 7 19, oMv 8 20, oMv 9 21]) (.seq (.region [oMv 22 4, oMv 23 7, ⟨some 24, .lit 21 1 1 [.int .i32 0] [(0, (1, .tmp 23))], none⟩, oAp 25 21 1 4 22 24, oMv 26 5, oMv 27 6, ⟨some 28, .lit 3 1 1 [.int .i64 0] [(0, (1, .tmp 27))], none⟩, oAp 29 3 1 8 26 28, oMv 4 25, oMv 5 29]) (.region [oMv 30 6, oMv 31 8, ⟨some 32, .bin .add (.tmp 30) (.tmp 31), none⟩, oMv 6 32])))))
def c_loessref1_Runes : RFunc := ⟨35, [(2, none), (3, none)], (.seq (.region [oNs 2, oNs 3]) (.seq (.region [oNs 4]) (.seq (.region [oNs 5]) (.seq (.seq (.region [oMi 6 0]) (.block 0 (.loop L_loessref1_Runes_0))) (.seq (.region [oMv 33 4, oMv 34 5, oMv 2 33, oMv 3 34]) .ret)))))⟩
abbrev f_order_belongs : FuncId := 62
def c_order_belongs : RFunc := ⟨22, [(4, none)], (.seq (.region [oMf 4]) (.seq (.region [oMv 7 0, oK1 8 40 7, oMv 5 8]) (.seq (.region [oMv 9 5, oK1 10 83 9, oMv 6 10]) (.seq (.region [oMv 11 1, oMv 12 6, ⟨some 13, .bin .eql (.tmp 11) (.tmp 12), none⟩, oMv 14 13, oMg 15 1 14 false, oMg 16 6 14 false, oMg 17 5 14 false, ⟨some 18, .call (.fn 39) [.tmp 17], some (14, false)⟩, ⟨some 19, .call (.fn 84) [.tmp 16, .tmp 18], some (14, false)⟩, ⟨some 20, .bin .eql (.tmp 15) (.tmp 19), some (14, false)⟩, oPt 21 14 20, oMv 4 21]) .ret))))⟩
abbrev f_slices_Contains_string : FuncId := 63
def c_slices_Contains_string : RFunc := ⟨9, [(4, none)], (.seq (.region [oMf 4]) (.seq (.region [oMv 5 0, oMv 6 1, oK2 7 93 5 6, ⟨some 8, .bin .geq (.tmp 7) (.const (.int .i64 0)), none⟩, oMv 4 8]) .ret))⟩
abbrev f_runes_Of : FuncId := 64
def L_runes_Of_0 : RCode := (.seq (.region [⟨some 8, .next (.tmp 7), none⟩, oXt 9 8 0]) (.seq (.cond (.tmp 9) .skip (.exit 0)) (.block 1 (.seq (.region [oXt 10 8 2, oMv 5 10]) (.region [oMv 11 3, oMv 12 5, ⟨some 13, .lit 21 1 1 [.int .i32 0] [(0, (1, .tmp 12))], none⟩, oAp 14 21 1 4 11 13, oMv 3 14])))))
def c_runes_Of : RFunc := ⟨16, [(2, none)], (.seq (.region [oNs 2]) (.seq (.region [oNs 3]) (.seq (.seq (.region [oMv 6 0, ⟨some 7, .iter (.tmp 6), none⟩]) (.block 0 (.loop L_runes_Of_0))) (.seq (.region [oMv 15 3, oMv 2 15]) .ret))))⟩
abbrev f_bits_Bits_Len : FuncId := 65
def c_bits_Bits_Len : RFunc := ⟨9, [(2, none)], (.seq (.region [oMi 2 0]) (.seq (.seq (.region [oMv 3 0, ⟨some 4, .eqN false 0 (.tmp 3) (.const (.pointer none)), none⟩]) (.cond (.tmp 4) (.seq (.region [oMi 2 0]) .ret) .skip)) (.seq (.region [oMv 5 0, oNc 6 5, oFd 7 1 6, oLf 8 1 7, oMv 2 8]) .ret)))⟩
abbrev f_bits_Bits_At : FuncId := 66
def c_bits_Bits_At : RFunc := ⟨29, [(4, none)], (.seq (.region [oMf 4]) (.seq (.region [oMv 5 1, ⟨some 6, .bin .geq (.tmp 5) (.const (.int .i64 0)), none⟩, oMv 7 6, oMg 8 1 7 true, oMg 9 0 7 true, ⟨some 10, .call (.fn 65) [.tmp 9], some (7, true)⟩, ⟨some 11, .bin .lss (.tmp 8) (.tmp 10), some (7, true)⟩, oPf 12 7 11, oMv 13 12, oMg 14 0 13 true, oGn 15 14 13 true, oGf 16 0 15 13 true, oGl 17 1 16 13 true, oMg 18 1 13 true, ⟨some 19, .bin .quo (.tmp 18) (.const (.int .i64 8)), some (13, true)⟩, ⟨some 20, .idx 1 (.tmp 17) (.tmp 19), some (13, true)⟩, oGl 21 1 20 13 true, oMg 22 1 13 true, ⟨some 23, .bin .rem (.tmp 22) (.const (.int .i64 8)), some (13, true)⟩, ⟨some 24, .bin .sub (.const (.int .i64 7)) (.tmp 23), some (13, true)⟩, ⟨some 25, .bin .shr (.tmp 21) (.tmp 24), some (13, true)⟩, ⟨some 26, .bin .and (.tmp 25) (.const (.int .u8 1)), some (13, true)⟩, ⟨some 27, .bin .eql (.tmp 26) (.const (.int .u8 1)), some (13, true)⟩, oPf 28 13 27, oMv 4 28]) .ret))⟩
abbrev f_bits_Of : FuncId := 71
def L_bits_Of_0 : RCode := (.seq (.region [oLs 21 20 19]) (.seq (.cond (.tmp 21) .skip (.exit 0)) (.seq (.block 1 (.seq (.region [oMv 22 20, oMv 7 22]) (.region [oMv 23 6, oMv 24 0, oMv 25 7, ⟨some 26, .bin .quo (.tmp 25) (.const (.int .i64 8)), none⟩, oIx 27 1 24 26, oLf 28 1 27, oMv 29 7, ⟨some 30, .bin .rem (.tmp 29) (.const (.int .i64 8)), none⟩, ⟨some 31, .bin .sub (.const (.int .i64 7)) (.tmp 30), none⟩, ⟨some 32, .bin .shr (.tmp 28) (.tmp 31), none⟩, ⟨some 33, .bin .and (.tmp 32) (.const (.int .u8 1)), none⟩, ⟨some 34, .bin .eql (.tmp 33) (.const (.int .u8 1)), none⟩, oK2 35 38 23 34]))) (.region [oAi 36 20 1, oMv 20 36]))))
def c_bits_Of : RFunc := ⟨45, [(4, none), (5, none)], (.seq (.region [⟨some 4, .move (.const (.pointer none)), none⟩, oMf 5]) (.seq (.seq (.region [oMv 8 1, oLi 9 8 0, oMv 10 9, oMg 11 1 10 false, oMg 12 0 10 false, ⟨some 13, .len 1 (.tmp 12), some (10, false)⟩, ⟨some 14, .bin .mul (.const (.int .i64 8)) (.tmp 13), some (10, false)⟩, ⟨some 15, .bin .gtr (.tmp 11) (.tmp 14), some (10, false)⟩, oPt 16 10 15]) (.cond (.tmp 16) (.seq (.region [⟨some 4, .move (.const (.pointer none)), none⟩, oMf 5]) .ret) .skip)) (.seq (.region [⟨some 17, .build [.slice none 0 0, .int .i64 0] [], none⟩, oBx 18 80 17, oMv 6 18]) (.seq (.seq (.region [oMv 19 1, oMi 20 0]) (.block 0 (.loop L_bits_Of_0))) (.seq (.seq (.region [oMv 37 6, oNc 38 37, oFd 39 0 38, oLf 40 1 39, oMv 41 0, oK2 42 73 40 41, oUn 43 42]) (.cond (.tmp 43) (.seq (.region [⟨some 4, .move (.const (.pointer none)), none⟩, oMf 5]) .ret) .skip)) (.seq (.region [oMv 44 6, oMv 4 44, ⟨some 5, .move (.const (.bool true)), none⟩]) .ret))))))⟩
abbrev f_record_Get : FuncId := 72
def c_record_Get : RFunc := ⟨62, [(2, some (true, 5)), (3, none), (4, none)], (.seq (.region [⟨some 2, .new 28 [.string ⟨#[]⟩, .bool false, .int .i64 0, .int .i64 0, .string ⟨#[]⟩], none⟩, oMi 3 0, oMi 4 0]) (.seq (.region [oMv 12 0, oK1 13 97 12, oMv 11 13, oXt 14 11 0, oXt 15 11 1, oXt 16 11 2, oMv 5 14, oMv 6 15, oMv 7 16]) (.seq (.seq (.region [oMv 17 7, oEi 18 17 0, oMv 19 18, oMg 20 5 19 true, ⟨some 21, .call (.fn 76) [.tmp 20], some (19, true)⟩, ⟨some 22, .un .not (.tmp 21), some (19, true)⟩, oPf 23 19 22]) (.cond (.tmp 23) (.region [oMi 7 1]) .skip)) (.seq (.seq (.region [oMv 24 7, oNi 25 24 0]) (.cond (.tmp 25) (.seq (.region [⟨some 26, .build [.string ⟨#[]⟩, .bool false, .int .i64 0, .int .i64 0, .string ⟨#[]⟩] [], none⟩, oMv 27 7, oSo 5 2 26, oMi 3 0, oMv 4 27]) .ret) .skip)) (.seq (.region [oMv 28 5, ⟨some 29, .build [.string ⟨#[]⟩, .bool false, .int .i64 0, .int .i64 0, .string ⟨#[]⟩] [(0, (1, .tmp 28))], none⟩, ⟨some 8, .new 28 [.string ⟨#[]⟩, .bool false, .int .i64 0, .int .i64 0, .string ⟨#[]⟩], none⟩, oSo 5 8 29]) (.seq (.region [oMv 31 0, oMv 32 6, ⟨some 33, .cut 1 (.tmp 31) (some (.tmp 32)) none none, none⟩, oK1 34 98 33, oMv 30 34, oXt 35 30 0, oXt 36 30 1, oXt 37 30 2, oMv 9 35, oMv 10 36, oMv 7 37]) (.seq (.block 0 (.seq (.region [oMv 48 7, oNi 49 48 0, oMv 47 49]) (.cond (.tmp 47) .skip (.seq (.region [oMv 51 9, oEi 52 51 0, oMv 50 52]) (.cond (.tmp 50) (.region [oFd 53 1 8, ⟨none, .store 1 (.tmp 53) (.const (.bool true)), none⟩]) (.region [oMv 39 0, oMv 40 6, ⟨some 41, .cut 1 (.tmp 39) (some (.tmp 40)) none none, none⟩, oK1 42 99 41, oMv 38 42, oXt 43 38 0, oXt 44 38 1, oXt 45 38 2, oFd 46 2 8, oSo 3 46 43, oMv 10 44, oMv 7 45])))))) (.seq (.seq (.region [oMv 54 7, oNi 55 54 0]) (.cond (.tmp 55) (.seq (.region [⟨some 56, .build [.string ⟨#[]⟩, .bool false, .int .i64 0, .int .i64 0, .string ⟨#[]⟩] [], none⟩, oMv 57 7, oSo 5 2 56, oMi 3 0, oMv 4 57]) .ret) .skip)) (.seq (.region [oLt 58 5 8, oMv 59 6, oMv 60 10, ⟨some 61, .bin .add (.tmp 59) (.tmp 60), none⟩, oSo 5 2 58, oMv 3 61, oMi 4 0]) .ret)))))))))⟩
abbrev f_bytes_Equal : FuncId := 73
def c_bytes_Equal : RFunc := ⟨10, [(4, none)], (.seq (.region [oMf 4]) (.seq (.region [oMv 5 0, ⟨some 6, .strOf (.tmp 5), none⟩, oMv 7 1, ⟨some 8, .strOf (.tmp 7), none⟩, ⟨some 9, .bin .eql (.tmp 6) (.tmp 8), none⟩, oMv 4 9]) .ret))⟩
abbrev f_record_Put : FuncId := 74
def c_record_Put : RFunc := ⟨17, [(4, none)], (.seq (.region [oBx 3 28 1, oNs 4]) (.seq (.region [oMv 5 0, oFd 6 0 3, oLf 7 1 6, oK2 8 100 5 7, oMv 0 8]) (.seq (.seq (.region [oFd 9 1 3, oLf 10 1 9]) (.cond (.tmp 10) (.seq (.region [oMv 11 0, ⟨some 12, .call (.fn 101) [.tmp 11, .const (.int .i64 0)], none⟩, oMv 4 12]) .ret) .skip)) (.seq (.region [oMv 13 0, oFd 14 2 3, oLt 15 3 14, oK2 16 102 13 15, oMv 4 16]) .ret))))⟩
abbrev f_bits_Bits_Bytes : FuncId := 75
def c_bits_Bits_Bytes : RFunc := ⟨10, [(2, none)], (.seq (.region [oNs 2]) (.seq (.seq (.region [oMv 3 0, ⟨some 4, .eqN false 0 (.tmp 3) (.const (.pointer none)), none⟩]) (.cond (.tmp 4) (.seq (.region [oNs 2]) .ret) .skip)) (.seq (.region [oMv 5 0, oNc 6 5, oFd 7 0 6, oLf 8 1 7, oK1 9 103 8, oMv 2 9]) .ret)))⟩
abbrev f_key_May : FuncId := 76
def c_key_May : RFunc := ⟨10, [(2, none)], (.seq (.region [oMf 2]) (.seq (.region [oMv 3 0, ⟨some 4, .bin .neq (.tmp 3) (.const (.string ⟨#[]⟩)), none⟩, oMv 5 4, oMg 6 0 5 true, ⟨some 7, .len 0 (.tmp 6), some (5, true)⟩, ⟨some 8, .bin .leq (.tmp 7) (.const (.int .i64 16)), some (5, true)⟩, oPf 9 5 8, oMv 2 9]) .ret))⟩
abbrev f_value_Of : FuncId := 77
def c_value_Of : RFunc := ⟨42, [(2, some (true, 1)), (3, none)], (.seq (.region [oBx 1 26 0, ⟨some 2, .new 132 [.nilIface], none⟩, oMi 3 0]) (.seq (.block 0 (.seq (.region [oFd 5 0 1, oLf 6 1 5, oEi 7 6 1, oMv 8 7, oGf 9 2 1 8 true, oGl 10 1 9 8 true, ⟨some 11, .bin .eql (.tmp 10) (.const (.string ⟨#[]⟩)), some (8, true)⟩, oPf 12 8 11, oMv 4 12]) (.cond (.tmp 4) (.seq (.region [oFd 13 1 1, oLf 14 1 13, ⟨some 15, .iface 2 (.tmp 14), none⟩, ⟨some 16, .build [.nilIface] [(0, (1, .tmp 15))], none⟩, oSo 1 2 16, oMi 3 0]) .ret) (.seq (.region [oFd 18 0 1, oLf 19 1 18, oEi 20 19 2, oMv 21 20, oGf 22 1 1 21 true, oGl 23 1 22 21 true, ⟨some 24, .bin .eql (.tmp 23) (.const (.int .i64 0)), some (21, true)⟩, oPf 25 21 24, oMv 26 25, oGf 27 2 1 26 true, oGl 28 1 27 26 true, ⟨some 29, .len 0 (.tmp 28), some (26, true)⟩, ⟨some 30, .bin .leq (.tmp 29) (.const (.int .i64 24)), some (26, true)⟩, oPf 31 26 30, oMv 32 31, oGf 33 2 1 32 true, oGl 34 1 33 32 true, ⟨some 35, .call (.fn 104) [.tmp 34], some (32, true)⟩, oPf 36 32 35, oMv 17 36]) (.cond (.tmp 17) (.seq (.region [oFd 37 2 1, oLf 38 1 37, ⟨some 39, .iface 169 (.tmp 38), none⟩, ⟨some 40, .build [.nilIface] [(0, (1, .tmp 39))], none⟩, oSo 1 2 40, oMi 3 0]) .ret) .skip))))) (.seq (.region [⟨some 41, .build [.nilIface] [], none⟩, oSo 1 2 41, oMi 3 1]) .ret)))⟩
abbrev f_cuckoo_may : FuncId := 78
def c_cuckoo_may : RFunc := ⟨9, [(2, none)], (.seq (.region [oMf 2]) (.seq (.region [oMv 3 0, ⟨some 4, .bin .geq (.tmp 3) (.const (.int .i64 0)), none⟩, oMv 5 4, oMg 6 0 5 true, ⟨some 7, .bin .leq (.tmp 6) (.const (.int .i64 1099511627776)), some (5, true)⟩, oPf 8 5 7, oMv 2 8]) .ret))⟩
abbrev f_cuckoo_Dir_way : FuncId := 79
def L_cuckoo_Dir_way_0 : RCode := (.seq (.region [oLi 19 18 2]) (.seq (.cond (.tmp 19) .skip (.exit 0)) (.seq (.block 1 (.seq (.region [⟨some 20, .idxV 2 false 1 (.tmp 17) (.tmp 18), none⟩, oMv 10 20]) (.region [oMv 21 8, oMv 22 10, ⟨some 23, .build [.int .i64 0, .int .i64 0] [(0, (1, .const (.int .i64 (-1)))), (1, (1, .const (.int .i64 0)))], none⟩, ⟨some 24, .call (.tmp 21) [.tmp 22, .tmp 23], none⟩]))) (.region [oAi 25 18 1, oMv 18 25]))))
def L_cuckoo_Dir_way_2 : RCode := (.seq (.region [oLi 47 46 4]) (.seq (.cond (.tmp 47) .skip (.exit 4)) (.seq (.block 5 (.seq (.region [oMv 48 46, ⟨some 49, .idxV 4 true 3 (.tmp 45) (.tmp 46), none⟩, ⟨some 13, .new 126 [.bool false, .int .i64 0, .int .i64 0], none⟩, oMv 12 48, oSo 3 13 49]) (.region [oMv 50 8, oMv 51 11, oFd 52 2 13, oLf 53 1 52, oK2 54 84 51 53, oMv 55 11, oMv 56 12, ⟨some 57, .build [.int .i64 0, .int .i64 0] [(0, (1, .tmp 55)), (1, (1, .tmp 56))], none⟩, ⟨some 58, .call (.tmp 50) [.tmp 54, .tmp 57], none⟩]))) (.region [oAi 59 46 1, oMv 46 59]))))
def L_cuckoo_Dir_way_1 : RCode := (.seq (.seq (.region [oLf 26 1 7, oLn 27 1 26, ⟨some 28, .bin .gtr (.tmp 27) (.const (.int .i64 0)), none⟩]) (.cond (.tmp 28) .skip (.exit 2))) (.block 3 (.seq (.region [oLf 29 1 7, ⟨some 30, .idx 1 (.tmp 29) (.const (.int .i64 0)), none⟩, oLf 31 1 30, oMv 11 31]) (.seq (.region [oLf 32 1 7, ⟨some 33, .cut 1 (.tmp 32) (some (.const (.int .i64 1))) none none, none⟩, oSo 1 7 33]) (.seq (.seq (.region [oMv 34 0, oMv 35 11, oK2 36 80 34 35, ⟨some 37, .bin .geq (.tmp 36) (.const (.int .i64 0)), none⟩]) (.cond (.tmp 37) (.seq (.region [oMv 38 11, oLf 39 1 6, oMv 4 38, oMv 5 39]) .ret) .skip)) (.seq (.region [oMv 40 0, oMv 41 11, oNc 42 40, oFd 43 0 42, oIa 44 8 12 43 41, oLt 45 12 44, oMi 46 0]) (.block 4 (.loop L_cuckoo_Dir_way_2))))))))
def c_cuckoo_Dir_way : RFunc := ⟨60, [(4, none), (5, none)], (.seq (.region [oMi 4 0, ⟨some 5, .move (.const (.map none)), none⟩]) (.seq (.region [⟨some 14, .mkMap, none⟩, ⟨some 6, .new 135 [.map none], none⟩, oSo 1 6 14]) (.seq (.region [⟨some 7, .new 75 [.slice none 0 0], none⟩]) (.seq (.region [⟨some 15, .mkFunc 105 [.tmp 6, .tmp 7], none⟩, oMv 8 15]) (.seq (.seq (.region [oMv 16 1, oK1 17 106 16, oMi 18 0]) (.block 0 (.loop L_cuckoo_Dir_way_0))) (.seq (.block 2 (.loop L_cuckoo_Dir_way_1)) (.seq (.region [oMi 4 (-1), ⟨some 5, .move (.const (.map none)), none⟩]) .ret)))))))⟩
abbrev f_cuckoo_Dir_free : FuncId := 80
def c_cuckoo_Dir_free : RFunc := ⟨12, [(4, none)], (.seq (.region [oMi 4 0]) (.seq (.region [oMv 5 0, oMv 6 1, oNc 7 5, oFd 8 0 7, oIa 9 8 12 8 6, ⟨some 10, .cutA 4 3 (.tmp 9) none none none, none⟩, ⟨some 11, .call (.fn 107) [.tmp 10, .fn 108], none⟩, oMv 4 11]) .ret))⟩
abbrev f_hash_First : FuncId := 83
def c_hash_First : RFunc := ⟨6, [(2, none)], (.seq (.region [oMi 2 0]) (.seq (.region [oMv 3 0, ⟨some 4, .bin .rem (.tmp 3) (.const (.int .u64 8)), none⟩, ⟨some 5, .conv .i64 (.tmp 4), none⟩, oMv 2 5]) .ret))⟩
abbrev f_hash_Other : FuncId := 84
def c_hash_Other : RFunc := ⟨24, [(4, none)], (.seq (.region [oMi 4 0]) (.seq (.seq (.region [oMv 5 0, oLi 6 5 0, oMv 7 6, oMg 8 0 7 false, ⟨some 9, .bin .geq (.tmp 8) (.const (.int .i64 8)), some (7, false)⟩, oPt 10 7 9, oMv 11 10, oMg 12 1 11 false, ⟨some 13, .bin .lss (.tmp 12) (.const (.int .i64 0)), some (11, false)⟩, oPt 14 11 13, oMv 15 14, oMg 16 1 15 false, ⟨some 17, .bin .geq (.tmp 16) (.const (.int .i64 32768)), some (15, false)⟩, oPt 18 15 17]) (.cond (.tmp 18) (.seq (.region [oMi 4 (-1)]) .ret) .skip)) (.seq (.region [oMv 19 0, oMv 20 1, ⟨some 21, .bin .rem (.tmp 20) (.const (.int .i64 7)), none⟩, ⟨some 22, .bin .add (.const (.int .i64 1)) (.tmp 21), none⟩, ⟨some 23, .bin .xor (.tmp 19) (.tmp 22), none⟩, oMv 4 23]) .ret)))⟩
abbrev f_rank_Rank_Ones : FuncId := 85
def c_rank_Rank_Ones : RFunc := ⟨26, [(4, none)], (.seq (.region [oMi 4 0]) (.seq (.seq (.region [oMv 5 0, ⟨some 6, .eqN false 0 (.tmp 5) (.const (.pointer none)), none⟩, oMv 7 6, oMg 8 0 7 false, oGn 9 8 7 false, oGf 10 0 9 7 false, oGl 11 1 10 7 false, ⟨some 12, .len 1 (.tmp 11), some (7, false)⟩, ⟨some 13, .bin .eql (.tmp 12) (.const (.int .i64 0)), some (7, false)⟩, oPt 14 7 13]) (.cond (.tmp 14) (.seq (.region [oMi 4 0]) .ret) .skip)) (.seq (.drawn [oMv 15 0, oNc 16 15, oFd 17 0 16, oLf 18 1 17, oMv 19 1, ⟨some 20, .mm true [.tmp 19, .const (.int .i64 0)], none⟩, oMv 21 0, oK1 22 112 21, ⟨some 23, .mm false [.tmp 20, .tmp 22], none⟩, oIx 24 1 18 23, oLf 25 1 24, oMv 4 25] [(3, (7, false))]) .ret)))⟩
abbrev f_cuckoo_Dir_each : FuncId := 86
def L_cuckoo_Dir_each_1 : RCode := (.seq (.region [oLi 18 17 4]) (.seq (.cond (.tmp 18) .skip (.exit 2)) (.seq (.block 3 (.seq (.region [oMv 19 17, oMv 8 19]) (.seq (.region [oMv 20 0, oMv 21 7, oMv 22 8, oNc 23 20, oFd 24 0 23, oIa 25 8 12 24 21, oIa 26 4 3 25 22, oMv 9 26]) (.seq (.drawn [oMv 27 9, oNc 28 27, oFd 29 0 28, oLf 30 1 29, oMv 31 30, oMg 32 9 31 true, oGn 33 32 31 true, oGf 34 2 33 31 true, oGl 35 1 34 31 true, oMg 36 1 31 true, ⟨some 37, .call (.fn 39) [.tmp 36], some (31, true)⟩, ⟨some 38, .bin .eql (.tmp 35) (.tmp 37), some (31, true)⟩, oPf 39 31 38, oMv 40 39, oMg 41 2 40 true, oMg 42 9 40 true, ⟨some 43, .call (.tmp 41) [.tmp 42], some (40, true)⟩, ⟨some 44, .un .not (.tmp 43), some (40, true)⟩, oPf 45 40 44] [(8, (10, false))]) (.cond (.tmp 45) .ret .skip))))) (.region [oAi 46 17 1, oMv 17 46]))))
def L_cuckoo_Dir_each_0 : RCode := (.seq (.region [oLi 15 14 2]) (.seq (.cond (.tmp 15) .skip (.exit 0)) (.seq (.block 1 (.seq (.region [⟨some 16, .idxV 2 false 1 (.tmp 13) (.tmp 14), none⟩, oMv 7 16]) (.seq (.region [oMi 17 0]) (.block 2 (.loop L_cuckoo_Dir_each_1))))) (.region [oAi 47 14 1, oMv 14 47]))))
def c_cuckoo_Dir_each : RFunc := ⟨48, [], (.seq (.seq (.region [oMv 10 0, ⟨some 11, .eqN false 0 (.tmp 10) (.const (.pointer none)), none⟩]) (.cond (.tmp 11) .ret .skip)) (.seq (.region [oMv 12 1, oK1 13 106 12, oMi 14 0]) (.block 0 (.loop L_cuckoo_Dir_each_0))))⟩
abbrev f_cuckoo_Dir_Find_1 : FuncId := 87
def c_cuckoo_Dir_Find_1 : RFunc := ⟨11, [(3, none)], (.seq (.region [oMf 3]) (.seq (.region [oLf 4 1 1, oMv 5 0, oNc 6 5, oFd 7 1 6, oLf 8 1 7, ⟨some 9, .lit 3 1 1 [.int .i64 0] [(0, (1, .tmp 8))], none⟩, oAp 10 3 1 8 4 9, oSo 1 1 10]) (.seq (.region [⟨some 3, .move (.const (.bool true)), none⟩]) .ret)))⟩
abbrev f_slices_Sort_int : FuncId := 88
def c_slices_Sort_int : RFunc := ⟨11, [], (.seq (.region [oMv 3 0, oLn 4 1 3, oMv 2 4]) (.region [oMv 5 0, oMv 6 2, oMv 7 2, ⟨some 8, .conv .u64 (.tmp 7), none⟩, oK1 9 114 8, ⟨some 10, .call (.fn 113) [.tmp 5, .const (.int .i64 0), .tmp 6, .tmp 9], none⟩]))⟩
abbrev f_loesslaw19_eq : FuncId := 89
def L_loesslaw19_eq_0 : RCode := (.seq (.seq (.region [oMv 8 5, oLi 9 8 32]) (.cond (.tmp 9) .skip (.exit 0))) (.seq (.block 1 (.seq (.many [oMv 12 5, ⟨some 13, .bin .quo (.tmp 12) (.const (.int .i64 4)), none⟩, oMv 14 5, ⟨some 15, .bin .rem (.tmp 14) (.const (.int .i64 4)), none⟩, oIa 16 8 24 2 13, oIa 17 4 6 16 15, oLt 18 6 17, oMv 19 5, ⟨some 20, .bin .quo (.tmp 19) (.const (.int .i64 4)), none⟩, oMv 21 5, ⟨some 22, .bin .rem (.tmp 21) (.const (.int .i64 4)), none⟩, oIa 23 8 24 3 20, oIa 24 4 6 23 22, oLt 25 6 24, ⟨some 6, .new 30 [.bool false, .string ⟨#[]⟩, .bool false, .int .i64 0, .int .i64 0, .string ⟨#[]⟩], none⟩, ⟨some 7, .new 30 [.bool false, .string ⟨#[]⟩, .bool false, .int .i64 0, .int .i64 0, .string ⟨#[]⟩], none⟩, oSo 6 6 18, oSo 6 7 25] (.q 0 (.q 1 (.q 2 (.q 3 (.q 4 (.q 5 (.r 6 (.q 7 (.q 8 (.q 9 (.q 10 (.q 11 (.q 12 (.r 13 (.alt (.m 14 [] (.m 15 [] (.m 16 [0, 1, 2, 3, 4, 5, 6, 14, 15] (.m 17 [0, 1, 2, 3, 4, 5, 6, 7, 8, 9, 10, 11, 12, 13, 14, 15, 16] .leaf)))) (.m 15 [] (.m 14 [] (.m 16 [0, 1, 2, 3, 4, 5, 6, 14, 15] (.m 17 [0, 1, 2, 3, 4, 5, 6, 7, 8, 9, 10, 11, 12, 13, 14, 15, 16] .leaf)))))))))))))))))))) (.seq (.region [oFd 26 0 6, oLf 27 1 26, oFd 28 0 7, oLf 29 1 28, ⟨some 30, .eqB true (.tmp 27) (.tmp 29), none⟩, oMv 31 30, oGf 32 1 6 31 false, ⟨some 33, .load true 5 (.tmp 32), some (31, false)⟩, oGf 34 1 7 31 false, ⟨some 35, .load true 5 (.tmp 34), some (31, false)⟩, ⟨some 36, .call (.fn 25) [.tmp 33, .tmp 35], some (31, false)⟩, ⟨some 37, .un .not (.tmp 36), some (31, false)⟩, oPt 38 31 37]) (.cond (.tmp 38) (.seq (.region [oMf 4]) .ret) .skip)))) (.region [oMv 10 5, oAi 11 10 1, oMv 5 11])))
def c_loesslaw19_eq : RFunc := ⟨39, [(4, none)], (.seq (.region [oBx 2 33 0, oBx 3 33 1, oMf 4]) (.seq (.seq (.region [oMi 5 0]) (.block 0 (.loop L_loesslaw19_eq_0))) (.seq (.region [⟨some 4, .move (.const (.bool true)), none⟩]) .ret)))⟩
abbrev f_loesslaw19_Back : FuncId := 90
def L_loesslaw19_Back_0 : RCode := (.seq (.seq (.region [oMv 5 4, oLi 6 5 32]) (.cond (.tmp 6) .skip (.exit 0))) (.seq (.block 1 (.region [oMv 9 4, ⟨some 10, .bin .quo (.tmp 9) (.const (.int .i64 4)), none⟩, oMv 11 4, ⟨some 12, .bin .rem (.tmp 11) (.const (.int .i64 4)), none⟩, oMv 13 4, ⟨some 14, .bin .quo (.tmp 13) (.const (.int .i64 4)), none⟩, oMv 15 4, ⟨some 16, .bin .rem (.tmp 15) (.const (.int .i64 4)), none⟩, oIa 17 8 24 1 14, oIa 18 4 6 17 16, oFd 19 0 18, oLf 20 1 19, oMv 21 4, ⟨some 22, .bin .quo (.tmp 21) (.const (.int .i64 4)), none⟩, oMv 23 4, ⟨some 24, .bin .rem (.tmp 23) (.const (.int .i64 4)), none⟩, oIa 25 8 24 1 22, oIa 26 4 6 25 24, oFd 27 1 26, oLt 28 5 27, ⟨some 29, .build [.bool false, .string ⟨#[]⟩, .bool false, .int .i64 0, .int .i64 0, .string ⟨#[]⟩] [(0, (1, .tmp 20)), (1, (5, .tmp 28))], none⟩, oIa 30 8 24 3 10, oIa 31 4 6 30 12, oSo 6 31 29])) (.region [oMv 7 4, oAi 8 7 1, oMv 4 8])))
def c_loesslaw19_Back : RFunc := ⟨33, [(2, some (true, 192))], (.seq (.region [oBx 1 43 0, ⟨some 2, .new 33 ZL0, none⟩]) (.seq (.region [⟨some 3, .new 33 ZL0, none⟩]) (.seq (.seq (.region [oMi 4 0]) (.block 0 (.loop L_loesslaw19_Back_0))) (.seq (.region [oLt 32 192 3, oSo 192 2 32]) .ret))))⟩
abbrev f_loessref1_Valid : FuncId := 91
def L_loessref1_Valid_0 : RCode := (.seq (.seq (.region [oMv 7 3, oMv 8 0, oLn 9 0 8, oLs 10 7 9]) (.cond (.tmp 10) .skip (.exit 0))) (.block 1 (.seq (.region [oMv 12 0, oMv 13 3, ⟨some 14, .cutS (.tmp 12) (some (.tmp 13)) none, none⟩, oK1 15 92 14, oMv 11 15, oXt 16 11 0, oXt 17 11 1, oXt 18 11 2, oMv 4 16, oMv 5 17, oMv 6 18]) (.seq (.seq (.region [oMv 19 6, oUn 20 19]) (.cond (.tmp 20) (.seq (.region [oMf 2]) .ret) .skip)) (.region [oMv 21 3, oMv 22 5, ⟨some 23, .bin .add (.tmp 21) (.tmp 22), none⟩, oMv 3 23])))))
def c_loessref1_Valid : RFunc := ⟨24, [(2, none)], (.seq (.region [oMf 2]) (.seq (.seq (.region [oMi 3 0]) (.block 0 (.loop L_loessref1_Valid_0))) (.seq (.region [⟨some 2, .move (.const (.bool true)), none⟩]) .ret)))⟩
abbrev f_loessref1_Decode : FuncId := 92
def L_loessref1_Decode_0 : RCode := (.seq (.seq (.region [oMv 51 9, oMv 52 6, oLs 53 51 52]) (.cond (.tmp 53) .skip (.exit 1))) (.seq (.block 2 (.seq (.seq (.region [oMv 56 0, oMv 57 9, ⟨some 58, .idxS (.tmp 56) (.tmp 57), none⟩, ⟨some 59, .bin .lss (.tmp 58) (.const (.int .u8 128)), none⟩, oMv 60 59, oMg 61 0 60 false, oMg 62 9 60 false, ⟨some 63, .idxS (.tmp 61) (.tmp 62), some (60, false)⟩, ⟨some 64, .bin .gtr (.tmp 63) (.const (.int .u8 191)), some (60, false)⟩, oPt 65 60 64]) (.cond (.tmp 65) (.seq (.region [⟨some 2, .move (.const (.int .i32 65533)), none⟩, oMi 3 1, oMf 4]) .ret) .skip)) (.region [oMv 66 8, ⟨some 67, .bin .mul (.tmp 66) (.const (.int .i32 64)), none⟩, oMv 68 0, oMv 69 9, ⟨some 70, .idxS (.tmp 68) (.tmp 69), none⟩, ⟨some 71, .conv .i32 (.tmp 70), none⟩, ⟨some 72, .bin .add (.tmp 67) (.tmp 71), none⟩, ⟨some 73, .bin .sub (.tmp 72) (.const (.int .i32 128)), none⟩, oMv 8 73]))) (.region [oMv 54 9, oAi 55 54 1, oMv 9 55])))
def c_loessref1_Decode : RFunc := ⟨91, [(2, none), (3, none), (4, none)], (.seq (.region [⟨some 2, .move (.const (.int .i32 0)), none⟩, oMi 3 0, oMf 4]) (.seq (.region [oMv 10 0, ⟨some 11, .idxS (.tmp 10) (.const (.int .i64 0)), none⟩, oMv 5 11]) (.seq (.region [oMi 6 0, ⟨some 7, .move (.const (.int .i32 0)), none⟩, ⟨some 8, .move (.const (.int .i32 0)), none⟩]) (.seq (.block 0 (.seq (.region [oMv 13 5, ⟨some 14, .bin .lss (.tmp 13) (.const (.int .u8 128)), none⟩, oMv 12 14]) (.cond (.tmp 12) (.seq (.region [oMv 15 5, ⟨some 16, .conv .i32 (.tmp 15), none⟩, oMv 2 16, oMi 3 1, ⟨some 4, .move (.const (.bool true)), none⟩]) .ret) (.seq (.region [oMv 18 5, ⟨some 19, .bin .geq (.tmp 18) (.const (.int .u8 192)), none⟩, oMv 20 19, oMg 21 5 20 true, ⟨some 22, .bin .lss (.tmp 21) (.const (.int .u8 224)), some (20, true)⟩, oPf 23 20 22, oMv 17 23]) (.cond (.tmp 17) (.region [oMv 24 5, ⟨some 25, .conv .i32 (.tmp 24), none⟩, ⟨some 26, .bin .sub (.tmp 25) (.const (.int .i32 192)), none⟩, oMi 6 2, ⟨some 7, .move (.const (.int .i32 128)), none⟩, oMv 8 26]) (.seq (.region [oMv 28 5, ⟨some 29, .bin .geq (.tmp 28) (.const (.int .u8 224)), none⟩, oMv 30 29, oMg 31 5 30 true, ⟨some 32, .bin .lss (.tmp 31) (.const (.int .u8 240)), some (30, true)⟩, oPf 33 30 32, oMv 27 33]) (.cond (.tmp 27) (.region [oMv 34 5, ⟨some 35, .conv .i32 (.tmp 34), none⟩, ⟨some 36, .bin .sub (.tmp 35) (.const (.int .i32 224)), none⟩, oMi 6 3, ⟨some 7, .move (.const (.int .i32 2048)), none⟩, oMv 8 36]) (.seq (.region [oMv 38 5, ⟨some 39, .bin .geq (.tmp 38) (.const (.int .u8 240)), none⟩, oMv 40 39, oMg 41 5 40 true, ⟨some 42, .bin .lss (.tmp 41) (.const (.int .u8 248)), some (40, true)⟩, oPf 43 40 42, oMv 37 43]) (.cond (.tmp 37) (.region [oMv 44 5, ⟨some 45, .conv .i32 (.tmp 44), none⟩, ⟨some 46, .bin .sub (.tmp 45) (.const (.int .i32 240)), none⟩, oMi 6 4, ⟨some 7, .move (.const (.int .i32 65536)), none⟩, oMv 8 46]) (.seq (.region [⟨some 2, .move (.const (.int .i32 65533)), none⟩, oMi 3 1, oMf 4]) .ret)))))))))) (.seq (.seq (.region [oMv 47 0, oLn 48 0 47, oMv 49 6, oLs 50 48 49]) (.cond (.tmp 50) (.seq (.region [⟨some 2, .move (.const (.int .i32 65533)), none⟩, oMi 3 1, oMf 4]) .ret) .skip)) (.seq (.seq (.region [oMi 9 1]) (.block 1 (.loop L_loessref1_Decode_0))) (.seq (.seq (.region [oMv 74 8, oMv 75 7, oLs 76 74 75, oMv 77 76, oMg 78 8 77 false, ⟨some 79, .bin .gtr (.tmp 78) (.const (.int .i32 1114111)), some (77, false)⟩, oPt 80 77 79, oMv 81 80, oMg 82 8 81 false, ⟨some 83, .bin .geq (.tmp 82) (.const (.int .i32 55296)), some (81, false)⟩, oMg 84 83 81 false, oMg 85 8 84 true, ⟨some 86, .bin .lss (.tmp 85) (.const (.int .i32 57344)), some (84, true)⟩, ⟨some 87, .pick (.tmp 84) (.tmp 86) (.const (.bool false)), some (81, false)⟩, oPt 88 81 87]) (.cond (.tmp 88) (.seq (.region [⟨some 2, .move (.const (.int .i32 65533)), none⟩, oMi 3 1, oMf 4]) .ret) .skip)) (.seq (.region [oMv 89 8, oMv 90 6, oMv 2 89, oMv 3 90, ⟨some 4, .move (.const (.bool true)), none⟩]) .ret))))))))⟩
abbrev f_slices_Index_string : FuncId := 93
def L_slices_Index_string_0 : RCode := (.seq (.region [oLs 9 8 7]) (.seq (.cond (.tmp 9) .skip (.exit 0)) (.seq (.block 1 (.seq (.region [oMv 10 8, oMv 5 10]) (.seq (.region [oMv 11 1, oMv 12 0, oMv 13 5, oIx 14 1 12 13, oLf 15 1 14, ⟨some 16, .bin .eql (.tmp 11) (.tmp 15), none⟩]) (.cond (.tmp 16) (.seq (.region [oMv 17 5, oMv 4 17]) .ret) .skip)))) (.region [oAi 18 8 1, oMv 8 18]))))
def c_slices_Index_string : RFunc := ⟨19, [(4, none)], (.seq (.region [oMi 4 0]) (.seq (.seq (.region [oMv 6 0, oLn 7 1 6, oMi 8 0]) (.block 0 (.loop L_slices_Index_string_0))) (.seq (.region [oMi 4 (-1)]) .ret)))⟩
abbrev f_num_GetText : FuncId := 97
def c_num_GetText : RFunc := ⟨42, [(2, none), (3, none), (4, none)], (.seq (.region [⟨some 2, .move (.const (.string ⟨#[]⟩)), none⟩, oMi 3 0, oMi 4 0]) (.seq (.region [oMv 9 0, oK1 10 98 9, oMv 8 10, oXt 11 8 0, oXt 12 8 1, oXt 13 8 2, oMv 5 11, oMv 6 12, oMv 7 13]) (.seq (.block 0 (.seq (.region [oMv 15 7, oNi 16 15 0, oMv 14 16]) (.cond (.tmp 14) (.seq (.region [oMv 17 7, ⟨some 2, .move (.const (.string ⟨#[]⟩)), none⟩, oMi 3 0, oMv 4 17]) .ret) (.seq (.region [oMv 19 5, oLi 20 19 0, oMv 21 20, oMg 22 5 21 false, ⟨some 23, .bin .gtr (.tmp 22) (.const (.int .i64 65536)), some (21, false)⟩, oPt 24 21 23, oMv 18 24]) (.cond (.tmp 18) (.seq (.region [⟨some 2, .move (.const (.string ⟨#[]⟩)), none⟩, oMi 3 0, oMi 4 1]) .ret) (.seq (.region [oMv 26 5, oMv 27 0, oLn 28 1 27, oMv 29 6, ⟨some 30, .bin .sub (.tmp 28) (.tmp 29), none⟩, ⟨some 31, .bin .gtr (.tmp 26) (.tmp 30), none⟩, oMv 25 31]) (.cond (.tmp 25) (.seq (.region [⟨some 2, .move (.const (.string ⟨#[]⟩)), none⟩, oMi 3 0, oMi 4 2]) .ret) .skip))))))) (.seq (.region [oMv 32 0, oMv 33 6, oMv 34 6, oMv 35 5, ⟨some 36, .bin .add (.tmp 34) (.tmp 35), none⟩, ⟨some 37, .cut 1 (.tmp 32) (some (.tmp 33)) (some (.tmp 36)) none, none⟩, ⟨some 38, .strOf (.tmp 37), none⟩, oMv 39 6, oMv 40 5, ⟨some 41, .bin .add (.tmp 39) (.tmp 40), none⟩, oMv 2 38, oMv 3 41, oMi 4 0]) .ret))))⟩
abbrev f_num_Get : FuncId := 98
def L_num_Get_0 : RCode := (.seq (.region [oLs 12 11 10]) (.seq (.cond (.tmp 12) .skip (.exit 0)) (.seq (.block 1 (.seq (.region [oMv 13 11, oIx 14 1 9 11, oLf 15 1 14, oMv 6 13, oMv 7 15]) (.seq (.seq (.region [oMv 16 6, oEi 17 16 9, oMv 18 17, oMg 19 7 18 true, ⟨some 20, .bin .gtr (.tmp 19) (.const (.int .u8 1)), some (18, true)⟩, oPf 21 18 20]) (.cond (.tmp 21) (.seq (.region [oMi 2 0, oMi 3 0, oMi 4 1]) .ret) .skip)) (.seq (.region [oMv 22 5, oMv 23 7, ⟨some 24, .bin .and (.tmp 23) (.const (.int .u8 127)), none⟩, ⟨some 25, .conv .u64 (.tmp 24), none⟩, oMv 26 6, ⟨some 27, .bin .mul (.const (.int .i64 7)) (.tmp 26), none⟩, ⟨some 28, .bin .shl (.tmp 25) (.tmp 27), none⟩, ⟨some 29, .bin .or (.tmp 22) (.tmp 28), none⟩, oMv 5 29]) (.seq (.seq (.region [oMv 30 7, ⟨some 31, .bin .gtr (.tmp 30) (.const (.int .u8 127)), none⟩]) (.cond (.tmp 31) (.exit 1) .skip)) (.seq (.seq (.region [oMv 32 6, ⟨some 33, .bin .gtr (.tmp 32) (.const (.int .i64 0)), none⟩, oMv 34 33, oMg 35 7 34 true, ⟨some 36, .bin .eql (.tmp 35) (.const (.int .u8 0)), some (34, true)⟩, oPf 37 34 36]) (.cond (.tmp 37) (.seq (.region [oMi 2 0, oMi 3 0, oMi 4 1]) .ret) .skip)) (.seq (.region [oMv 38 5, ⟨some 39, .bin .shr (.tmp 38) (.const (.int .u64 1)), none⟩, ⟨some 40, .conv .i64 (.tmp 39), none⟩, oMv 8 40]) (.seq (.seq (.region [oMv 41 5, ⟨some 42, .bin .and (.tmp 41) (.const (.int .u64 1)), none⟩, ⟨some 43, .bin .eql (.tmp 42) (.const (.int .u64 1)), none⟩]) (.cond (.tmp 43) (.region [oMv 44 8, ⟨some 45, .un .xor (.tmp 44), none⟩, oMv 8 45]) .skip)) (.seq (.region [oMv 46 8, oMv 47 6, oAi 48 47 1, oMv 2 46, oMv 3 48, oMi 4 0]) .ret))))))))) (.region [oAi 49 11 1, oMv 11 49]))))
def c_num_Get : RFunc := ⟨50, [(2, none), (3, none), (4, none)], (.seq (.region [oMi 2 0, oMi 3 0, oMi 4 0]) (.seq (.region [⟨some 5, .move (.const (.int .u64 0)), none⟩]) (.seq (.seq (.region [oMv 9 0, oLn 10 1 9, oMi 11 0]) (.block 0 (.loop L_num_Get_0))) (.seq (.region [oMi 2 0, oMi 3 0, oMi 4 2]) .ret))))⟩
abbrev f_value_Get : FuncId := 99
def c_value_Get : RFunc := ⟨60, [(2, some (true, 3)), (3, none), (4, none)], (.seq (.region [⟨some 2, .new 26 [.int .i64 0, .int .i64 0, .string ⟨#[]⟩], none⟩, oMi 3 0, oMi 4 0]) (.seq (.region [oMv 11 0, oK1 12 98 11, oMv 10 12, oXt 13 10 0, oXt 14 10 1, oXt 15 10 2, oMv 5 13, oMv 6 14, oMv 7 15]) (.seq (.seq (.region [oMv 16 7, oNi 17 16 0]) (.cond (.tmp 17) (.seq (.region [⟨some 18, .build [.int .i64 0, .int .i64 0, .string ⟨#[]⟩] [], none⟩, oMv 19 7, oSo 3 2 18, oMi 3 0, oMv 4 19]) .ret) .skip)) (.seq (.region [oMv 20 5, ⟨some 21, .build [.int .i64 0, .int .i64 0, .string ⟨#[]⟩] [(0, (1, .tmp 20))], none⟩, ⟨some 8, .new 26 [.int .i64 0, .int .i64 0, .string ⟨#[]⟩], none⟩, oSo 3 8 21]) (.seq (.region [oMi 9 0]) (.seq (.seq (.region [oMv 22 5]) (.block 0 (.seq (.region [oEi 24 22 1, oMv 23 24]) (.cond (.tmp 23) (.region [oMv 26 0, oMv 27 6, ⟨some 28, .cut 1 (.tmp 26) (some (.tmp 27)) none none, none⟩, oK1 29 98 28, oMv 25 29, oXt 30 25 0, oXt 31 25 1, oXt 32 25 2, oFd 33 1 8, oSo 1 33 30, oMv 9 31, oMv 7 32]) (.seq (.region [oEi 35 22 2, oMv 34 35]) (.cond (.tmp 34) (.region [oMv 37 0, oMv 38 6, ⟨some 39, .cut 1 (.tmp 37) (some (.tmp 38)) none none, none⟩, oK1 40 97 39, oMv 36 40, oXt 41 36 0, oXt 42 36 1, oXt 43 36 2, oFd 44 2 8, oSo 1 44 41, oMv 9 42, oMv 7 43]) (.region [oMi 7 1]))))))) (.seq (.seq (.region [oMv 45 7, oEi 46 45 0]) (.cond (.tmp 46) (.region [oLt 48 3 8, oK1 49 77 48, oMv 47 49, oXt 50 47 0, oXt 51 47 1, oMv 7 51]) .skip)) (.seq (.seq (.region [oMv 52 7, oNi 53 52 0]) (.cond (.tmp 53) (.seq (.region [⟨some 54, .build [.int .i64 0, .int .i64 0, .string ⟨#[]⟩] [], none⟩, oMv 55 7, oSo 3 2 54, oMi 3 0, oMv 4 55]) .ret) .skip)) (.seq (.region [oLt 56 3 8, oMv 57 6, oMv 58 9, ⟨some 59, .bin .add (.tmp 57) (.tmp 58), none⟩, oSo 3 2 56, oMv 3 59, oMi 4 0]) .ret)))))))))⟩
abbrev f_num_PutText : FuncId := 100
def c_num_PutText : RFunc := ⟨11, [(4, none)], (.seq (.region [oNs 4]) (.seq (.region [oMv 5 0, oMv 6 1, oLn 7 0 6, oK2 8 101 5 7, oMv 9 1, oAp 10 5 1 1 8 9, oMv 4 10]) .ret))⟩
abbrev f_num_Put : FuncId := 101
def L_num_Put_0 : RCode := (.seq (.seq (.region [oMv 13 5, ⟨some 14, .bin .gtr (.tmp 13) (.const (.int .u64 127)), none⟩]) (.cond (.tmp 14) .skip (.exit 0))) (.block 1 (.seq (.region [oMv 15 0, oMv 16 5, ⟨some 17, .conv .u8 (.tmp 16), none⟩, ⟨some 18, .bin .or (.tmp 17) (.const (.int .u8 128)), none⟩, ⟨some 19, .lit 5 1 1 [.int .u8 0] [(0, (1, .tmp 18))], none⟩, oAp 20 5 1 1 15 19, oMv 0 20]) (.region [oMv 21 5, ⟨some 22, .bin .shr (.tmp 21) (.const (.int .u64 7)), none⟩, oMv 5 22]))))
def c_num_Put : RFunc := ⟨28, [(4, none)], (.seq (.region [oNs 4]) (.seq (.region [oMv 6 1, ⟨some 7, .conv .u64 (.tmp 6), none⟩, ⟨some 8, .bin .shl (.tmp 7) (.const (.int .u64 1)), none⟩, oMv 5 8]) (.seq (.seq (.region [oMv 9 1, oLi 10 9 0]) (.cond (.tmp 10) (.region [oMv 11 5, ⟨some 12, .un .xor (.tmp 11), none⟩, oMv 5 12]) .skip)) (.seq (.block 0 (.loop L_num_Put_0)) (.seq (.region [oMv 23 0, oMv 24 5, ⟨some 25, .conv .u8 (.tmp 24), none⟩, ⟨some 26, .lit 5 1 1 [.int .u8 0] [(0, (1, .tmp 25))], none⟩, oAp 27 5 1 1 23 26, oMv 4 27]) .ret)))))⟩
abbrev f_value_Put : FuncId := 102
def c_value_Put : RFunc := ⟨20, [(4, none)], (.seq (.region [oBx 3 26 1, oNs 4]) (.seq (.region [oMv 5 0, oFd 6 0 3, oLf 7 1 6, oK2 8 101 5 7, oMv 0 8]) (.seq (.seq (.region [oFd 9 0 3, oLf 10 1 9, oEi 11 10 1]) (.cond (.tmp 11) (.seq (.region [oMv 12 0, oFd 13 1 3, oLf 14 1 13, oK2 15 101 12 14, oMv 4 15]) .ret) .skip)) (.seq (.region [oMv 16 0, oFd 17 2 3, oLf 18 1 17, oK2 19 100 16 18, oMv 4 19]) .ret))))⟩
abbrev f_bytes_Clone : FuncId := 103
def c_bytes_Clone : RFunc := ⟨8, [(2, none)], (.seq (.region [oNs 2]) (.seq (.seq (.region [oMv 3 0, ⟨some 4, .eqN false 1 (.tmp 3) (.const (.slice none 0 0)), none⟩]) (.cond (.tmp 4) (.seq (.region [oNs 2]) .ret) .skip)) (.seq (.region [⟨some 5, .lit 5 1 0 [] [], none⟩, oMv 6 0, oAp 7 5 1 1 5 6, oMv 2 7]) .ret)))⟩
abbrev f_runes_Valid : FuncId := 104
def L_runes_Valid_0 : RCode := (.seq (.region [⟨some 8, .next (.tmp 7), none⟩, oXt 9 8 0]) (.seq (.cond (.tmp 9) .skip (.exit 0)) (.block 1 (.seq (.region [oXt 10 8 1, oXt 11 8 2, oMv 4 10, oMv 5 11]) (.seq (.seq (.region [oMv 12 3, ⟨some 13, .bin .geq (.tmp 12) (.const (.int .i64 0)), none⟩, oMv 14 13, oMg 15 4 14 true, oMg 16 3 14 true, ⟨some 17, .bin .add (.tmp 16) (.const (.int .i64 1)), some (14, true)⟩, ⟨some 18, .bin .eql (.tmp 15) (.tmp 17), some (14, true)⟩, oPf 19 14 18]) (.cond (.tmp 19) (.seq (.region [oMf 2]) .ret) .skip)) (.seq (.region [oMi 3 (-1)]) (.seq (.region [oMv 20 5, ⟨some 21, .bin .eql (.tmp 20) (.const (.int .i32 65533)), none⟩]) (.cond (.tmp 21) (.region [oMv 22 4, oMv 3 22]) .skip))))))))
def c_runes_Valid : RFunc := ⟨32, [(2, none)], (.seq (.region [oMf 2]) (.seq (.region [oMi 3 (-1)]) (.seq (.seq (.region [oMv 6 0, ⟨some 7, .iter (.tmp 6), none⟩]) (.block 0 (.loop L_runes_Valid_0))) (.seq (.region [oMv 23 3, oLi 24 23 0, oMv 25 24, oMg 26 0 25 false, ⟨some 27, .len 0 (.tmp 26), some (25, false)⟩, oMg 28 3 25 false, ⟨some 29, .bin .add (.tmp 28) (.const (.int .i64 1)), some (25, false)⟩, ⟨some 30, .bin .gtr (.tmp 27) (.tmp 29), some (25, false)⟩, oPt 31 25 30, oMv 2 31]) .ret))))⟩
abbrev f_cuckoo_Dir_way_1 : FuncId := 105
def c_cuckoo_Dir_way_1 : RFunc := ⟨23, [], (.seq (.region [oBx 5 140 1]) (.seq (.region [oLf 9 1 2, oMv 10 0, ⟨some 11, .look .i (.agg #[.int .i64 0, .int .i64 0]) true (.tmp 9) (.tmp 10), none⟩, oMv 8 11, oXt 12 8 0, oXt 13 8 1, ⟨some 6, .new 140 [.int .i64 0, .int .i64 0], none⟩, oSo 2 6 12, oMv 7 13]) (.seq (.region [oMv 14 7, oUn 15 14]) (.cond (.tmp 15) (.seq (.region [oLf 16 1 2, oMv 17 0, oLt 18 2 5, ⟨none, .upd .i (.tmp 16) (.tmp 17) (.tmp 18), none⟩]) (.region [oLf 19 1 3, oMv 20 0, ⟨some 21, .lit 3 1 1 [.int .i64 0] [(0, (1, .tmp 20))], none⟩, oAp 22 3 1 8 19 21, oSo 1 3 22])) .skip))))⟩
abbrev f_cuckoo_both : FuncId := 106
def c_cuckoo_both : RFunc := ⟨12, [(2, some (true, 2))], (.seq (.region [⟨some 2, .new 146 [.int .i64 0, .int .i64 0], none⟩]) (.seq (.region [oMv 4 0, oK1 5 83 4, oMv 3 5]) (.seq (.region [oMv 6 3, oMv 7 3, oMv 8 0, oK1 9 39 8, oK2 10 84 7 9, ⟨some 11, .build [.int .i64 0, .int .i64 0] [(0, (1, .tmp 6)), (1, (1, .tmp 10))], none⟩, oSo 2 2 11]) .ret)))⟩
abbrev f_slices_IndexFunc_cuckoo_entry : FuncId := 107
def L_slices_IndexFunc_cuckoo_entry_0 : RCode := (.seq (.region [oLs 9 8 7]) (.seq (.cond (.tmp 9) .skip (.exit 0)) (.seq (.block 1 (.seq (.region [oMv 10 8, oMv 5 10]) (.seq (.region [oMv 11 1, oMv 12 0, oMv 13 5, oIx 14 3 12 13, oLt 15 3 14, ⟨some 16, .call (.tmp 11) [.tmp 15], none⟩]) (.cond (.tmp 16) (.seq (.region [oMv 17 5, oMv 4 17]) .ret) .skip)))) (.region [oAi 18 8 1, oMv 8 18]))))
def c_slices_IndexFunc_cuckoo_entry : RFunc := ⟨19, [(4, none)], (.seq (.region [oMi 4 0]) (.seq (.seq (.region [oMv 6 0, oLn 7 1 6, oMi 8 0]) (.block 0 (.loop L_slices_IndexFunc_cuckoo_entry_0))) (.seq (.region [oMi 4 (-1)]) .ret)))⟩
abbrev f_cuckoo_Dir_free_1 : FuncId := 108
def c_cuckoo_Dir_free_1 : RFunc := ⟨6, [(2, none)], (.seq (.region [oBx 1 126 0, oMf 2]) (.seq (.region [oFd 3 0 1, oLf 4 1 3, oUn 5 4, oMv 2 5]) .ret))⟩
abbrev f_rank_Rank_Len : FuncId := 112
def c_rank_Rank_Len : RFunc := ⟨12, [(2, none)], (.seq (.region [oMi 2 0]) (.seq (.seq (.region [oMv 3 0, ⟨some 4, .eqN false 0 (.tmp 3) (.const (.pointer none)), none⟩]) (.cond (.tmp 4) (.seq (.region [oMi 2 0]) .ret) .skip)) (.seq (.region [oMv 5 0, oNc 6 5, oFd 7 0 6, oLf 8 1 7, oLn 9 1 8, ⟨some 10, .bin .sub (.tmp 9) (.const (.int .i64 1)), none⟩, ⟨some 11, .mm true [.const (.int .i64 0), .tmp 10], none⟩, oMv 2 11]) .ret)))⟩
abbrev f_slices_pdqsortOrdered_int : FuncId := 113
def L_slices_pdqsortOrdered_int_0 : RCode := (.block 1 (.seq (.region [oMv 19 2, oMv 20 1, ⟨some 21, .bin .sub (.tmp 19) (.tmp 20), none⟩, oMv 10 21]) (.seq (.seq (.region [oMv 22 10, ⟨some 23, .bin .leq (.tmp 22) (.const (.int .i64 12)), none⟩]) (.cond (.tmp 23) (.seq (.region [oMv 24 0, oMv 25 1, oMv 26 2, ⟨some 27, .call (.fn 117) [.tmp 24, .tmp 25, .tmp 26], none⟩]) .ret) .skip)) (.seq (.seq (.region [oMv 28 3, oEi 29 28 0]) (.cond (.tmp 29) (.seq (.region [oMv 30 0, oMv 31 1, oMv 32 2, ⟨some 33, .call (.fn 118) [.tmp 30, .tmp 31, .tmp 32], none⟩]) .ret) .skip)) (.seq (.seq (.region [oMv 34 8, oUn 35 34]) (.cond (.tmp 35) (.seq (.region [oMv 36 0, oMv 37 1, oMv 38 2, ⟨some 39, .call (.fn 119) [.tmp 36, .tmp 37, .tmp 38], none⟩]) (.region [oMv 40 3, ⟨some 41, .bin .sub (.tmp 40) (.const (.int .i64 1)), none⟩, oMv 3 41])) .skip)) (.seq (.region [oMv 43 0, oMv 44 1, oMv 45 2, ⟨some 46, .call (.fn 120) [.tmp 43, .tmp 44, .tmp 45], none⟩, oMv 42 46, oXt 47 42 0, oXt 48 42 1, oMv 11 47, oMv 12 48]) (.seq (.seq (.region [oMv 49 12, oEi 50 49 2]) (.cond (.tmp 50) (.seq (.region [oMv 51 0, oMv 52 1, oMv 53 2, ⟨some 54, .call (.fn 121) [.tmp 51, .tmp 52, .tmp 53], none⟩]) (.seq (.region [oMv 55 2, ⟨some 56, .bin .sub (.tmp 55) (.const (.int .i64 1)), none⟩, oMv 57 11, oMv 58 1, ⟨some 59, .bin .sub (.tmp 57) (.tmp 58), none⟩, ⟨some 60, .bin .sub (.tmp 56) (.tmp 59), none⟩, oMv 11 60]) (.region [oMi 12 1]))) .skip)) (.seq (.seq (.region [oMv 61 8, oMv 62 61, oMg 63 9 62 true, oPf 64 62 63, oMv 65 64, oMg 66 12 65 true, ⟨some 67, .bin .eql (.tmp 66) (.const (.int .i64 1)), some (65, true)⟩, oPf 68 65 67]) (.cond (.tmp 68) (.seq (.region [oMv 69 0, oMv 70 1, oMv 71 2, ⟨some 72, .call (.fn 122) [.tmp 69, .tmp 70, .tmp 71], none⟩]) (.cond (.tmp 72) .ret .skip)) .skip)) (.seq (.seq (.region [oMv 73 1, ⟨some 74, .bin .gtr (.tmp 73) (.const (.int .i64 0)), none⟩, oMv 75 74, oMg 76 0 75 true, oMg 77 1 75 true, ⟨some 78, .bin .sub (.tmp 77) (.const (.int .i64 1)), some (75, true)⟩, ⟨some 79, .idx 1 (.tmp 76) (.tmp 78), some (75, true)⟩, oGl 80 1 79 75 true, oMg 81 0 75 true, oMg 82 11 75 true, ⟨some 83, .idx 1 (.tmp 81) (.tmp 82), some (75, true)⟩, oGl 84 1 83 75 true, ⟨some 85, .call (.fn 123) [.tmp 80, .tmp 84], some (75, true)⟩, ⟨some 86, .un .not (.tmp 85), some (75, true)⟩, oPf 87 75 86]) (.cond (.tmp 87) (.seq (.region [oMv 88 0, oMv 89 1, oMv 90 2, oMv 91 11, ⟨some 92, .call (.fn 124) [.tmp 88, .tmp 89, .tmp 90, .tmp 91], none⟩, oMv 13 92]) (.seq (.region [oMv 93 13, oMv 1 93]) (.exit 1))) .skip)) (.seq (.region [oMv 95 0, oMv 96 1, oMv 97 2, oMv 98 11, ⟨some 99, .call (.fn 125) [.tmp 95, .tmp 96, .tmp 97, .tmp 98], none⟩, oMv 94 99, oXt 100 94 0, oXt 101 94 1, oMv 14 100, oMv 15 101]) (.seq (.region [oMv 102 15, oMv 9 102]) (.seq (.region [oMv 103 14, oMv 104 1, ⟨some 105, .bin .sub (.tmp 103) (.tmp 104), none⟩, oMv 106 2, oMv 107 14, ⟨some 108, .bin .sub (.tmp 106) (.tmp 107), none⟩, oMv 16 105, oMv 17 108]) (.seq (.region [oMv 109 10, ⟨some 110, .bin .quo (.tmp 109) (.const (.int .i64 8)), none⟩, oMv 18 110]) (.seq (.region [oMv 111 16, oMv 112 17, oLs 113 111 112]) (.cond (.tmp 113) (.seq (.region [oMv 114 16, oMv 115 18, ⟨some 116, .bin .geq (.tmp 114) (.tmp 115), none⟩, oMv 8 116]) (.seq (.region [oMv 117 0, oMv 118 1, oMv 119 14, oMv 120 3, ⟨some 121, .call (.fn 113) [.tmp 117, .tmp 118, .tmp 119, .tmp 120], none⟩]) (.region [oMv 122 14, oAi 123 122 1, oMv 1 123]))) (.seq (.region [oMv 124 17, oMv 125 18, ⟨some 126, .bin .geq (.tmp 124) (.tmp 125), none⟩, oMv 8 126]) (.seq (.region [oMv 127 0, oMv 128 14, oAi 129 128 1, oMv 130 2, oMv 131 3, ⟨some 132, .call (.fn 113) [.tmp 127, .tmp 129, .tmp 130, .tmp 131], none⟩]) (.region [oMv 133 14, oMv 2 133]))))))))))))))))))
def c_slices_pdqsortOrdered_int : RFunc := ⟨134, [], (.seq (.region [⟨some 8, .move (.const (.bool true)), none⟩]) (.seq (.region [⟨some 9, .move (.const (.bool true)), none⟩]) (.block 0 (.loop L_slices_pdqsortOrdered_int_0))))⟩
abbrev f_math_bits_Len : FuncId := 114
def c_math_bits_Len : RFunc := ⟨8, [(2, none)], (.seq (.region [oMi 2 0]) (.seq (.cond (.const (.bool false)) (.seq (.region [oMv 3 0, ⟨some 4, .conv .u32 (.tmp 3), none⟩, oK1 5 126 4, oMv 2 5]) .ret) .skip) (.seq (.region [oMv 6 0, oK1 7 127 6, oMv 2 7]) .ret)))⟩
abbrev f_slices_insertionSortOrdered_int : FuncId := 117
def L_slices_insertionSortOrdered_int_1 : RCode := (.seq (.seq (.region [oMv 16 7, oMv 17 1, ⟨some 18, .bin .gtr (.tmp 16) (.tmp 17), none⟩, oMv 19 18, oMg 20 0 19 true, oMg 21 7 19 true, ⟨some 22, .idx 1 (.tmp 20) (.tmp 21), some (19, true)⟩, oGl 23 1 22 19 true, oMg 24 0 19 true, oMg 25 7 19 true, ⟨some 26, .bin .sub (.tmp 25) (.const (.int .i64 1)), some (19, true)⟩, ⟨some 27, .idx 1 (.tmp 24) (.tmp 26), some (19, true)⟩, oGl 28 1 27 19 true, ⟨some 29, .call (.fn 123) [.tmp 23, .tmp 28], some (19, true)⟩, oPf 30 19 29]) (.cond (.tmp 30) .skip (.exit 2))) (.seq (.block 3 (.region [oMv 33 0, oMv 34 7, oMv 35 0, oMv 36 7, ⟨some 37, .bin .sub (.tmp 36) (.const (.int .i64 1)), none⟩, oMv 38 0, oMv 39 7, ⟨some 40, .bin .sub (.tmp 39) (.const (.int .i64 1)), none⟩, oIx 41 1 38 40, oLf 42 1 41, oMv 43 0, oMv 44 7, oIx 45 1 43 44, oLf 46 1 45, oIx 47 1 33 34, oSo 1 47 42, oIx 48 1 35 37, oSo 1 48 46])) (.region [oMv 31 7, ⟨some 32, .bin .sub (.tmp 31) (.const (.int .i64 1)), none⟩, oMv 7 32])))
def L_slices_insertionSortOrdered_int_0 : RCode := (.seq (.seq (.region [oMv 10 6, oMv 11 2, oLs 12 10 11]) (.cond (.tmp 12) .skip (.exit 0))) (.seq (.block 1 (.seq (.region [oMv 15 6, oMv 7 15]) (.block 2 (.loop L_slices_insertionSortOrdered_int_1)))) (.region [oMv 13 6, oAi 14 13 1, oMv 6 14])))
def c_slices_insertionSortOrdered_int : RFunc := ⟨49, [], (.seq (.region [oMv 8 1, oAi 9 8 1, oMv 6 9]) (.block 0 (.loop L_slices_insertionSortOrdered_int_0)))⟩
abbrev f_cmp_Less_int : FuncId := 123
def c_cmp_Less_int : RFunc := ⟨17, [(4, none)], (.seq (.region [oMf 4]) (.seq (.region [oMv 5 0, oK1 6 142 5, oMv 7 6, oMg 8 1 7 true, ⟨some 9, .call (.fn 142) [.tmp 8], some (7, true)⟩, ⟨some 10, .un .not (.tmp 9), some (7, true)⟩, oPf 11 7 10, oMv 12 11, oMg 13 0 12 false, oMg 14 1 12 false, ⟨some 15, .bin .lss (.tmp 13) (.tmp 14), some (12, false)⟩, oPt 16 12 15, oMv 4 16]) .ret))⟩
abbrev f_math_bits_Len64 : FuncId := 127
def c_math_bits_Len64 : RFunc := ⟨25, [(2, none)], (.seq (.region [oMi 2 0]) (.seq (.seq (.region [oMv 3 0, ⟨some 4, .bin .geq (.tmp 3) (.const (.int .u64 4294967296)), none⟩]) (.cond (.tmp 4) (.seq (.region [oMv 5 0, ⟨some 6, .bin .shr (.tmp 5) (.const (.int .u64 32)), none⟩, oMv 0 6]) (.region [oMi 2 32])) .skip)) (.seq (.seq (.region [oMv 7 0, ⟨some 8, .bin .geq (.tmp 7) (.const (.int .u64 65536)), none⟩]) (.cond (.tmp 8) (.seq (.region [oMv 9 0, ⟨some 10, .bin .shr (.tmp 9) (.const (.int .u64 16)), none⟩, oMv 0 10]) (.region [oMv 11 2, oAi 12 11 16, oMv 2 12])) .skip)) (.seq (.seq (.region [oMv 13 0, ⟨some 14, .bin .geq (.tmp 13) (.const (.int .u64 256)), none⟩]) (.cond (.tmp 14) (.seq (.region [oMv 15 0, ⟨some 16, .bin .shr (.tmp 15) (.const (.int .u64 8)), none⟩, oMv 0 16]) (.region [oMv 17 2, oAi 18 17 8, oMv 2 18])) .skip)) (.seq (.region [oMv 19 2, oMv 20 0, ⟨some 21, .conv .u8 (.tmp 20), none⟩, ⟨some 22, .idxS (.const (.string ⟨#[0, 1, 2, 2, 3, 3, 3, 3, 4, 4, 4, 4, 4, 4, 4, 4, 5, 5, 5, 5, 5, 5, 5, 5, 5, 5, 5, 5, 5, 5, 5, 5, 6, 6, 6, 6, 6, 6, 6, 6, 6, 6, 6, 6, 6, 6, 6, 6, 6, 6, 6, 6, 6, 6, 6, 6, 6, 6, 6, 6, 6, 6, 6, 6, 7, 7, 7, 7, 7, 7, 7, 7, 7, 7, 7, 7, 7, 7, 7, 7, 7, 7, 7, 7, 7, 7, 7, 7, 7, 7, 7, 7, 7, 7, 7, 7, 7, 7, 7, 7, 7, 7, 7, 7, 7, 7, 7, 7, 7, 7, 7, 7, 7, 7, 7, 7, 7, 7, 7, 7, 7, 7, 7, 7, 7, 7, 7, 7, 8, 8, 8, 8, 8, 8, 8, 8, 8, 8, 8, 8, 8, 8, 8, 8, 8, 8, 8, 8, 8, 8, 8, 8, 8, 8, 8, 8, 8, 8, 8, 8, 8, 8, 8, 8, 8, 8, 8, 8, 8, 8, 8, 8, 8, 8, 8, 8, 8, 8, 8, 8, 8, 8, 8, 8, 8, 8, 8, 8, 8, 8, 8, 8, 8, 8, 8, 8, 8, 8, 8, 8, 8, 8, 8, 8, 8, 8, 8, 8, 8, 8, 8, 8, 8, 8, 8, 8, 8, 8, 8, 8, 8, 8, 8, 8, 8, 8, 8, 8, 8, 8, 8, 8, 8, 8, 8, 8, 8, 8, 8, 8, 8, 8, 8, 8, 8, 8, 8, 8, 8, 8, 8, 8, 8, 8, 8, 8]⟩)) (.tmp 21), none⟩, ⟨some 23, .conv .i64 (.tmp 22), none⟩, ⟨some 24, .bin .add (.tmp 19) (.tmp 23), none⟩, oMv 2 24]) .ret)))))⟩
abbrev f_cmp_isNaN_int : FuncId := 142
def c_cmp_isNaN_int : RFunc := ⟨6, [(2, none)], (.seq (.region [oMf 2]) (.seq (.region [oMv 3 0, oMv 4 0, ⟨some 5, .bin .neq (.tmp 3) (.tmp 4), none⟩, oMv 2 5]) .ret))⟩
theorem ok_5 : rFunc Tryz.prog [] 5 = some c_loesslaw20_TableLog := by kernel_rfl
theorem ok_6 : rFunc Tryz.prog [] 6 = some c_loesslaw20_begun := by kernel_rfl
theorem ok_7 : rFunc Tryz.prog [] 7 = some c_loesslaw19_Lay := by kernel_rfl
theorem ok_8 : rFunc Tryz.prog [] 8 = some c_loesslaw3_Cut := by kernel_rfl
theorem ok_9 : rFunc Tryz.prog [] 9 = some c_hashstore_New := by kernel_rfl
theorem ok_10 : rFunc Tryz.prog [] 10 = some c_loesslaw19_Of := by kernel_rfl
theorem ok_12 : rFunc Tryz.prog [] 12 = some c_hashstore_Open := by kernel_rfl
theorem ok_13 : rFunc Tryz.prog [] 13 = some c_hashstore_Store_Bytes := by kernel_rfl
theorem ok_15 : rFunc Tryz.prog [] 15 = some c_hashstore_Store_Len := by kernel_rfl
theorem ok_16 : rFunc Tryz.prog [] 16 = some c_loesslaw10_Recs := by kernel_rfl
theorem ok_17 : rFunc Tryz.prog [] 17 = some c_logstore_New := by kernel_rfl
theorem ok_18 : rFunc Tryz.prog [] 18 = some c_logstore_Log_Put := by kernel_rfl
theorem ok_19 : rFunc Tryz.prog [] 19 = some c_logstore_Log_Slot := by kernel_rfl
theorem ok_20 : rFunc Tryz.prog [] 20 = some c_loessref10_EqRecs := by kernel_rfl
theorem ok_21 : rFunc Tryz.prog [] 21 = some c_hashstore_Store_List := by kernel_rfl
theorem ok_22 : rFunc Tryz.prog [] 22 = some c_logstore_Log_List := by kernel_rfl
theorem ok_23 : rFunc Tryz.prog [] 23 = some c_hashstore_Store_Get := by kernel_rfl
theorem ok_24 : rFunc Tryz.prog [] 24 = some c_logstore_Log_Get := by kernel_rfl
theorem ok_25 : rFunc Tryz.prog [] 25 = some c_loessref10_Eq := by kernel_rfl
theorem ok_26 : rFunc Tryz.prog [] 26 = some c_hashstore_Store_Reads := by kernel_rfl
theorem ok_27 : rFunc Tryz.prog [] 27 = some c_logstore_Log_Reads := by kernel_rfl
theorem ok_28 : rFunc Tryz.prog [] 28 = some c_loesslaw19_Begun := by kernel_rfl
theorem ok_29 : rFunc Tryz.prog [] 29 = some c_loesslaw10_Cut := by kernel_rfl
theorem ok_30 : rFunc Tryz.prog [] 30 = some c_loessref10_Find := by kernel_rfl
theorem ok_31 : rFunc Tryz.prog [] 31 = some c_loessref10_Records := by kernel_rfl
theorem ok_32 : rFunc Tryz.prog [] 32 = some c_loessref10_May := by kernel_rfl
theorem ok_33 : rFunc Tryz.prog [] 33 = some c_loessref6_Hash := by kernel_rfl
theorem ok_34 : rFunc Tryz.prog [] 34 = some c_loessref6_First := by kernel_rfl
theorem ok_35 : rFunc Tryz.prog [] 35 = some c_loessref6_Other := by kernel_rfl
theorem ok_36 : rFunc Tryz.prog [] 36 = some c_loessref6_Tag := by kernel_rfl
theorem ok_37 : rFunc Tryz.prog [] 37 = some c_order_May := by kernel_rfl
theorem ok_38 : rFunc Tryz.prog [] 38 = some c_bits_Bits_Put := by kernel_rfl
theorem ok_39 : rFunc Tryz.prog [] 39 = some c_hash_Tag := by kernel_rfl
theorem ok_40 : rFunc Tryz.prog [] 40 = some c_hash_Of := by kernel_rfl
theorem ok_41 : rFunc Tryz.prog [] 41 = some c_rank_New := by kernel_rfl
theorem ok_44 : rFunc Tryz.prog [] 44 = some c_order_Decode := by kernel_rfl
theorem ok_45 : rFunc Tryz.prog [] 45 = some c_order_Encode := by kernel_rfl
theorem ok_46 : rFunc Tryz.prog [] 46 = some c_cuckoo_New := by kernel_rfl
theorem ok_47 : rFunc Tryz.prog [] 47 = some c_record_May := by kernel_rfl
theorem ok_48 : rFunc Tryz.prog [] 48 = some c_logstore_Log_find := by kernel_rfl
theorem ok_49 : rFunc Tryz.prog [] 49 = some c_cuckoo_Dir_Insert := by kernel_rfl
theorem ok_50 : rFunc Tryz.prog [] 50 = some c_cuckoo_Dir_At := by kernel_rfl
theorem ok_51 : rFunc Tryz.prog [] 51 = some c_order_List := by kernel_rfl
theorem ok_52 : rFunc Tryz.prog [] 52 = some c_record_Newest := by kernel_rfl
theorem ok_53 : rFunc Tryz.prog [] 53 = some c_hashstore_Store_like := by kernel_rfl
theorem ok_54 : rFunc Tryz.prog [] 54 = some c_loessref1_EqVal := by kernel_rfl
theorem ok_55 : rFunc Tryz.prog [] 55 = some c_cuckoo_Dir_Find := by kernel_rfl
theorem ok_56 : rFunc Tryz.prog [] 56 = some c_loesslaw19_begun := by kernel_rfl
theorem ok_57 : rFunc Tryz.prog [] 57 = some c_loesslaw4_Cut := by kernel_rfl
theorem ok_58 : rFunc Tryz.prog [] 58 = some c_loessref10_Set := by kernel_rfl
theorem ok_59 : rFunc Tryz.prog [] 59 = some c_loessref1_MayKey := by kernel_rfl
theorem ok_60 : rFunc Tryz.prog [] 60 = some c_loessref1_MayVal := by kernel_rfl
theorem ok_61 : rFunc Tryz.prog [] 61 = some c_loessref1_Runes := by kernel_rfl
theorem ok_62 : rFunc Tryz.prog [] 62 = some c_order_belongs := by kernel_rfl
theorem ok_63 : rFunc Tryz.prog [] 63 = some c_slices_Contains_string := by kernel_rfl
theorem ok_64 : rFunc Tryz.prog [] 64 = some c_runes_Of := by kernel_rfl
theorem ok_65 : rFunc Tryz.prog [] 65 = some c_bits_Bits_Len := by kernel_rfl
theorem ok_66 : rFunc Tryz.prog [] 66 = some c_bits_Bits_At := by kernel_rfl
theorem ok_71 : rFunc Tryz.prog [] 71 = some c_bits_Of := by kernel_rfl
theorem ok_72 : rFunc Tryz.prog [] 72 = some c_record_Get := by kernel_rfl
theorem ok_73 : rFunc Tryz.prog [] 73 = some c_bytes_Equal := by kernel_rfl
theorem ok_74 : rFunc Tryz.prog [] 74 = some c_record_Put := by kernel_rfl
theorem ok_75 : rFunc Tryz.prog [] 75 = some c_bits_Bits_Bytes := by kernel_rfl
theorem ok_76 : rFunc Tryz.prog [] 76 = some c_key_May := by kernel_rfl
theorem ok_77 : rFunc Tryz.prog [] 77 = some c_value_Of := by kernel_rfl
theorem ok_78 : rFunc Tryz.prog [] 78 = some c_cuckoo_may := by kernel_rfl
theorem ok_79 : rFunc Tryz.prog [] 79 = some c_cuckoo_Dir_way := by kernel_rfl
theorem ok_80 : rFunc Tryz.prog [] 80 = some c_cuckoo_Dir_free := by kernel_rfl
theorem ok_83 : rFunc Tryz.prog [] 83 = some c_hash_First := by kernel_rfl
theorem ok_84 : rFunc Tryz.prog [] 84 = some c_hash_Other := by kernel_rfl
theorem ok_85 : rFunc Tryz.prog [] 85 = some c_rank_Rank_Ones := by kernel_rfl
theorem ok_86 : rFunc Tryz.prog [] 86 = some c_cuckoo_Dir_each := by kernel_rfl
theorem ok_87 : rFunc Tryz.prog [] 87 = some c_cuckoo_Dir_Find_1 := by kernel_rfl
theorem ok_88 : rFunc Tryz.prog [] 88 = some c_slices_Sort_int := by kernel_rfl
theorem ok_89 : rFunc Tryz.prog [] 89 = some c_loesslaw19_eq := by kernel_rfl
theorem ok_90 : rFunc Tryz.prog [] 90 = some c_loesslaw19_Back := by kernel_rfl
theorem ok_91 : rFunc Tryz.prog [] 91 = some c_loessref1_Valid := by kernel_rfl
theorem ok_92 : rFunc Tryz.prog [] 92 = some c_loessref1_Decode := by kernel_rfl
theorem ok_93 : rFunc Tryz.prog [] 93 = some c_slices_Index_string := by kernel_rfl
theorem ok_97 : rFunc Tryz.prog [] 97 = some c_num_GetText := by kernel_rfl
theorem ok_98 : rFunc Tryz.prog [] 98 = some c_num_Get := by kernel_rfl
theorem ok_99 : rFunc Tryz.prog [] 99 = some c_value_Get := by kernel_rfl
theorem ok_100 : rFunc Tryz.prog [] 100 = some c_num_PutText := by kernel_rfl
theorem ok_101 : rFunc Tryz.prog [] 101 = some c_num_Put := by kernel_rfl
theorem ok_102 : rFunc Tryz.prog [] 102 = some c_value_Put := by kernel_rfl
theorem ok_103 : rFunc Tryz.prog [] 103 = some c_bytes_Clone := by kernel_rfl
theorem ok_104 : rFunc Tryz.prog [] 104 = some c_runes_Valid := by kernel_rfl
theorem ok_105 : rFunc Tryz.prog [] 105 = some c_cuckoo_Dir_way_1 := by kernel_rfl
theorem ok_106 : rFunc Tryz.prog [] 106 = some c_cuckoo_both := by kernel_rfl
theorem ok_107 : rFunc Tryz.prog [] 107 = some c_slices_IndexFunc_cuckoo_entry := by kernel_rfl
theorem ok_108 : rFunc Tryz.prog [] 108 = some c_cuckoo_Dir_free_1 := by kernel_rfl
theorem ok_112 : rFunc Tryz.prog [] 112 = some c_rank_Rank_Len := by kernel_rfl
theorem ok_113 : rFunc Tryz.prog [] 113 = some c_slices_pdqsortOrdered_int := by kernel_rfl
theorem ok_114 : rFunc Tryz.prog [] 114 = some c_math_bits_Len := by kernel_rfl
theorem ok_117 : rFunc Tryz.prog [] 117 = some c_slices_insertionSortOrdered_int := by kernel_rfl
theorem ok_123 : rFunc Tryz.prog [] 123 = some c_cmp_Less_int := by kernel_rfl
theorem ok_127 : rFunc Tryz.prog [] 127 = some c_math_bits_Len64 := by kernel_rfl
theorem ok_142 : rFunc Tryz.prog [] 142 = some c_cmp_isNaN_int := by kernel_rfl
def F0 : Funs := fun f => match f with
  | _ => none
def F : Funs := fun f => match f with
  | 5 => some c_loesslaw20_TableLog
  | 6 => some c_loesslaw20_begun
  | 7 => some c_loesslaw19_Lay
  | 8 => some c_loesslaw3_Cut
  | 9 => some c_hashstore_New
  | 10 => some c_loesslaw19_Of
  | 12 => some c_hashstore_Open
  | 13 => some c_hashstore_Store_Bytes
  | 15 => some c_hashstore_Store_Len
  | 16 => some c_loesslaw10_Recs
  | 17 => some c_logstore_New
  | 18 => some c_logstore_Log_Put
  | 19 => some c_logstore_Log_Slot
  | 20 => some c_loessref10_EqRecs
  | 21 => some c_hashstore_Store_List
  | 22 => some c_logstore_Log_List
  | 23 => some c_hashstore_Store_Get
  | 24 => some c_logstore_Log_Get
  | 25 => some c_loessref10_Eq
  | 26 => some c_hashstore_Store_Reads
  | 27 => some c_logstore_Log_Reads
  | 28 => some c_loesslaw19_Begun
  | 29 => some c_loesslaw10_Cut
  | 30 => some c_loessref10_Find
  | 31 => some c_loessref10_Records
  | 32 => some c_loessref10_May
  | 33 => some c_loessref6_Hash
  | 34 => some c_loessref6_First
  | 35 => some c_loessref6_Other
  | 36 => some c_loessref6_Tag
  | 37 => some c_order_May
  | 38 => some c_bits_Bits_Put
  | 39 => some c_hash_Tag
  | 40 => some c_hash_Of
  | 41 => some c_rank_New
  | 44 => some c_order_Decode
  | 45 => some c_order_Encode
  | 46 => some c_cuckoo_New
  | 47 => some c_record_May
  | 48 => some c_logstore_Log_find
  | 49 => some c_cuckoo_Dir_Insert
  | 50 => some c_cuckoo_Dir_At
  | 51 => some c_order_List
  | 52 => some c_record_Newest
  | 53 => some c_hashstore_Store_like
  | 54 => some c_loessref1_EqVal
  | 55 => some c_cuckoo_Dir_Find
  | 56 => some c_loesslaw19_begun
  | 57 => some c_loesslaw4_Cut
  | 58 => some c_loessref10_Set
  | 59 => some c_loessref1_MayKey
  | 60 => some c_loessref1_MayVal
  | 61 => some c_loessref1_Runes
  | 62 => some c_order_belongs
  | 63 => some c_slices_Contains_string
  | 64 => some c_runes_Of
  | 65 => some c_bits_Bits_Len
  | 66 => some c_bits_Bits_At
  | 71 => some c_bits_Of
  | 72 => some c_record_Get
  | 73 => some c_bytes_Equal
  | 74 => some c_record_Put
  | 75 => some c_bits_Bits_Bytes
  | 76 => some c_key_May
  | 77 => some c_value_Of
  | 78 => some c_cuckoo_may
  | 79 => some c_cuckoo_Dir_way
  | 80 => some c_cuckoo_Dir_free
  | 83 => some c_hash_First
  | 84 => some c_hash_Other
  | 85 => some c_rank_Rank_Ones
  | 86 => some c_cuckoo_Dir_each
  | 87 => some c_cuckoo_Dir_Find_1
  | 88 => some c_slices_Sort_int
  | 89 => some c_loesslaw19_eq
  | 90 => some c_loesslaw19_Back
  | 91 => some c_loessref1_Valid
  | 92 => some c_loessref1_Decode
  | 93 => some c_slices_Index_string
  | 97 => some c_num_GetText
  | 98 => some c_num_Get
  | 99 => some c_value_Get
  | 100 => some c_num_PutText
  | 101 => some c_num_Put
  | 102 => some c_value_Put
  | 103 => some c_bytes_Clone
  | 104 => some c_runes_Valid
  | 105 => some c_cuckoo_Dir_way_1
  | 106 => some c_cuckoo_both
  | 107 => some c_slices_IndexFunc_cuckoo_entry
  | 108 => some c_cuckoo_Dir_free_1
  | 112 => some c_rank_Rank_Len
  | 113 => some c_slices_pdqsortOrdered_int
  | 114 => some c_math_bits_Len
  | 117 => some c_slices_insertionSortOrdered_int
  | 123 => some c_cmp_Less_int
  | 127 => some c_math_bits_Len64
  | 142 => some c_cmp_isNaN_int
  | _ => none
theorem F0_ok : FOK Tryz.prog [] F0 := by
  intro f r h
  unfold F0 at h
  split at h
  · cases h
theorem F_ok : FOK Tryz.prog [] F := by
  intro f r h
  unfold F at h
  split at h
  · cases h; exact ok_5
  · cases h; exact ok_6
  · cases h; exact ok_7
  · cases h; exact ok_8
  · cases h; exact ok_9
  · cases h; exact ok_10
  · cases h; exact ok_12
  · cases h; exact ok_13
  · cases h; exact ok_15
  · cases h; exact ok_16
  · cases h; exact ok_17
  · cases h; exact ok_18
  · cases h; exact ok_19
  · cases h; exact ok_20
  · cases h; exact ok_21
  · cases h; exact ok_22
  · cases h; exact ok_23
  · cases h; exact ok_24
  · cases h; exact ok_25
  · cases h; exact ok_26
  · cases h; exact ok_27
  · cases h; exact ok_28
  · cases h; exact ok_29
  · cases h; exact ok_30
  · cases h; exact ok_31
  · cases h; exact ok_32
  · cases h; exact ok_33
  · cases h; exact ok_34
  · cases h; exact ok_35
  · cases h; exact ok_36
  · cases h; exact ok_37
  · cases h; exact ok_38
  · cases h; exact ok_39
  · cases h; exact ok_40
  · cases h; exact ok_41
  · cases h; exact ok_44
  · cases h; exact ok_45
  · cases h; exact ok_46
  · cases h; exact ok_47
  · cases h; exact ok_48
  · cases h; exact ok_49
  · cases h; exact ok_50
  · cases h; exact ok_51
  · cases h; exact ok_52
  · cases h; exact ok_53
  · cases h; exact ok_54
  · cases h; exact ok_55
  · cases h; exact ok_56
  · cases h; exact ok_57
  · cases h; exact ok_58
  · cases h; exact ok_59
  · cases h; exact ok_60
  · cases h; exact ok_61
  · cases h; exact ok_62
  · cases h; exact ok_63
  · cases h; exact ok_64
  · cases h; exact ok_65
  · cases h; exact ok_66
  · cases h; exact ok_71
  · cases h; exact ok_72
  · cases h; exact ok_73
  · cases h; exact ok_74
  · cases h; exact ok_75
  · cases h; exact ok_76
  · cases h; exact ok_77
  · cases h; exact ok_78
  · cases h; exact ok_79
  · cases h; exact ok_80
  · cases h; exact ok_83
  · cases h; exact ok_84
  · cases h; exact ok_85
  · cases h; exact ok_86
  · cases h; exact ok_87
  · cases h; exact ok_88
  · cases h; exact ok_89
  · cases h; exact ok_90
  · cases h; exact ok_91
  · cases h; exact ok_92
  · cases h; exact ok_93
  · cases h; exact ok_97
  · cases h; exact ok_98
  · cases h; exact ok_99
  · cases h; exact ok_100
  · cases h; exact ok_101
  · cases h; exact ok_102
  · cases h; exact ok_103
  · cases h; exact ok_104
  · cases h; exact ok_105
  · cases h; exact ok_106
  · cases h; exact ok_107
  · cases h; exact ok_108
  · cases h; exact ok_112
  · cases h; exact ok_113
  · cases h; exact ok_114
  · cases h; exact ok_117
  · cases h; exact ok_123
  · cases h; exact ok_127
  · cases h; exact ok_142
  · cases h
abbrev pur : List FuncId := []
abbrev pur1 : List FuncId := []
theorem F_none : ∀ g, pur1.contains g = true → F g = none := by
  intro g h
  simp only [pur1, List.contains_cons, List.contains_nil, Bool.or_false, Bool.or_eq_true, beq_iff_eq] at h
  exact absurd h (by simp)
abbrev XB : Exts := bothX (groundK F0 (keysX 82 111 81 9) 10 pur) (keysX 82 111 81 9)
theorem XB_ok : XOK Tryz.prog F XB pur := bothX_ok (groundK_ok (keys_ok0 sortedLaws) F0_ok F_none) (fun g vs h v h1 hx => keysX_sound sortedLaws hx) (by
  intro g hg vs h
  refine keysX_none ?_ ?_ vs h <;> (rintro rfl; revert hg; decide))
class HX (X : Exts) : Prop where
  keys : ∀ {g vs h r}, pur.contains g = false → keysX 82 111 81 9 g vs h = some r → X g vs h = some r
instance HX_base : HX XB := ⟨fun {g vs h r} hg hr => by
  show bothX _ _ g vs h = some r
  unfold bothX groundK
  rw [if_neg (by rw [hg]; decide)]
  exact hr⟩
theorem F_loesslaw20_TableLog : F f_loesslaw20_TableLog = some c_loesslaw20_TableLog := rfl
theorem F_loesslaw20_begun : F f_loesslaw20_begun = some c_loesslaw20_begun := rfl
theorem F_loesslaw19_Lay : F f_loesslaw19_Lay = some c_loesslaw19_Lay := rfl
theorem F_loesslaw3_Cut : F f_loesslaw3_Cut = some c_loesslaw3_Cut := rfl
theorem F_hashstore_New : F f_hashstore_New = some c_hashstore_New := rfl
theorem F_loesslaw19_Of : F f_loesslaw19_Of = some c_loesslaw19_Of := rfl
theorem F_hashstore_Open : F f_hashstore_Open = some c_hashstore_Open := rfl
theorem F_hashstore_Store_Bytes : F f_hashstore_Store_Bytes = some c_hashstore_Store_Bytes := rfl
theorem F_hashstore_Store_Len : F f_hashstore_Store_Len = some c_hashstore_Store_Len := rfl
theorem F_loesslaw10_Recs : F f_loesslaw10_Recs = some c_loesslaw10_Recs := rfl
theorem F_logstore_New : F f_logstore_New = some c_logstore_New := rfl
theorem F_logstore_Log_Put : F f_logstore_Log_Put = some c_logstore_Log_Put := rfl
theorem F_logstore_Log_Slot : F f_logstore_Log_Slot = some c_logstore_Log_Slot := rfl
theorem F_loessref10_EqRecs : F f_loessref10_EqRecs = some c_loessref10_EqRecs := rfl
theorem F_hashstore_Store_List : F f_hashstore_Store_List = some c_hashstore_Store_List := rfl
theorem F_logstore_Log_List : F f_logstore_Log_List = some c_logstore_Log_List := rfl
theorem F_hashstore_Store_Get : F f_hashstore_Store_Get = some c_hashstore_Store_Get := rfl
theorem F_logstore_Log_Get : F f_logstore_Log_Get = some c_logstore_Log_Get := rfl
theorem F_loessref10_Eq : F f_loessref10_Eq = some c_loessref10_Eq := rfl
theorem F_hashstore_Store_Reads : F f_hashstore_Store_Reads = some c_hashstore_Store_Reads := rfl
theorem F_logstore_Log_Reads : F f_logstore_Log_Reads = some c_logstore_Log_Reads := rfl
theorem F_loesslaw19_Begun : F f_loesslaw19_Begun = some c_loesslaw19_Begun := rfl
theorem F_loesslaw10_Cut : F f_loesslaw10_Cut = some c_loesslaw10_Cut := rfl
theorem F_loessref10_Find : F f_loessref10_Find = some c_loessref10_Find := rfl
theorem F_loessref10_Records : F f_loessref10_Records = some c_loessref10_Records := rfl
theorem F_loessref10_May : F f_loessref10_May = some c_loessref10_May := rfl
theorem F_loessref6_Hash : F f_loessref6_Hash = some c_loessref6_Hash := rfl
theorem F_loessref6_First : F f_loessref6_First = some c_loessref6_First := rfl
theorem F_loessref6_Other : F f_loessref6_Other = some c_loessref6_Other := rfl
theorem F_loessref6_Tag : F f_loessref6_Tag = some c_loessref6_Tag := rfl
theorem F_order_May : F f_order_May = some c_order_May := rfl
theorem F_bits_Bits_Put : F f_bits_Bits_Put = some c_bits_Bits_Put := rfl
theorem F_hash_Tag : F f_hash_Tag = some c_hash_Tag := rfl
theorem F_hash_Of : F f_hash_Of = some c_hash_Of := rfl
theorem F_rank_New : F f_rank_New = some c_rank_New := rfl
theorem F_order_Decode : F f_order_Decode = some c_order_Decode := rfl
theorem F_order_Encode : F f_order_Encode = some c_order_Encode := rfl
theorem F_cuckoo_New : F f_cuckoo_New = some c_cuckoo_New := rfl
theorem F_record_May : F f_record_May = some c_record_May := rfl
theorem F_logstore_Log_find : F f_logstore_Log_find = some c_logstore_Log_find := rfl
theorem F_cuckoo_Dir_Insert : F f_cuckoo_Dir_Insert = some c_cuckoo_Dir_Insert := rfl
theorem F_cuckoo_Dir_At : F f_cuckoo_Dir_At = some c_cuckoo_Dir_At := rfl
theorem F_order_List : F f_order_List = some c_order_List := rfl
theorem F_record_Newest : F f_record_Newest = some c_record_Newest := rfl
theorem F_hashstore_Store_like : F f_hashstore_Store_like = some c_hashstore_Store_like := rfl
theorem F_loessref1_EqVal : F f_loessref1_EqVal = some c_loessref1_EqVal := rfl
theorem F_cuckoo_Dir_Find : F f_cuckoo_Dir_Find = some c_cuckoo_Dir_Find := rfl
theorem F_loesslaw19_begun : F f_loesslaw19_begun = some c_loesslaw19_begun := rfl
theorem F_loesslaw4_Cut : F f_loesslaw4_Cut = some c_loesslaw4_Cut := rfl
theorem F_loessref10_Set : F f_loessref10_Set = some c_loessref10_Set := rfl
theorem F_loessref1_MayKey : F f_loessref1_MayKey = some c_loessref1_MayKey := rfl
theorem F_loessref1_MayVal : F f_loessref1_MayVal = some c_loessref1_MayVal := rfl
theorem F_loessref1_Runes : F f_loessref1_Runes = some c_loessref1_Runes := rfl
theorem F_order_belongs : F f_order_belongs = some c_order_belongs := rfl
theorem F_slices_Contains_string : F f_slices_Contains_string = some c_slices_Contains_string := rfl
theorem F_runes_Of : F f_runes_Of = some c_runes_Of := rfl
theorem F_bits_Bits_Len : F f_bits_Bits_Len = some c_bits_Bits_Len := rfl
theorem F_bits_Bits_At : F f_bits_Bits_At = some c_bits_Bits_At := rfl
theorem F_bits_Of : F f_bits_Of = some c_bits_Of := rfl
theorem F_record_Get : F f_record_Get = some c_record_Get := rfl
theorem F_bytes_Equal : F f_bytes_Equal = some c_bytes_Equal := rfl
theorem F_record_Put : F f_record_Put = some c_record_Put := rfl
theorem F_bits_Bits_Bytes : F f_bits_Bits_Bytes = some c_bits_Bits_Bytes := rfl
theorem F_key_May : F f_key_May = some c_key_May := rfl
theorem F_value_Of : F f_value_Of = some c_value_Of := rfl
theorem F_cuckoo_may : F f_cuckoo_may = some c_cuckoo_may := rfl
theorem F_cuckoo_Dir_way : F f_cuckoo_Dir_way = some c_cuckoo_Dir_way := rfl
theorem F_cuckoo_Dir_free : F f_cuckoo_Dir_free = some c_cuckoo_Dir_free := rfl
theorem F_hash_First : F f_hash_First = some c_hash_First := rfl
theorem F_hash_Other : F f_hash_Other = some c_hash_Other := rfl
theorem F_rank_Rank_Ones : F f_rank_Rank_Ones = some c_rank_Rank_Ones := rfl
theorem F_cuckoo_Dir_each : F f_cuckoo_Dir_each = some c_cuckoo_Dir_each := rfl
theorem F_cuckoo_Dir_Find_1 : F f_cuckoo_Dir_Find_1 = some c_cuckoo_Dir_Find_1 := rfl
theorem F_slices_Sort_int : F f_slices_Sort_int = some c_slices_Sort_int := rfl
theorem F_loesslaw19_eq : F f_loesslaw19_eq = some c_loesslaw19_eq := rfl
theorem F_loesslaw19_Back : F f_loesslaw19_Back = some c_loesslaw19_Back := rfl
theorem F_loessref1_Valid : F f_loessref1_Valid = some c_loessref1_Valid := rfl
theorem F_loessref1_Decode : F f_loessref1_Decode = some c_loessref1_Decode := rfl
theorem F_slices_Index_string : F f_slices_Index_string = some c_slices_Index_string := rfl
theorem F_num_GetText : F f_num_GetText = some c_num_GetText := rfl
theorem F_num_Get : F f_num_Get = some c_num_Get := rfl
theorem F_value_Get : F f_value_Get = some c_value_Get := rfl
theorem F_num_PutText : F f_num_PutText = some c_num_PutText := rfl
theorem F_num_Put : F f_num_Put = some c_num_Put := rfl
theorem F_value_Put : F f_value_Put = some c_value_Put := rfl
theorem F_bytes_Clone : F f_bytes_Clone = some c_bytes_Clone := rfl
theorem F_runes_Valid : F f_runes_Valid = some c_runes_Valid := rfl
theorem F_cuckoo_Dir_way_1 : F f_cuckoo_Dir_way_1 = some c_cuckoo_Dir_way_1 := rfl
theorem F_cuckoo_both : F f_cuckoo_both = some c_cuckoo_both := rfl
theorem F_slices_IndexFunc_cuckoo_entry : F f_slices_IndexFunc_cuckoo_entry = some c_slices_IndexFunc_cuckoo_entry := rfl
theorem F_cuckoo_Dir_free_1 : F f_cuckoo_Dir_free_1 = some c_cuckoo_Dir_free_1 := rfl
theorem F_rank_Rank_Len : F f_rank_Rank_Len = some c_rank_Rank_Len := rfl
theorem F_slices_pdqsortOrdered_int : F f_slices_pdqsortOrdered_int = some c_slices_pdqsortOrdered_int := rfl
theorem F_math_bits_Len : F f_math_bits_Len = some c_math_bits_Len := rfl
theorem F_slices_insertionSortOrdered_int : F f_slices_insertionSortOrdered_int = some c_slices_insertionSortOrdered_int := rfl
theorem F_cmp_Less_int : F f_cmp_Less_int = some c_cmp_Less_int := rfl
theorem F_math_bits_Len64 : F f_math_bits_Len64 = some c_math_bits_Len64 := rfl
theorem F_cmp_isNaN_int : F f_cmp_isNaN_int = some c_cmp_isNaN_int := rfl
end Go.Proofs.YtpnmeednimpjdaaGreat.AM
namespace Go.Proofs.YtpnmeednimpjdaaGreat.AM
open Go
set_option linter.unusedSimpArgs false
set_option linter.unusedVariables false
set_option maxRecDepth 4000
set_option linter.unusedSectionVars false
variable {X : Exts} [HX X]
theorem bsT : (∀ {p : Prop} [Decidable p], (decide p = true) = p) ∧ (∀ {p : Prop} [Decidable p], (decide p = false) ↔ ¬p) ∧ (∀ b : Bool, ((!b) = true) = (b = false)) ∧ (∀ b : Bool, ((!b) = false) = (b = true)) ∧ (∀ {α : Type} [BEq α] [LawfulBEq α] {a b : α}, ((a == b) = true) ↔ a = b) ∧ (∀ {α : Type} [BEq α] [LawfulBEq α] {a b : α}, ((a != b) = true) ↔ a ≠ b) ∧ (∀ {α : Type} [BEq α] [LawfulBEq α] {a b : α}, ((a == b) = false) ↔ a ≠ b) ∧ (∀ {n m : Nat}, ((n : Int) < (m : Int)) ↔ n < m) ∧ (∀ {n m : Nat}, ((n : Int) ≤ (m : Int)) ↔ n ≤ m) ∧ (∀ {n m : Nat}, ((n : Int) = (m : Int)) ↔ n = m) ∧ (∀ {α : Type} (a b : α), (a ≠ b) = ¬(a = b)) ∧ (∀ {α : Type} [LT α] {a b : α}, a > b ↔ b < a) ∧ (∀ {α : Type} [LE α] {a b : α}, a ≥ b ↔ b ≤ a) :=
  ⟨decide_eq_true_eq, decide_eq_false_iff_not, Bool.not_eq_true' , Bool.not_eq_false', beq_iff_eq, bne_iff_ne, beq_eq_false_iff_ne, Int.ofNat_lt, Int.ofNat_le, Int.ofNat_inj, ne_eq, gt_iff_lt, ge_iff_le⟩
theorem pkA {a : Res} {H H0 : SH} (h : Pick a H H0 := by repeat (first | exact Pick.head | apply Pick.tail)) : Pick a H H0 := h
theorem rdA {α : Type} {T : Ty α} {H : SH} {s : Value} {xs : List α} (h : RD H s T xs := by repeat (first | assumption | exact RD.head | exact RD.nil | apply RD.tail)) : RD H s T xs := h
theorem seA {l l' : SE} (h : SubE l l' := by repeat (first | exact SubE.nil | apply SubE.cons rfl)) : SubE l l' := h
theorem hsA {H H' : SH} (h : HSub H H' := by repeat (first | exact HSub.refl | refine HSub.pick (by repeat (first | exact Pick.head | apply Pick.tail)) ?_ | apply HSub.drop)) : HSub H H' := h
structure Raw where
  kind : Int
  n : Int
  s : ByteArray
  deriving DecidableEq
structure Rec where
  key : ByteArray
  gone : Bool
  val : Raw
  deriving DecidableEq
structure Pair where
  key : ByteArray
  val : Raw
  deriving DecidableEq
abbrev es0 : ByteArray := ⟨#[]⟩
def raw0 : Raw := ⟨0, 0, es0⟩
def rec0 : Rec := ⟨es0, false, raw0⟩
def TRaw : Ty Raw := Ty.ofAgg 3 26 32 (fun r => [.int .i64 r.kind, .int .i64 r.n, .string r.s]) (fun _ => rfl) (fun _ => rfl)
def TRec : Ty Rec := Ty.ofAgg 5 28 56 (fun r => [.string r.key, .bool r.gone, .int .i64 r.val.kind, .int .i64 r.val.n, .string r.val.s]) (fun _ => rfl) (fun _ => rfl)
def TInt : Ty Int := Ty.ofOne 3 8 (fun n => .int .i64 n) (fun _ => rfl)
def TI32 : Ty Int := Ty.ofOne 21 4 (fun n => .int .i32 n) (fun _ => rfl)
def TByte : Ty UInt8 := Ty.ofOne 5 1 (fun b => encByte b) (fun _ => rfl)
structure Rds (H : SH) (v : Value) (svs : List SV) (T : Ty SV) (E : Ty Rec) (ls : List (List Rec)) : Prop where
  out : RD H v T svs
  len : svs.length = ls.length
  ins : ∀ (i : Nat) (sv : SV) (l : List Rec), svs[i]? = some sv → ls[i]? = some l → RD H sv.toV E l
theorem Rds.sub {H H' : SH} {v : Value} {svs : List SV} {T : Ty SV} {E : Ty Rec} {ls : List (List Rec)} (hs : HSub H' H) (h : Rds H v svs T E ls) : Rds H' v svs T E ls :=
  ⟨h.out.sub hs, h.len, fun i sv l h1 h2 => (h.ins i sv l h1 h2).sub hs⟩
theorem HAg.recutSL {α : Type} {T : Ty α} {H : SH} {a : AH} {s : SV} {xs : List α} {es lo n : Nat} (he : es = T.es) (hl : lo + n ≤ xs.length) (h : HAg (SL s.toV T xs :: H) a) : HAg (SL (s.sub es lo n).toV T ((xs.drop lo).take n) :: H) a := by
  subst he
  have := h.recut hl
  rw [T.cells_drop, T.cells_take, ← SV.sub_toV] at this
  have e : ((xs.drop lo).take n).length = n := by rw [List.length_take, List.length_drop]; omega
  unfold SL; rw [e]; exact this
theorem toList_data (a : ByteArray) : a.toList = a.data.toList := ByteArray.toList_eq a
theorem ba_ext {a b : ByteArray} (h : a.data.toList = b.data.toList) : a = b := by
  cases a; cases b; simp only [ByteArray.mk.injEq]; exact Array.ext' h
theorem str_eql (a b : ByteArray) : (a.toList == b.toList) = decide (a = b) := by
  rw [toList_data, toList_data, Bool.eq_iff_iff, beq_iff_eq, decide_eq_true_eq]
  exact ⟨ba_ext, fun h => by rw [h]⟩
theorem S_eqS {l : SE} {H : SH} {K : Value → SH → Prop} {x y : Opd} {a b : ByteArray} (hx : x.lv l = some (.string a)) (hy : y.lv l = some (.string b)) (k : K (.bool (decide (a = b))) H) : Step (.bin .eql x y) l H K :=
  S_pure (by simp only [pev, hx, hy, binV, strBin, str_eql]) k
theorem S_neS {l : SE} {H : SH} {K : Value → SH → Prop} {x y : Opd} {a b : ByteArray} (hx : x.lv l = some (.string a)) (hy : y.lv l = some (.string b)) (k : K (.bool (!decide (a = b))) H) : Step (.bin .neq x y) l H K :=
  S_pure (by simp only [pev, hx, hy, binV, strBin, str_eql]) k
theorem drop_get {α : Type} {l : List α} {a : Nat} {x : α} (h : l[a]? = some x) : l.drop a = x :: l.drop (a + 1) := by
  obtain ⟨hlt, he⟩ := List.getElem?_eq_some_iff.1 h
  rw [List.drop_eq_getElem_cons hlt, he]
theorem get_of_lt {α : Type} {l : List α} {a : Nat} (h : a < l.length) : ∃ x, l[a]? = some x := ⟨_, List.getElem?_eq_getElem h⟩
def fnd : List Rec → ByteArray → Option Rec
  | [], _ => none
  | r :: l, k => if r.key = k then some r else fnd l k
end Go.Proofs.YtpnmeednimpjdaaGreat.AM
namespace Go.Proofs.YtpnmeednimpjdaaGreat.AM
open Go
set_option linter.unusedSimpArgs false
set_option linter.unusedVariables false
set_option maxRecDepth 4000
set_option linter.unusedSectionVars false
variable {X : Exts} [HX X]
def dl (L : List UInt8) : Nat → Nat → Nat → Option Nat
  | 0, _, r => some r
  | m + 1, i, r => match L[i]? with
    | none => none
    | some b => if b.toNat < 128 ∨ 191 < b.toNat then none else dl L m (i + 1) (r * 64 + b.toNat - 128)
def decOk (p : Nat × Nat) : Bool := !(p.1 == 65533 && p.2 == 1)
def decV (p : Nat × Nat) : Value := .tuple #[.int .i32 p.1, .int .i64 p.2, .bool (decOk p)]
def dlP (H : SH) (n : Nat) (lw : Value) (o : Option Nat) : KP := fun x l' H' => match o with
  | some r => x = .exit 1 ∧ l' = [(8, .int .i32 r), (6, .int .i64 n), (7, lw)] ∧ H' = H
  | none => x = .ret ∧ l' = [(2, .int .i32 65533), (3, .int .i64 1), (4, .bool false)] ∧ H' = H
theorem lp_Decode_0 {H : SH} {s : ByteArray} {n : Nat} {lw : Value} (hs : n ≤ s.size) (hn4 : n ≤ 4) : ∀ (m i r : Nat), n - i = m → i ≤ n → ((i = 1 ∧ r < 32) ∨ (i = 2 ∧ r < 2048) ∨ (i = 3 ∧ r < 131072) ∨ (i = 4 ∧ r < 8388608)) →
    WC F X (.loop L_loessref1_Decode_0) [(9, .int .i64 i), (6, .int .i64 n), (0, .string s), (8, .int .i32 r), (7, lw)] H (KPost (dlP H n lw (dl s.data.toList m i r))) := by
  intro m
  induction m using Nat.strongRecOn with
  | _ m ih =>
    intro i r hm hi hr
    refine WC_loop (WC_seq (WC_seq (WC_region ?_)))
    iterate 3 refine WO_step rfl (S_pure rfl ?_)
    refine WO_nil (KSeq_n ?_)
    refine WC_cond rfl (fun hb1 => ?_) (fun hb1 => ?_)
    ·
     try simp only [bsT] at hb1
     obtain ⟨m', rfl⟩ : ∃ m', m = m' + 1 := ⟨m - 1, by omega⟩
     have hlt : i < s.data.toList.length := by rw [Array.length_toList]; exact Nat.lt_of_lt_of_le hb1 hs
     obtain ⟨b, hx⟩ := get_of_lt hlt
     have hb256 := UInt8.toNat_lt b
     refine WC_skip (KSeq_n (WC_seq (WC_block (WC_seq (WC_seq (WC_region ?_))))))
     iterate 2 refine WO_step rfl (S_pure rfl ?_)
     refine WO_step rfl (S_idxS rfl rfl (by rfl) (by assumption) ?_)
     iterate 2 refine WO_step rfl (S_pure rfl ?_)
     refine WO_cases (t := 60) rfl (fun hg1 => ?_) (fun hg1 => ?_)
     ·
      try simp only [bsT] at hg1
      iterate 4 refine WO_off rfl ?_
      refine WO_step rfl (S_pure rfl ?_)
      refine WO_nil (KSeq_n ?_)
      refine WC_cond rfl (fun _ => ?_) (fun h => ?_)
      rotate_left
      · exact absurd h (by decide)
      refine WC_seq (WC_region ?_)
      iterate 3 refine WO_step rfl (S_pure rfl ?_)
      refine WO_nil (KSeq_n (WC_ret (KSeq_r (KBlock_r (KSeq_r (KLoop_r ?_))))))
      simp only [dl, hx]
      rw [if_pos (by omega)]
      exact KPost_i seA hsA ⟨rfl, rfl, rfl⟩
     ·
      try simp only [bsT] at hg1
      iterate 2 refine WO_step rfl (S_pure rfl ?_)
      refine WO_step rfl (S_idxS rfl rfl (by rfl) (by assumption) ?_)
      iterate 2 refine WO_step rfl (S_pure rfl ?_)
      refine WO_nil (KSeq_n ?_)
      refine WC_cond rfl (fun hb2 => ?_) (fun hb2 => ?_)
      ·
       try simp only [bsT] at hb2
       refine WC_seq (WC_region ?_)
       iterate 3 refine WO_step rfl (S_pure rfl ?_)
       refine WO_nil (KSeq_n (WC_ret (KSeq_r (KBlock_r (KSeq_r (KLoop_r ?_))))))
       simp only [dl, hx]
       rw [if_pos (by omega)]
       exact KPost_i seA hsA ⟨rfl, rfl, rfl⟩
      ·
       try simp only [bsT] at hb2
       refine WC_skip (KSeq_n (WC_region ?_))
       refine WO_step rfl (S_pure rfl ?_)
       refine WO_step rfl (S_pureE rfl (v' := .int .i32 ((r * 64 : Nat) : Int)) ?_ ?_)
       · rw [wrap_i32 (by omega) (by omega)]; rfl
       iterate 2 refine WO_step rfl (S_pure rfl ?_)
       refine WO_step rfl (S_idxS rfl rfl (by rfl) (by assumption) ?_)
       refine WO_step rfl (S_pureE rfl (v' := .int .i32 (b.toNat : Int)) ?_ ?_)
       · rw [wrap_i32 (by omega) (by omega)]
       refine WO_step rfl (S_pureE rfl (v' := .int .i32 ((r * 64 + b.toNat : Nat) : Int)) ?_ ?_)
       · rw [wrap_i32 (by omega) (by omega)]; rfl
       refine WO_step rfl (S_pureE rfl (v' := .int .i32 ((r * 64 + b.toNat - 128 : Nat) : Int)) ?_ ?_)
       · rw [wrap_i32 (by omega) (by omega)]; congr 1; omega
       refine WO_step rfl (S_pure rfl ?_)
       refine WO_nil (KBlock_n (KSeq_n (WC_region ?_)))
       refine WO_step rfl (S_pure rfl ?_)
       first | refine WO_step rfl (S_addN (b := 1) rfl rfl (by omega) ?_) | refine WO_step rfl (S_pure rfl ?_)
       refine WO_step rfl (S_pure rfl ?_)
       refine WO_nil (KLoop_n ?_)
       simp only [dl, hx]
       rw [if_neg (by omega)]
       exact WC_weak (ih m' (by omega) (i + 1) (r * 64 + b.toNat - 128) (by omega) (by omega) (by omega)) seA hsA
    ·
     try simp only [bsT] at hb1
     refine WC_exit (KSeq_x (KLoop_x ?_))
     have : m = 0 := by omega
     subst this
     exact KPost_i seA hsA ⟨rfl, rfl, rfl⟩
theorem dl_bytes {L : List UInt8} {i r : Nat} {m : Nat} (h : i < L.length) : dl L (m + 1) i r = if (L.getD i 0).toNat < 128 ∨ 191 < (L.getD i 0).toNat then none else dl L m (i + 1) (r * 64 + (L.getD i 0).toNat - 128) := by
  have e : L[i]? = some (L.getD i 0) := by rw [List.getD_eq_getElem?_getD, List.getElem?_eq_getElem h]; rfl
  simp only [dl, e]
theorem dec_short {n b0 b1 b2 b3 k : Nat} (hb : k = 2 ∧ 192 ≤ b0 ∧ b0 < 224 ∨ k = 3 ∧ 224 ≤ b0 ∧ b0 < 240 ∨ k = 4 ∧ 240 ≤ b0 ∧ b0 < 248) (hn : n < k) : Lib.decodeN n b0 b1 b2 b3 = (65533, 1) := by
  unfold Lib.decodeN
  rw [if_neg (by omega), if_neg (by omega), if_neg (by omega), if_neg (by omega)]
set_option maxHeartbeats 1000000 in
theorem dec_long {L : List UInt8} {k lw c : Nat} (hb : k = 2 ∧ lw = 128 ∧ c = 192 ∧ 192 ≤ (L.getD 0 0).toNat ∧ (L.getD 0 0).toNat < 224 ∨ k = 3 ∧ lw = 2048 ∧ c = 224 ∧ 224 ≤ (L.getD 0 0).toNat ∧ (L.getD 0 0).toNat < 240 ∨ k = 4 ∧ lw = 65536 ∧ c = 240 ∧ 240 ≤ (L.getD 0 0).toNat ∧ (L.getD 0 0).toNat < 248) (hn : k ≤ L.length) :
    Lib.decodeN L.length (L.getD 0 0).toNat (L.getD (0 + 1) 0).toNat (L.getD (0 + 2) 0).toNat (L.getD (0 + 3) 0).toNat = match dl L (k - 1) 1 ((L.getD 0 0).toNat - c) with
      | some r => if r < lw ∨ 1114111 < r ∨ 55296 ≤ r ∧ r < 57344 then (65533, 1) else (r, k)
      | none => (65533, 1) := by
  have h1 := UInt8.toNat_lt (L.getD 1 0)
  have h2 := UInt8.toNat_lt (L.getD 2 0)
  have h3 := UInt8.toNat_lt (L.getD 3 0)
  simp only [Nat.zero_add]
  rcases hb with ⟨rfl, rfl, rfl, h⟩ | ⟨rfl, rfl, rfl, h⟩ | ⟨rfl, rfl, rfl, h⟩
  · rw [show 2 - 1 = 0 + 1 from rfl, dl_bytes (by omega)]
    generalize (L.getD 0 0).toNat = x0 at *; generalize (L.getD 1 0).toNat = x1 at *; generalize (L.getD 2 0).toNat = x2 at *; generalize (L.getD 3 0).toNat = x3 at *
    unfold Lib.decodeN
    rw [if_neg (by omega)]
    by_cases e1 : x1 < 128 ∨ 191 < x1
    · rw [if_pos e1, if_neg (by omega), if_neg (by omega), if_neg (by omega)]
    · rw [if_neg e1, if_pos (by omega)]
      simp only [dl]
      split
      · rw [if_neg (by omega)]; congr 1; omega
      · rw [if_pos (by omega)]
  · rw [show 3 - 1 = 0 + 1 + 1 from rfl, dl_bytes (by omega)]
    by_cases e1 : (L.getD 1 0).toNat < 128 ∨ 191 < (L.getD 1 0).toNat
    · rw [if_pos e1]
      unfold Lib.decodeN
      rw [if_neg (by omega), if_neg (by omega), if_neg (by omega), if_neg (by omega)]
    · rw [if_neg e1, dl_bytes (by omega)]
      generalize (L.getD 0 0).toNat = x0 at *; generalize (L.getD 1 0).toNat = x1 at *; generalize (L.getD (1 + 1) 0).toNat = x2 at *; generalize (L.getD 3 0).toNat = x3 at *
      unfold Lib.decodeN
      rw [if_neg (by omega), if_neg (by omega)]
      by_cases e2 : x2 < 128 ∨ 191 < x2
      · rw [if_pos e2, if_neg (by omega), if_neg (by omega)]
      · rw [if_neg e2, if_pos (by omega)]
        simp only [dl]
        split
        · rw [if_neg (by omega)]; congr 1; omega
        · rw [if_pos (by omega)]
  · rw [show 4 - 1 = 0 + 1 + 1 + 1 from rfl, dl_bytes (by omega)]
    by_cases e1 : (L.getD 1 0).toNat < 128 ∨ 191 < (L.getD 1 0).toNat
    · rw [if_pos e1]
      unfold Lib.decodeN
      rw [if_neg (by omega), if_neg (by omega), if_neg (by omega), if_neg (by omega)]
    · rw [if_neg e1, dl_bytes (by omega)]
      by_cases e2 : (L.getD (1 + 1) 0).toNat < 128 ∨ 191 < (L.getD (1 + 1) 0).toNat
      · rw [if_pos e2]
        simp only [Nat.reduceAdd] at e2
        unfold Lib.decodeN
        rw [if_neg (by omega), if_neg (by omega), if_neg (by omega), if_neg (by omega)]
      · rw [if_neg e2, dl_bytes (by omega)]
        generalize (L.getD 0 0).toNat = x0 at *; generalize (L.getD 1 0).toNat = x1 at *; generalize (L.getD (1 + 1) 0).toNat = x2 at *; generalize (L.getD (1 + 1 + 1) 0).toNat = x3 at *
        unfold Lib.decodeN
        rw [if_neg (by omega), if_neg (by omega), if_neg (by omega)]
        by_cases e3 : x3 < 128 ∨ 191 < x3
        · rw [if_pos e3, if_neg (by omega)]
        · rw [if_neg e3, if_pos (by omega)]
          simp only [dl]
          split
          · rw [if_neg (by omega)]; congr 1; omega
          · rw [if_pos (by omega)]
def swP (H : SH) (s : ByteArray) (b : Nat) : KP := fun x l' H' => H' = H ∧
  ((x = .ret ∧ l' = [(2, .int .i32 b), (3, .int .i64 1), (4, .bool true)] ∧ b < 128) ∨
   (x = .ret ∧ l' = [(2, .int .i32 65533), (3, .int .i64 1), (4, .bool false)] ∧ (128 ≤ b ∧ b < 192 ∨ 248 ≤ b)) ∨
   ∃ n lw c : Nat, x = .normal ∧ l' = [(0, .string s), (6, .int .i64 n), (7, .int .i32 lw), (8, .int .i32 ((b - c : Nat) : Int))] ∧ (n = 2 ∧ lw = 128 ∧ c = 192 ∧ 192 ≤ b ∧ b < 224 ∨ n = 3 ∧ lw = 2048 ∧ c = 224 ∧ 224 ≤ b ∧ b < 240 ∨ n = 4 ∧ lw = 65536 ∧ c = 240 ∧ 240 ≤ b ∧ b < 248))
theorem sp_Decode {H : SH} {s : ByteArray} (h0 : 0 < s.size) : WF F X f_loessref1_Decode [.string s] H (fun r H' => H' = H ∧ r = decV (Utf8.decode s 0)) := by
  have hlen : s.data.toList.length = s.size := Array.length_toList
  have hx : s.data.toList[0]? = some (s.data.toList.getD 0 0) := by rw [List.getD_eq_getElem?_getD, List.getElem?_eq_getElem (by omega)]; rfl
  have hb0 := UInt8.toNat_lt (s.data.toList.getD 0 0)
  have hb1 := UInt8.toNat_lt (s.data.toList.getD 1 0)
  have hb2 := UInt8.toNat_lt (s.data.toList.getD 2 0)
  have hb3 := UInt8.toNat_lt (s.data.toList.getD 3 0)
  rw [Lib.decode_N]
  generalize hB : s.data.toList.getD 0 0 = B at *
  refine WF_fn F_loessref1_Decode ?_
  refine WC_seq (WC_region ?_)
  iterate 3 refine WO_step rfl (S_pure rfl ?_)
  refine WO_nil (KSeq_n (WC_seq (WC_region ?_)))
  refine WO_step rfl (S_pure rfl ?_)
  refine WO_step rfl (S_idxS (j := 0) rfl rfl (by rfl) (by assumption) ?_)
  refine WO_step rfl (S_pure rfl ?_)
  refine WO_nil (KSeq_n (WC_seq (WC_region ?_)))
  iterate 3 refine WO_step rfl (S_pure rfl ?_)
  refine WO_nil (KSeq_n (WC_seq ?_))
  refine WC_post (P := swP H s B.toNat) ?_ ?_
  ·
   refine WC_block (WC_seq (WC_region ?_))
   iterate 3 refine WO_step rfl (S_pure rfl ?_)
   refine WO_nil (KSeq_n ?_)
   refine WC_cond rfl (fun hb1 => ?_) (fun hb1 => ?_)
   ·
    try simp only [bsT] at hb1
    refine WC_seq (WC_region ?_)
    refine WO_step rfl (S_pure rfl ?_)
    refine WO_step rfl (S_pureE rfl (v' := .int .i32 (B.toNat : Int)) ?_ ?_)
    · rw [wrap_i32 (by omega) (by omega)]
    iterate 3 refine WO_step rfl (S_pure rfl ?_)
    refine WO_nil (KSeq_n (WC_ret (KBlock_r ?_)))
    first
      | (exfalso; omega)
      | exact KPost_i seA hsA ⟨rfl, .inl ⟨rfl, rfl, by omega⟩⟩
      | exact KPost_i seA hsA ⟨rfl, .inr (.inl ⟨rfl, rfl, by omega⟩)⟩
      | exact KPost_i (l' := [(0, .string s), (6, .int .i64 2), (7, .int .i32 128), (8, .int .i32 ((B.toNat - 192 : Nat) : Int))]) seA hsA ⟨rfl, .inr (.inr ⟨2, 128, 192, rfl, rfl, by omega⟩)⟩
      | exact KPost_i (l' := [(0, .string s), (6, .int .i64 3), (7, .int .i32 2048), (8, .int .i32 ((B.toNat - 224 : Nat) : Int))]) seA hsA ⟨rfl, .inr (.inr ⟨3, 2048, 224, rfl, rfl, by omega⟩)⟩
      | exact KPost_i (l' := [(0, .string s), (6, .int .i64 4), (7, .int .i32 65536), (8, .int .i32 ((B.toNat - 240 : Nat) : Int))]) seA hsA ⟨rfl, .inr (.inr ⟨4, 65536, 240, rfl, rfl, by omega⟩)⟩
   ·
    try simp only [bsT] at hb1
    refine WC_seq (WC_region ?_)
    iterate 3 refine WO_step rfl (S_pure rfl ?_)
    refine WO_cases (t := 20) rfl (fun hg1 => ?_) (fun hg1 => ?_)
    ·
     try simp only [bsT] at hg1
     iterate 4 refine WO_step rfl (S_pure rfl ?_)
     refine WO_nil (KSeq_n ?_)
     refine WC_cond rfl (fun hb2 => ?_) (fun hb2 => ?_)
     ·
      try simp only [bsT] at hb2
      refine WC_region ?_
      refine WO_step rfl (S_pure rfl ?_)
      refine WO_step rfl (S_pureE rfl (v' := .int .i32 (B.toNat : Int)) ?_ ?_)
      · rw [wrap_i32 (by omega) (by omega)]
      refine WO_step rfl (S_pureE rfl (v' := .int .i32 ((B.toNat - 192 : Nat) : Int)) ?_ ?_)
      · rw [wrap_i32 (by omega) (by omega)]; congr 1; omega
      iterate 3 refine WO_step rfl (S_pure rfl ?_)
      refine WO_nil (KBlock_n ?_)
      first
        | (exfalso; omega)
        | exact KPost_i seA hsA ⟨rfl, .inl ⟨rfl, rfl, by omega⟩⟩
        | exact KPost_i seA hsA ⟨rfl, .inr (.inl ⟨rfl, rfl, by omega⟩)⟩
        | exact KPost_i (l' := [(0, .string s), (6, .int .i64 2), (7, .int .i32 128), (8, .int .i32 ((B.toNat - 192 : Nat) : Int))]) seA hsA ⟨rfl, .inr (.inr ⟨2, 128, 192, rfl, rfl, by omega⟩)⟩
        | exact KPost_i (l' := [(0, .string s), (6, .int .i64 3), (7, .int .i32 2048), (8, .int .i32 ((B.toNat - 224 : Nat) : Int))]) seA hsA ⟨rfl, .inr (.inr ⟨3, 2048, 224, rfl, rfl, by omega⟩)⟩
        | exact KPost_i (l' := [(0, .string s), (6, .int .i64 4), (7, .int .i32 65536), (8, .int .i32 ((B.toNat - 240 : Nat) : Int))]) seA hsA ⟨rfl, .inr (.inr ⟨4, 65536, 240, rfl, rfl, by omega⟩)⟩
     ·
      try simp only [bsT] at hb2
      refine WC_seq (WC_region ?_)
      iterate 3 refine WO_step rfl (S_pure rfl ?_)
      refine WO_cases (t := 30) rfl (fun hg2 => ?_) (fun hg2 => ?_)
      ·
       try simp only [bsT] at hg2
       iterate 4 refine WO_step rfl (S_pure rfl ?_)
       refine WO_nil (KSeq_n ?_)
       refine WC_cond rfl (fun hb3 => ?_) (fun hb3 => ?_)
       ·
        try simp only [bsT] at hb3
        refine WC_region ?_
        refine WO_step rfl (S_pure rfl ?_)
        refine WO_step rfl (S_pureE rfl (v' := .int .i32 (B.toNat : Int)) ?_ ?_)
        · rw [wrap_i32 (by omega) (by omega)]
        refine WO_step rfl (S_pureE rfl (v' := .int .i32 ((B.toNat - 224 : Nat) : Int)) ?_ ?_)
        · rw [wrap_i32 (by omega) (by omega)]; congr 1; omega
        iterate 3 refine WO_step rfl (S_pure rfl ?_)
        refine WO_nil (KBlock_n ?_)
        first
          | (exfalso; omega)
          | exact KPost_i seA hsA ⟨rfl, .inl ⟨rfl, rfl, by omega⟩⟩
          | exact KPost_i seA hsA ⟨rfl, .inr (.inl ⟨rfl, rfl, by omega⟩)⟩
          | exact KPost_i (l' := [(0, .string s), (6, .int .i64 2), (7, .int .i32 128), (8, .int .i32 ((B.toNat - 192 : Nat) : Int))]) seA hsA ⟨rfl, .inr (.inr ⟨2, 128, 192, rfl, rfl, by omega⟩)⟩
          | exact KPost_i (l' := [(0, .string s), (6, .int .i64 3), (7, .int .i32 2048), (8, .int .i32 ((B.toNat - 224 : Nat) : Int))]) seA hsA ⟨rfl, .inr (.inr ⟨3, 2048, 224, rfl, rfl, by omega⟩)⟩
          | exact KPost_i (l' := [(0, .string s), (6, .int .i64 4), (7, .int .i32 65536), (8, .int .i32 ((B.toNat - 240 : Nat) : Int))]) seA hsA ⟨rfl, .inr (.inr ⟨4, 65536, 240, rfl, rfl, by omega⟩)⟩
       ·
        try simp only [bsT] at hb3
        refine WC_seq (WC_region ?_)
        iterate 3 refine WO_step rfl (S_pure rfl ?_)
        refine WO_cases (t := 40) rfl (fun hg3 => ?_) (fun hg3 => ?_)
        ·
         try simp only [bsT] at hg3
         iterate 4 refine WO_step rfl (S_pure rfl ?_)
         refine WO_nil (KSeq_n ?_)
         refine WC_cond rfl (fun hb4 => ?_) (fun hb4 => ?_)
         ·
          try simp only [bsT] at hb4
          refine WC_region ?_
          refine WO_step rfl (S_pure rfl ?_)
          refine WO_step rfl (S_pureE rfl (v' := .int .i32 (B.toNat : Int)) ?_ ?_)
          · rw [wrap_i32 (by omega) (by omega)]
          refine WO_step rfl (S_pureE rfl (v' := .int .i32 ((B.toNat - 240 : Nat) : Int)) ?_ ?_)
          · rw [wrap_i32 (by omega) (by omega)]; congr 1; omega
          iterate 3 refine WO_step rfl (S_pure rfl ?_)
          refine WO_nil (KBlock_n ?_)
          first
            | (exfalso; omega)
            | exact KPost_i seA hsA ⟨rfl, .inl ⟨rfl, rfl, by omega⟩⟩
            | exact KPost_i seA hsA ⟨rfl, .inr (.inl ⟨rfl, rfl, by omega⟩)⟩
            | exact KPost_i (l' := [(0, .string s), (6, .int .i64 2), (7, .int .i32 128), (8, .int .i32 ((B.toNat - 192 : Nat) : Int))]) seA hsA ⟨rfl, .inr (.inr ⟨2, 128, 192, rfl, rfl, by omega⟩)⟩
            | exact KPost_i (l' := [(0, .string s), (6, .int .i64 3), (7, .int .i32 2048), (8, .int .i32 ((B.toNat - 224 : Nat) : Int))]) seA hsA ⟨rfl, .inr (.inr ⟨3, 2048, 224, rfl, rfl, by omega⟩)⟩
            | exact KPost_i (l' := [(0, .string s), (6, .int .i64 4), (7, .int .i32 65536), (8, .int .i32 ((B.toNat - 240 : Nat) : Int))]) seA hsA ⟨rfl, .inr (.inr ⟨4, 65536, 240, rfl, rfl, by omega⟩)⟩
         ·
          try simp only [bsT] at hb4
          refine WC_seq (WC_region ?_)
          iterate 3 refine WO_step rfl (S_pure rfl ?_)
          refine WO_nil (KSeq_n (WC_ret (KBlock_r ?_)))
          first
            | (exfalso; omega)
            | exact KPost_i seA hsA ⟨rfl, .inl ⟨rfl, rfl, by omega⟩⟩
            | exact KPost_i seA hsA ⟨rfl, .inr (.inl ⟨rfl, rfl, by omega⟩)⟩
            | exact KPost_i (l' := [(0, .string s), (6, .int .i64 2), (7, .int .i32 128), (8, .int .i32 ((B.toNat - 192 : Nat) : Int))]) seA hsA ⟨rfl, .inr (.inr ⟨2, 128, 192, rfl, rfl, by omega⟩)⟩
            | exact KPost_i (l' := [(0, .string s), (6, .int .i64 3), (7, .int .i32 2048), (8, .int .i32 ((B.toNat - 224 : Nat) : Int))]) seA hsA ⟨rfl, .inr (.inr ⟨3, 2048, 224, rfl, rfl, by omega⟩)⟩
            | exact KPost_i (l' := [(0, .string s), (6, .int .i64 4), (7, .int .i32 65536), (8, .int .i32 ((B.toNat - 240 : Nat) : Int))]) seA hsA ⟨rfl, .inr (.inr ⟨4, 65536, 240, rfl, rfl, by omega⟩)⟩
        ·
         try simp only [bsT] at hg3
         iterate 2 refine WO_off rfl ?_
         iterate 2 refine WO_step rfl (S_pure rfl ?_)
         refine WO_nil (KSeq_n ?_)
         refine WC_cond rfl (fun h => ?_) (fun _ => ?_)
         · exact absurd h (by decide)
         refine WC_seq (WC_region ?_)
         iterate 3 refine WO_step rfl (S_pure rfl ?_)
         refine WO_nil (KSeq_n (WC_ret (KBlock_r ?_)))
         first
           | (exfalso; omega)
           | exact KPost_i seA hsA ⟨rfl, .inl ⟨rfl, rfl, by omega⟩⟩
           | exact KPost_i seA hsA ⟨rfl, .inr (.inl ⟨rfl, rfl, by omega⟩)⟩
           | exact KPost_i (l' := [(0, .string s), (6, .int .i64 2), (7, .int .i32 128), (8, .int .i32 ((B.toNat - 192 : Nat) : Int))]) seA hsA ⟨rfl, .inr (.inr ⟨2, 128, 192, rfl, rfl, by omega⟩)⟩
           | exact KPost_i (l' := [(0, .string s), (6, .int .i64 3), (7, .int .i32 2048), (8, .int .i32 ((B.toNat - 224 : Nat) : Int))]) seA hsA ⟨rfl, .inr (.inr ⟨3, 2048, 224, rfl, rfl, by omega⟩)⟩
           | exact KPost_i (l' := [(0, .string s), (6, .int .i64 4), (7, .int .i32 65536), (8, .int .i32 ((B.toNat - 240 : Nat) : Int))]) seA hsA ⟨rfl, .inr (.inr ⟨4, 65536, 240, rfl, rfl, by omega⟩)⟩
      ·
       try simp only [bsT] at hg2
       iterate 2 refine WO_off rfl ?_
       iterate 2 refine WO_step rfl (S_pure rfl ?_)
       refine WO_nil (KSeq_n ?_)
       refine WC_cond rfl (fun h => ?_) (fun _ => ?_)
       · exact absurd h (by decide)
       refine WC_seq (WC_region ?_)
       iterate 3 refine WO_step rfl (S_pure rfl ?_)
       refine WO_cases (t := 40) rfl (fun hg4 => ?_) (fun hg4 => ?_)
       ·
        try simp only [bsT] at hg4
        iterate 4 refine WO_step rfl (S_pure rfl ?_)
        refine WO_nil (KSeq_n ?_)
        refine WC_cond rfl (fun hb5 => ?_) (fun hb5 => ?_)
        ·
         try simp only [bsT] at hb5
         refine WC_region ?_
         refine WO_step rfl (S_pure rfl ?_)
         refine WO_step rfl (S_pureE rfl (v' := .int .i32 (B.toNat : Int)) ?_ ?_)
         · rw [wrap_i32 (by omega) (by omega)]
         refine WO_step rfl (S_pureE rfl (v' := .int .i32 ((B.toNat - 240 : Nat) : Int)) ?_ ?_)
         · rw [wrap_i32 (by omega) (by omega)]; congr 1; omega
         iterate 3 refine WO_step rfl (S_pure rfl ?_)
         refine WO_nil (KBlock_n ?_)
         first
           | (exfalso; omega)
           | exact KPost_i seA hsA ⟨rfl, .inl ⟨rfl, rfl, by omega⟩⟩
           | exact KPost_i seA hsA ⟨rfl, .inr (.inl ⟨rfl, rfl, by omega⟩)⟩
           | exact KPost_i (l' := [(0, .string s), (6, .int .i64 2), (7, .int .i32 128), (8, .int .i32 ((B.toNat - 192 : Nat) : Int))]) seA hsA ⟨rfl, .inr (.inr ⟨2, 128, 192, rfl, rfl, by omega⟩)⟩
           | exact KPost_i (l' := [(0, .string s), (6, .int .i64 3), (7, .int .i32 2048), (8, .int .i32 ((B.toNat - 224 : Nat) : Int))]) seA hsA ⟨rfl, .inr (.inr ⟨3, 2048, 224, rfl, rfl, by omega⟩)⟩
           | exact KPost_i (l' := [(0, .string s), (6, .int .i64 4), (7, .int .i32 65536), (8, .int .i32 ((B.toNat - 240 : Nat) : Int))]) seA hsA ⟨rfl, .inr (.inr ⟨4, 65536, 240, rfl, rfl, by omega⟩)⟩
        ·
         try simp only [bsT] at hb5
         refine WC_seq (WC_region ?_)
         iterate 3 refine WO_step rfl (S_pure rfl ?_)
         refine WO_nil (KSeq_n (WC_ret (KBlock_r ?_)))
         first
           | (exfalso; omega)
           | exact KPost_i seA hsA ⟨rfl, .inl ⟨rfl, rfl, by omega⟩⟩
           | exact KPost_i seA hsA ⟨rfl, .inr (.inl ⟨rfl, rfl, by omega⟩)⟩
           | exact KPost_i (l' := [(0, .string s), (6, .int .i64 2), (7, .int .i32 128), (8, .int .i32 ((B.toNat - 192 : Nat) : Int))]) seA hsA ⟨rfl, .inr (.inr ⟨2, 128, 192, rfl, rfl, by omega⟩)⟩
           | exact KPost_i (l' := [(0, .string s), (6, .int .i64 3), (7, .int .i32 2048), (8, .int .i32 ((B.toNat - 224 : Nat) : Int))]) seA hsA ⟨rfl, .inr (.inr ⟨3, 2048, 224, rfl, rfl, by omega⟩)⟩
           | exact KPost_i (l' := [(0, .string s), (6, .int .i64 4), (7, .int .i32 65536), (8, .int .i32 ((B.toNat - 240 : Nat) : Int))]) seA hsA ⟨rfl, .inr (.inr ⟨4, 65536, 240, rfl, rfl, by omega⟩)⟩
       ·
        try simp only [bsT] at hg4
        iterate 2 refine WO_off rfl ?_
        iterate 2 refine WO_step rfl (S_pure rfl ?_)
        refine WO_nil (KSeq_n ?_)
        refine WC_cond rfl (fun h => ?_) (fun _ => ?_)
        · exact absurd h (by decide)
        refine WC_seq (WC_region ?_)
        iterate 3 refine WO_step rfl (S_pure rfl ?_)
        refine WO_nil (KSeq_n (WC_ret (KBlock_r ?_)))
        first
          | (exfalso; omega)
          | exact KPost_i seA hsA ⟨rfl, .inl ⟨rfl, rfl, by omega⟩⟩
          | exact KPost_i seA hsA ⟨rfl, .inr (.inl ⟨rfl, rfl, by omega⟩)⟩
          | exact KPost_i (l' := [(0, .string s), (6, .int .i64 2), (7, .int .i32 128), (8, .int .i32 ((B.toNat - 192 : Nat) : Int))]) seA hsA ⟨rfl, .inr (.inr ⟨2, 128, 192, rfl, rfl, by omega⟩)⟩
          | exact KPost_i (l' := [(0, .string s), (6, .int .i64 3), (7, .int .i32 2048), (8, .int .i32 ((B.toNat - 224 : Nat) : Int))]) seA hsA ⟨rfl, .inr (.inr ⟨3, 2048, 224, rfl, rfl, by omega⟩)⟩
          | exact KPost_i (l' := [(0, .string s), (6, .int .i64 4), (7, .int .i32 65536), (8, .int .i32 ((B.toNat - 240 : Nat) : Int))]) seA hsA ⟨rfl, .inr (.inr ⟨4, 65536, 240, rfl, rfl, by omega⟩)⟩
    ·
     try simp only [bsT] at hg1
     iterate 2 refine WO_off rfl ?_
     iterate 2 refine WO_step rfl (S_pure rfl ?_)
     refine WO_nil (KSeq_n ?_)
     refine WC_cond rfl (fun h => ?_) (fun _ => ?_)
     · exact absurd h (by decide)
     refine WC_seq (WC_region ?_)
     iterate 3 refine WO_step rfl (S_pure rfl ?_)
     refine WO_cases (t := 30) rfl (fun hg5 => ?_) (fun hg5 => ?_)
     ·
      try simp only [bsT] at hg5
      iterate 4 refine WO_step rfl (S_pure rfl ?_)
      refine WO_nil (KSeq_n ?_)
      refine WC_cond rfl (fun hb6 => ?_) (fun hb6 => ?_)
      ·
       try simp only [bsT] at hb6
       refine WC_region ?_
       refine WO_step rfl (S_pure rfl ?_)
       refine WO_step rfl (S_pureE rfl (v' := .int .i32 (B.toNat : Int)) ?_ ?_)
       · rw [wrap_i32 (by omega) (by omega)]
       refine WO_step rfl (S_pureE rfl (v' := .int .i32 ((B.toNat - 224 : Nat) : Int)) ?_ ?_)
       · rw [wrap_i32 (by omega) (by omega)]; congr 1; omega
       iterate 3 refine WO_step rfl (S_pure rfl ?_)
       refine WO_nil (KBlock_n ?_)
       first
         | (exfalso; omega)
         | exact KPost_i seA hsA ⟨rfl, .inl ⟨rfl, rfl, by omega⟩⟩
         | exact KPost_i seA hsA ⟨rfl, .inr (.inl ⟨rfl, rfl, by omega⟩)⟩
         | exact KPost_i (l' := [(0, .string s), (6, .int .i64 2), (7, .int .i32 128), (8, .int .i32 ((B.toNat - 192 : Nat) : Int))]) seA hsA ⟨rfl, .inr (.inr ⟨2, 128, 192, rfl, rfl, by omega⟩)⟩
         | exact KPost_i (l' := [(0, .string s), (6, .int .i64 3), (7, .int .i32 2048), (8, .int .i32 ((B.toNat - 224 : Nat) : Int))]) seA hsA ⟨rfl, .inr (.inr ⟨3, 2048, 224, rfl, rfl, by omega⟩)⟩
         | exact KPost_i (l' := [(0, .string s), (6, .int .i64 4), (7, .int .i32 65536), (8, .int .i32 ((B.toNat - 240 : Nat) : Int))]) seA hsA ⟨rfl, .inr (.inr ⟨4, 65536, 240, rfl, rfl, by omega⟩)⟩
      ·
       try simp only [bsT] at hb6
       refine WC_seq (WC_region ?_)
       iterate 3 refine WO_step rfl (S_pure rfl ?_)
       refine WO_cases (t := 40) rfl (fun hg6 => ?_) (fun hg6 => ?_)
       ·
        try simp only [bsT] at hg6
        iterate 4 refine WO_step rfl (S_pure rfl ?_)
        refine WO_nil (KSeq_n ?_)
        refine WC_cond rfl (fun hb7 => ?_) (fun hb7 => ?_)
        ·
         try simp only [bsT] at hb7
         refine WC_region ?_
         refine WO_step rfl (S_pure rfl ?_)
         refine WO_step rfl (S_pureE rfl (v' := .int .i32 (B.toNat : Int)) ?_ ?_)
         · rw [wrap_i32 (by omega) (by omega)]
         refine WO_step rfl (S_pureE rfl (v' := .int .i32 ((B.toNat - 240 : Nat) : Int)) ?_ ?_)
         · rw [wrap_i32 (by omega) (by omega)]; congr 1; omega
         iterate 3 refine WO_step rfl (S_pure rfl ?_)
         refine WO_nil (KBlock_n ?_)
         first
           | (exfalso; omega)
           | exact KPost_i seA hsA ⟨rfl, .inl ⟨rfl, rfl, by omega⟩⟩
           | exact KPost_i seA hsA ⟨rfl, .inr (.inl ⟨rfl, rfl, by omega⟩)⟩
           | exact KPost_i (l' := [(0, .string s), (6, .int .i64 2), (7, .int .i32 128), (8, .int .i32 ((B.toNat - 192 : Nat) : Int))]) seA hsA ⟨rfl, .inr (.inr ⟨2, 128, 192, rfl, rfl, by omega⟩)⟩
           | exact KPost_i (l' := [(0, .string s), (6, .int .i64 3), (7, .int .i32 2048), (8, .int .i32 ((B.toNat - 224 : Nat) : Int))]) seA hsA ⟨rfl, .inr (.inr ⟨3, 2048, 224, rfl, rfl, by omega⟩)⟩
           | exact KPost_i (l' := [(0, .string s), (6, .int .i64 4), (7, .int .i32 65536), (8, .int .i32 ((B.toNat - 240 : Nat) : Int))]) seA hsA ⟨rfl, .inr (.inr ⟨4, 65536, 240, rfl, rfl, by omega⟩)⟩
        ·
         try simp only [bsT] at hb7
         refine WC_seq (WC_region ?_)
         iterate 3 refine WO_step rfl (S_pure rfl ?_)
         refine WO_nil (KSeq_n (WC_ret (KBlock_r ?_)))
         first
           | (exfalso; omega)
           | exact KPost_i seA hsA ⟨rfl, .inl ⟨rfl, rfl, by omega⟩⟩
           | exact KPost_i seA hsA ⟨rfl, .inr (.inl ⟨rfl, rfl, by omega⟩)⟩
           | exact KPost_i (l' := [(0, .string s), (6, .int .i64 2), (7, .int .i32 128), (8, .int .i32 ((B.toNat - 192 : Nat) : Int))]) seA hsA ⟨rfl, .inr (.inr ⟨2, 128, 192, rfl, rfl, by omega⟩)⟩
           | exact KPost_i (l' := [(0, .string s), (6, .int .i64 3), (7, .int .i32 2048), (8, .int .i32 ((B.toNat - 224 : Nat) : Int))]) seA hsA ⟨rfl, .inr (.inr ⟨3, 2048, 224, rfl, rfl, by omega⟩)⟩
           | exact KPost_i (l' := [(0, .string s), (6, .int .i64 4), (7, .int .i32 65536), (8, .int .i32 ((B.toNat - 240 : Nat) : Int))]) seA hsA ⟨rfl, .inr (.inr ⟨4, 65536, 240, rfl, rfl, by omega⟩)⟩
       ·
        try simp only [bsT] at hg6
        iterate 2 refine WO_off rfl ?_
        iterate 2 refine WO_step rfl (S_pure rfl ?_)
        refine WO_nil (KSeq_n ?_)
        refine WC_cond rfl (fun h => ?_) (fun _ => ?_)
        · exact absurd h (by decide)
        refine WC_seq (WC_region ?_)
        iterate 3 refine WO_step rfl (S_pure rfl ?_)
        refine WO_nil (KSeq_n (WC_ret (KBlock_r ?_)))
        first
          | (exfalso; omega)
          | exact KPost_i seA hsA ⟨rfl, .inl ⟨rfl, rfl, by omega⟩⟩
          | exact KPost_i seA hsA ⟨rfl, .inr (.inl ⟨rfl, rfl, by omega⟩)⟩
          | exact KPost_i (l' := [(0, .string s), (6, .int .i64 2), (7, .int .i32 128), (8, .int .i32 ((B.toNat - 192 : Nat) : Int))]) seA hsA ⟨rfl, .inr (.inr ⟨2, 128, 192, rfl, rfl, by omega⟩)⟩
          | exact KPost_i (l' := [(0, .string s), (6, .int .i64 3), (7, .int .i32 2048), (8, .int .i32 ((B.toNat - 224 : Nat) : Int))]) seA hsA ⟨rfl, .inr (.inr ⟨3, 2048, 224, rfl, rfl, by omega⟩)⟩
          | exact KPost_i (l' := [(0, .string s), (6, .int .i64 4), (7, .int .i32 65536), (8, .int .i32 ((B.toNat - 240 : Nat) : Int))]) seA hsA ⟨rfl, .inr (.inr ⟨4, 65536, 240, rfl, rfl, by omega⟩)⟩
     ·
      try simp only [bsT] at hg5
      iterate 2 refine WO_off rfl ?_
      iterate 2 refine WO_step rfl (S_pure rfl ?_)
      refine WO_nil (KSeq_n ?_)
      refine WC_cond rfl (fun h => ?_) (fun _ => ?_)
      · exact absurd h (by decide)
      refine WC_seq (WC_region ?_)
      iterate 3 refine WO_step rfl (S_pure rfl ?_)
      refine WO_cases (t := 40) rfl (fun hg7 => ?_) (fun hg7 => ?_)
      ·
       try simp only [bsT] at hg7
       iterate 4 refine WO_step rfl (S_pure rfl ?_)
       refine WO_nil (KSeq_n ?_)
       refine WC_cond rfl (fun hb8 => ?_) (fun hb8 => ?_)
       ·
        try simp only [bsT] at hb8
        refine WC_region ?_
        refine WO_step rfl (S_pure rfl ?_)
        refine WO_step rfl (S_pureE rfl (v' := .int .i32 (B.toNat : Int)) ?_ ?_)
        · rw [wrap_i32 (by omega) (by omega)]
        refine WO_step rfl (S_pureE rfl (v' := .int .i32 ((B.toNat - 240 : Nat) : Int)) ?_ ?_)
        · rw [wrap_i32 (by omega) (by omega)]; congr 1; omega
        iterate 3 refine WO_step rfl (S_pure rfl ?_)
        refine WO_nil (KBlock_n ?_)
        first
          | (exfalso; omega)
          | exact KPost_i seA hsA ⟨rfl, .inl ⟨rfl, rfl, by omega⟩⟩
          | exact KPost_i seA hsA ⟨rfl, .inr (.inl ⟨rfl, rfl, by omega⟩)⟩
          | exact KPost_i (l' := [(0, .string s), (6, .int .i64 2), (7, .int .i32 128), (8, .int .i32 ((B.toNat - 192 : Nat) : Int))]) seA hsA ⟨rfl, .inr (.inr ⟨2, 128, 192, rfl, rfl, by omega⟩)⟩
          | exact KPost_i (l' := [(0, .string s), (6, .int .i64 3), (7, .int .i32 2048), (8, .int .i32 ((B.toNat - 224 : Nat) : Int))]) seA hsA ⟨rfl, .inr (.inr ⟨3, 2048, 224, rfl, rfl, by omega⟩)⟩
          | exact KPost_i (l' := [(0, .string s), (6, .int .i64 4), (7, .int .i32 65536), (8, .int .i32 ((B.toNat - 240 : Nat) : Int))]) seA hsA ⟨rfl, .inr (.inr ⟨4, 65536, 240, rfl, rfl, by omega⟩)⟩
       ·
        try simp only [bsT] at hb8
        refine WC_seq (WC_region ?_)
        iterate 3 refine WO_step rfl (S_pure rfl ?_)
        refine WO_nil (KSeq_n (WC_ret (KBlock_r ?_)))
        first
          | (exfalso; omega)
          | exact KPost_i seA hsA ⟨rfl, .inl ⟨rfl, rfl, by omega⟩⟩
          | exact KPost_i seA hsA ⟨rfl, .inr (.inl ⟨rfl, rfl, by omega⟩)⟩
          | exact KPost_i (l' := [(0, .string s), (6, .int .i64 2), (7, .int .i32 128), (8, .int .i32 ((B.toNat - 192 : Nat) : Int))]) seA hsA ⟨rfl, .inr (.inr ⟨2, 128, 192, rfl, rfl, by omega⟩)⟩
          | exact KPost_i (l' := [(0, .string s), (6, .int .i64 3), (7, .int .i32 2048), (8, .int .i32 ((B.toNat - 224 : Nat) : Int))]) seA hsA ⟨rfl, .inr (.inr ⟨3, 2048, 224, rfl, rfl, by omega⟩)⟩
          | exact KPost_i (l' := [(0, .string s), (6, .int .i64 4), (7, .int .i32 65536), (8, .int .i32 ((B.toNat - 240 : Nat) : Int))]) seA hsA ⟨rfl, .inr (.inr ⟨4, 65536, 240, rfl, rfl, by omega⟩)⟩
      ·
       try simp only [bsT] at hg7
       iterate 2 refine WO_off rfl ?_
       iterate 2 refine WO_step rfl (S_pure rfl ?_)
       refine WO_nil (KSeq_n ?_)
       refine WC_cond rfl (fun h => ?_) (fun _ => ?_)
       · exact absurd h (by decide)
       refine WC_seq (WC_region ?_)
       iterate 3 refine WO_step rfl (S_pure rfl ?_)
       refine WO_nil (KSeq_n (WC_ret (KBlock_r ?_)))
       first
         | (exfalso; omega)
         | exact KPost_i seA hsA ⟨rfl, .inl ⟨rfl, rfl, by omega⟩⟩
         | exact KPost_i seA hsA ⟨rfl, .inr (.inl ⟨rfl, rfl, by omega⟩)⟩
         | exact KPost_i (l' := [(0, .string s), (6, .int .i64 2), (7, .int .i32 128), (8, .int .i32 ((B.toNat - 192 : Nat) : Int))]) seA hsA ⟨rfl, .inr (.inr ⟨2, 128, 192, rfl, rfl, by omega⟩)⟩
         | exact KPost_i (l' := [(0, .string s), (6, .int .i64 3), (7, .int .i32 2048), (8, .int .i32 ((B.toNat - 224 : Nat) : Int))]) seA hsA ⟨rfl, .inr (.inr ⟨3, 2048, 224, rfl, rfl, by omega⟩)⟩
         | exact KPost_i (l' := [(0, .string s), (6, .int .i64 4), (7, .int .i32 65536), (8, .int .i32 ((B.toNat - 240 : Nat) : Int))]) seA hsA ⟨rfl, .inr (.inr ⟨4, 65536, 240, rfl, rfl, by omega⟩)⟩
  ·
   rintro x l' H' ⟨rfl, ⟨rfl, rfl, hb⟩ | ⟨rfl, rfl, hb⟩ | ⟨n, lw, c, rfl, rfl, hb⟩⟩
   ·
    refine KSeq_r ?_
    refine KFn_r (ResL.tmp rfl (ResL.tmp rfl (ResL.tmp rfl ResL.nil))) ?_
    refine ⟨_, hsA, rfl, ?_⟩
    unfold decV Lib.decodeN
    rw [if_pos (by omega)]
    have : decOk (B.toNat, 1) = true := by simp [decOk]; omega
    rw [this]; rfl
   ·
    refine KSeq_r ?_
    refine KFn_r (ResL.tmp rfl (ResL.tmp rfl (ResL.tmp rfl ResL.nil))) ?_
    refine ⟨_, hsA, rfl, ?_⟩
    unfold decV Lib.decodeN
    rw [if_neg (by omega), if_neg (by omega), if_neg (by omega), if_neg (by omega)]
    rfl
   ·
    have hdlc : n = 2 ∨ n = 3 ∨ n = 4 := by omega
    refine KSeq_n (WC_seq (WC_seq (WC_region ?_)))
    iterate 4 refine WO_step rfl (S_pure rfl ?_)
    refine WO_nil (KSeq_n ?_)
    refine WC_cond rfl (fun hb9 => ?_) (fun hb9 => ?_)
    ·
     try simp only [bsT] at hb9
     refine WC_seq (WC_region ?_)
     iterate 3 refine WO_step rfl (S_pure rfl ?_)
     refine WO_nil (KSeq_n (WC_ret (KSeq_r ?_)))
     refine KFn_r (ResL.tmp rfl (ResL.tmp rfl (ResL.tmp rfl ResL.nil))) ?_
     refine ⟨_, hsA, rfl, ?_⟩
     rw [Nat.sub_zero, dec_short (k := n) (by omega) (by omega)]
     rfl
    ·
     try simp only [bsT] at hb9
     refine WC_skip (KSeq_n (WC_seq (WC_seq (WC_region ?_))))
     refine WO_step rfl (S_pure rfl ?_)
     refine WO_nil (KSeq_n (WC_block ?_))
     have hr1 : 1 = 1 ∧ B.toNat - c < 32 ∨ 1 = 2 ∧ B.toNat - c < 2048 ∨ 1 = 3 ∧ B.toNat - c < 131072 ∨ 1 = 4 ∧ B.toNat - c < 8388608 := by omega
     refine WC_post (WC_weak (lp_Decode_0 (lw := .int .i32 lw) (s := s) (n := n) (by omega) (by omega) (n - 1) 1 (B.toNat - c) rfl (by omega) hr1) seA hsA) ?_
     intro x l' H' hp
     unfold dlP at hp
     split at hp
     ·
      rename_i r hr
      obtain ⟨rfl, rfl, rfl⟩ := hp
      refine KBlock_h (KSeq_n (WC_seq (WC_seq (WC_region ?_))))
      iterate 4 refine WO_step rfl (S_pure rfl ?_)
      refine WO_cases (t := 77) rfl (fun hg8 => ?_) (fun hg8 => ?_)
      ·
       try simp only [bsT] at hg8
       iterate 2 refine WO_off rfl ?_
       iterate 2 refine WO_step rfl (S_pure rfl ?_)
       iterate 6 refine WO_off rfl ?_
       refine WO_step rfl (S_pure rfl ?_)
       refine WO_nil (KSeq_n ?_)
       refine WC_cond rfl (fun _ => ?_) (fun h => ?_)
       rotate_left
       · exact absurd h (by decide)
       refine WC_seq (WC_region ?_)
       iterate 3 refine WO_step rfl (S_pure rfl ?_)
       refine WO_nil (KSeq_n (WC_ret (KSeq_r ?_)))
       refine KFn_r (ResL.tmp rfl (ResL.tmp rfl (ResL.tmp rfl ResL.nil))) ?_
       first
         | (exfalso; omega)
         | (refine ⟨_, hsA, rfl, ?_⟩
            rw [Nat.sub_zero, ← hB, dec_long (k := n) (lw := lw) (c := c) (by rw [hB]; omega) (by omega), hB, hr]
            simp only []
            first
              | (rw [if_pos (by omega)]; rfl)
              | (rw [if_neg (by omega)]
                 unfold decV
                 have : decOk (r, n) = true := by unfold decOk; have : (n == 1) = false := by rw [beq_eq_false_iff_ne]; omega
                                                  simp [this]
                 rw [this]; rfl))
      ·
       try simp only [bsT] at hg8
       iterate 4 refine WO_step rfl (S_pure rfl ?_)
       refine WO_cases (t := 81) rfl (fun hg9 => ?_) (fun hg9 => ?_)
       ·
        try simp only [bsT] at hg9
        iterate 6 refine WO_off rfl ?_
        refine WO_step rfl (S_pure rfl ?_)
        refine WO_nil (KSeq_n ?_)
        refine WC_cond rfl (fun _ => ?_) (fun h => ?_)
        rotate_left
        · exact absurd h (by decide)
        refine WC_seq (WC_region ?_)
        iterate 3 refine WO_step rfl (S_pure rfl ?_)
        refine WO_nil (KSeq_n (WC_ret (KSeq_r ?_)))
        refine KFn_r (ResL.tmp rfl (ResL.tmp rfl (ResL.tmp rfl ResL.nil))) ?_
        first
          | (exfalso; omega)
          | (refine ⟨_, hsA, rfl, ?_⟩
             rw [Nat.sub_zero, ← hB, dec_long (k := n) (lw := lw) (c := c) (by rw [hB]; omega) (by omega), hB, hr]
             simp only []
             first
               | (rw [if_pos (by omega)]; rfl)
               | (rw [if_neg (by omega)]
                  unfold decV
                  have : decOk (r, n) = true := by unfold decOk; have : (n == 1) = false := by rw [beq_eq_false_iff_ne]; omega
                                                   simp [this]
                  rw [this]; rfl))
       ·
        try simp only [bsT] at hg9
        iterate 3 refine WO_step rfl (S_pure rfl ?_)
        refine WO_cases (t := 84) rfl (fun hg10 => ?_) (fun hg10 => ?_)
        ·
         try simp only [bsT] at hg10
         iterate 4 refine WO_step rfl (S_pure rfl ?_)
         refine WO_nil (KSeq_n ?_)
         refine WC_cond rfl (fun hb10 => ?_) (fun hb10 => ?_)
         ·
          try simp only [bsT] at hb10
          refine WC_seq (WC_region ?_)
          iterate 3 refine WO_step rfl (S_pure rfl ?_)
          refine WO_nil (KSeq_n (WC_ret (KSeq_r ?_)))
          refine KFn_r (ResL.tmp rfl (ResL.tmp rfl (ResL.tmp rfl ResL.nil))) ?_
          first
            | (exfalso; omega)
            | (refine ⟨_, hsA, rfl, ?_⟩
               rw [Nat.sub_zero, ← hB, dec_long (k := n) (lw := lw) (c := c) (by rw [hB]; omega) (by omega), hB, hr]
               simp only []
               first
                 | (rw [if_pos (by omega)]; rfl)
                 | (rw [if_neg (by omega)]
                    unfold decV
                    have : decOk (r, n) = true := by unfold decOk; have : (n == 1) = false := by rw [beq_eq_false_iff_ne]; omega
                                                     simp [this]
                    rw [this]; rfl))
         ·
          try simp only [bsT] at hb10
          refine WC_skip (KSeq_n (WC_seq (WC_region ?_)))
          iterate 5 refine WO_step rfl (S_pure rfl ?_)
          refine WO_nil (KSeq_n (WC_ret ?_))
          refine KFn_r (ResL.tmp rfl (ResL.tmp rfl (ResL.tmp rfl ResL.nil))) ?_
          first
            | (exfalso; omega)
            | (refine ⟨_, hsA, rfl, ?_⟩
               rw [Nat.sub_zero, ← hB, dec_long (k := n) (lw := lw) (c := c) (by rw [hB]; omega) (by omega), hB, hr]
               simp only []
               first
                 | (rw [if_pos (by omega)]; rfl)
                 | (rw [if_neg (by omega)]
                    unfold decV
                    have : decOk (r, n) = true := by unfold decOk; have : (n == 1) = false := by rw [beq_eq_false_iff_ne]; omega
                                                     simp [this]
                    rw [this]; rfl))
        ·
         try simp only [bsT] at hg10
         iterate 2 refine WO_off rfl ?_
         iterate 2 refine WO_step rfl (S_pure rfl ?_)
         refine WO_nil (KSeq_n ?_)
         refine WC_cond rfl (fun h => ?_) (fun _ => ?_)
         · exact absurd h (by decide)
         refine WC_skip (KSeq_n (WC_seq (WC_region ?_)))
         iterate 5 refine WO_step rfl (S_pure rfl ?_)
         refine WO_nil (KSeq_n (WC_ret ?_))
         refine KFn_r (ResL.tmp rfl (ResL.tmp rfl (ResL.tmp rfl ResL.nil))) ?_
         first
           | (exfalso; omega)
           | (refine ⟨_, hsA, rfl, ?_⟩
              rw [Nat.sub_zero, ← hB, dec_long (k := n) (lw := lw) (c := c) (by rw [hB]; omega) (by omega), hB, hr]
              simp only []
              first
                | (rw [if_pos (by omega)]; rfl)
                | (rw [if_neg (by omega)]
                   unfold decV
                   have : decOk (r, n) = true := by unfold decOk; have : (n == 1) = false := by rw [beq_eq_false_iff_ne]; omega
                                                    simp [this]
                   rw [this]; rfl))
     ·
      rename_i hr
      obtain ⟨rfl, rfl, rfl⟩ := hp
      refine KBlock_r (KSeq_r ?_)
      refine KFn_r (ResL.tmp rfl (ResL.tmp rfl (ResL.tmp rfl ResL.nil))) ?_
      refine ⟨_, hsA, rfl, ?_⟩
      rw [Nat.sub_zero, ← hB, dec_long (k := n) (lw := lw) (c := c) (by rw [hB]; omega) (by omega), hB, hr]
      rfl
theorem decode_tail (s : ByteArray) (pos : Nat) : Utf8.decode (s.extract pos s.size) 0 = Utf8.decode s pos := by rw [Lib.tail_decode, Nat.add_zero]
theorem width_le4 (s : ByteArray) (pos : Nat) : (Utf8.decode s pos).2 ≤ 4 := by
  rw [Lib.decode_at]; unfold Lib.decodeN
  repeat' split
  all_goals (simp only []; omega)
end Go.Proofs.YtpnmeednimpjdaaGreat.AM
namespace Go.Proofs.YtpnmeednimpjdaaGreat.AM
open Go
set_option linter.unusedSimpArgs false
set_option linter.unusedVariables false
set_option maxRecDepth 4000
set_option linter.unusedSectionVars false
variable {X : Exts} [HX X]
def findP (i4 : Nat) (H : SH) (o : Option Rec) : KP := fun x l' H' => match o with
  | some q => x = .ret ∧ l' = [(4, .pointer (some ⟨i4, 0, none⟩)), (5, .bool true)] ∧ H' = OB i4 TRec q :: H
  | none => x = .exit 0 ∧ l' = [(4, .pointer (some ⟨i4, 0, none⟩))] ∧ H' = OB i4 TRec rec0 :: H
theorem lp_Find_0 {H : SH} {v : Value} {l : List Rec} {k : ByteArray} (hv : RD H v TRec l) (hb : l.length < 9223372036854775807) (i4 : Nat) : ∀ (n a : Nat), l.length - a = n → a ≤ l.length → fnd (l.drop a) k = fnd l k →
    WC F X (.loop L_loessref10_Find_0) [(6, .int .i64 a), (0, v), (1, .string k), (4, .pointer (some ⟨i4, 0, none⟩))] (OB i4 TRec rec0 :: H) (KPost (findP i4 H (fnd l k))) := by
  intro n
  induction n using Nat.strongRecOn with
  | _ n ih =>
    intro a hn ha hf
    refine WC_loop (WC_seq (WC_seq (WC_region ?_)))
    iterate 2 refine WO_step rfl (S_pure rfl ?_)
    first | refine WO_step rfl (S_pure rfl ?_) | refine WO_step rfl (S_lenS rfl rdA ?_)
    refine WO_step rfl (S_pure rfl ?_)
    refine WO_nil (KSeq_n ?_)
    refine WC_cond rfl (fun hb1 => ?_) (fun hb1 => ?_)
    ·
     try simp only [bsT] at hb1
     obtain ⟨x, hx⟩ := get_of_lt hb1
     rw [drop_get hx] at hf
     refine WC_skip (KSeq_n (WC_seq (WC_block (WC_seq (WC_region ?_)))))
     iterate 2 refine WO_step rfl (S_pure rfl ?_)
     refine WO_step rfl (S_idx rfl rfl rdA (by first | rfl | assumption | (symm; assumption)) (by rfl) (by first | assumption | omega | exact lt_of_get (by assumption) | (simp only [List.length_set]; first | assumption | omega | exact lt_of_get (by assumption))) fun hp15 => ?_)
     refine WO_step rfl (S_fldE rfl (by repeat (first | assumption | apply IsP.padd)) ?_)
     refine WO_step rfl (S_loadF rfl rdA (by rfl) (by assumption) (by rfl) (by rfl) ?_)
     refine WO_step rfl (S_pure rfl ?_)
     first | refine WO_step rfl (S_eqS rfl rfl ?_) | refine WO_step rfl (S_pure rfl ?_)
     refine WO_nil (KSeq_n ?_)
     refine WC_cond rfl (fun hb2 => ?_) (fun hb2 => ?_)
     ·
      try simp only [bsT] at hb2
      refine WC_seq (WC_region ?_)
      iterate 2 refine WO_step rfl (S_pure rfl ?_)
      refine WO_step rfl (S_idx rfl rfl rdA (by first | rfl | assumption | (symm; assumption)) (by rfl) (by first | assumption | omega | exact lt_of_get (by assumption) | (simp only [List.length_set]; first | assumption | omega | exact lt_of_get (by assumption))) fun hp22 => ?_)
      refine WO_step rfl (S_loadE rfl rdA (by first | rfl | assumption | (symm; assumption)) (by first | rfl | assumption | (symm; assumption)) (by first | rfl | assumption | (symm; assumption)) (by assumption) ?_)
      refine WO_step rfl (S_storeO rfl rfl pkA (by first | rfl | exact SV.cells1 _) (by rfl) (by first | rfl | exact SV.ones _) ?_)
      refine WO_step rfl (S_pure rfl ?_)
      refine WO_nil (KSeq_n (WC_ret (KBlock_r (KSeq_r (KLoop_r ?_)))))
      rw [← hf]; simp only [fnd, hb2, if_true]
      exact KPost_i seA hsA ⟨rfl, rfl, rfl⟩
     ·
      try simp only [bsT] at hb2
      refine WC_skip (KBlock_n (KSeq_n (WC_region ?_)))
      refine WO_step rfl (S_pure rfl ?_)
      first | refine WO_step rfl (S_addN (b := 1) rfl rfl (by omega) ?_) | refine WO_step rfl (S_pure rfl ?_)
      refine WO_step rfl (S_pure rfl ?_)
      refine WO_nil (KLoop_n ?_)
      simp only [fnd, hb2, if_false] at hf
      exact WC_weak (ih (l.length - (a + 1)) (by omega) (a + 1) rfl (by omega) hf) seA hsA
    ·
     try simp only [bsT] at hb1
     refine WC_exit (KSeq_x (KLoop_x ?_))
     rw [← hf, List.drop_of_length_le (by omega)]
     exact KPost_i seA hsA ⟨rfl, rfl, rfl⟩
theorem sp_Find {H : SH} {v : Value} {l : List Rec} {k : ByteArray} (hv : RD H v TRec l) (hb : l.length < 9223372036854775807) :
    WF F X f_loessref10_Find [v, .string k] H (fun r H' => H' = H ∧ r = .tuple #[TRec.val ((fnd l k).getD rec0), .bool (fnd l k).isSome]) := by
  refine WF_fn F_loessref10_Find ?_
  refine WC_seq (WC_region ?_)
  refine WO_step rfl (S_new fun i4 => ?_)
  refine WO_step rfl (S_pure rfl ?_)
  refine WO_nil (KSeq_n (WC_seq (WC_seq (WC_region ?_))))
  refine WO_step rfl (S_pure rfl ?_)
  refine WO_nil (KSeq_n (WC_block ?_))
  refine WC_post (WC_weak (lp_Find_0 hv hb i4 l.length 0 (by omega) (by omega) rfl) seA hsA) ?_
  intro x l' H' hp
  unfold findP at hp
  split at hp
  ·
   rename_i q hq
   obtain ⟨rfl, rfl, rfl⟩ := hp
   rw [hq]
   refine KBlock_r (KSeq_r ?_)
   refine KFn_r (ResL.cell rfl pkA (Nat.le_of_ble_eq_true rfl) rfl (ResL.tmp rfl ResL.nil)) ?_
   exact ⟨_, hsA, rfl, rfl⟩
  ·
   rename_i hq
   obtain ⟨rfl, rfl, rfl⟩ := hp
   rw [hq]
   refine KBlock_h (KSeq_n (WC_seq (WC_region ?_)))
   refine WO_step rfl (S_pure rfl ?_)
   first | refine WO_step rfl (S_storeT rfl rfl pkA (by rfl) (by rfl) ?_) | refine WO_step rfl (S_storeO rfl rfl pkA (by first | rfl | exact SV.cells1 _) (by rfl) (by first | rfl | exact SV.ones _) ?_)
   refine WO_step rfl (S_pure rfl ?_)
   refine WO_nil (KSeq_n (WC_ret ?_))
   refine KFn_r (ResL.cell rfl pkA (Nat.le_of_ble_eq_true rfl) rfl (ResL.tmp rfl ResL.nil)) ?_
   exact ⟨_, hsA, rfl, rfl⟩
end Go.Proofs.YtpnmeednimpjdaaGreat.AM
namespace Go.Proofs.YtpnmeednimpjdaaGreat.AM
open Go
set_option linter.unusedSimpArgs false
set_option linter.unusedVariables false
set_option maxRecDepth 4000
set_option linter.unusedSectionVars false
variable {X : Exts} [HX X]
def rns (s : ByteArray) : Nat → Nat → List Int
  | 0, _ => []
  | f + 1, pos => if pos < s.size then ((Utf8.decode s pos).1 : Int) :: rns s f (pos + (Utf8.decode s pos).2) else []
def rnp (s : ByteArray) : Nat → Nat → List Int
  | 0, _ => []
  | f + 1, pos => if pos < s.size then (pos : Int) :: rnp s f (pos + (Utf8.decode s pos).2) else []
def runes (s : ByteArray) : List Int := rns s s.size 0
def starts (s : ByteArray) : List Int := rnp s s.size 0
theorem rns_len (s : ByteArray) : ∀ f pos, (rns s f pos).length ≤ f
  | 0, _ => by simp [rns]
  | f + 1, pos => by
    unfold rns; split
    · have := rns_len s f (pos + (Utf8.decode s pos).2); simp; omega
    · simp
theorem runes_len (s : ByteArray) : (runes s).length ≤ s.size := rns_len s _ _
def xor64 (a b : Int) : Int := IntKind.u64.wrap ((BitVec.ofInt IntKind.u64.bits a ^^^ BitVec.ofInt IntKind.u64.bits b).toNat : Int)
def hstep (h r : Int) : Int := IntKind.u64.wrap (xor64 h (IntKind.u64.wrap r) * 1099511628211)
def hfin0 (h : Int) : Int := xor64 h (h.fdiv (2 ^ min (Int.toNat 32) IntKind.u64.bits))
def hfin1 (h : Int) : Int := IntKind.u64.wrap (hfin0 h * 11400714819323198485)
def hfin (h : Int) : Int := xor64 (hfin1 h) ((hfin1 h).fdiv (2 ^ min (Int.toNat 29) IntKind.u64.bits))
def hashOf (s : ByteArray) : Int := hfin ((runes s).foldl hstep 14695981039346656037)
theorem lp_Runes_0 {H : SH} {s : ByteArray} (hs : s.size ≤ 1000000) : ∀ (f pos : Nat) (a b : List Int) (w v : SV), s.size - pos ≤ f → pos ≤ s.size + 4 → a.length + f ≤ s.size → b.length + f ≤ s.size → a ++ rns s f pos = runes s → b ++ rnp s f pos = starts s →
    WC F X (.loop L_loessref1_Runes_0) [(6, .int .i64 pos), (0, .string s), (4, w.toV), (5, v.toV)] (SL w.toV TI32 a :: SL v.toV TInt b :: H)
      (KPost fun x l' H' => ∃ w v : SV, x = .exit 0 ∧ l' = [(4, w.toV), (5, v.toV)] ∧ H' = SL w.toV TI32 (runes s) :: SL v.toV TInt (starts s) :: H) := by
  intro f
  induction f using Nat.strongRecOn with
  | _ f ih =>
    intro pos a b w v hf hp hla hlb ha hb
    refine WC_loop (WC_seq (WC_seq (WC_region ?_)))
    iterate 4 refine WO_step rfl (S_pure rfl ?_)
    refine WO_nil (KSeq_n ?_)
    refine WC_cond rfl (fun hb1 => ?_) (fun hb1 => ?_)
    ·
     try simp only [bsT] at hb1
     obtain ⟨f', rfl⟩ : ∃ m', f = m' + 1 := ⟨f - 1, by omega⟩
     have hw1 := Lib.width_pos s pos
     have hw2 := Lib.rune_le s pos
     simp only [rns, rnp, if_pos hb1] at ha hb
     have hsz : (s.extract pos s.size).size = s.size - pos := by simp
     refine WC_skip (KSeq_n (WC_block (WC_seq (WC_region ?_))))
     iterate 2 refine WO_step rfl (S_pure rfl ?_)
     refine WO_step rfl (S_cutS rfl (LB.mk rfl rfl) LB.dflt ?_ ?_ ?_)
     · omega
     · omega
     refine WO_call rfl rfl rfl ?_
     refine (sp_Decode (by rw [hsz]; omega)).mono ?_
     rintro _ _ ⟨rfl, rfl⟩
     rw [decode_tail]
     unfold decV
     iterate 7 refine WO_step rfl (S_pure rfl ?_)
     refine WO_nil (KSeq_n (WC_seq (WC_region ?_)))
     iterate 2 refine WO_step rfl (S_pure rfl ?_)
     refine WO_step rfl (S_lit1 (T := TI32) rfl rfl rfl rfl fun w24 => ?_)
     refine WO_step rfl (S_app rfl rfl pkA (by first | exact SRC.str rfl rfl | (apply RD.src; repeat (first | assumption | exact RD.head | exact RD.nil | apply RD.tail))) (by rfl) (by rfl) (by (try simp only [List.length_append, List.length_cons, List.length_nil]); omega) fun w25 => ?_)
     iterate 2 refine WO_step rfl (S_pure rfl ?_)
     refine WO_step rfl (S_lit1 (T := TInt) rfl rfl rfl rfl fun w28 => ?_)
     refine WO_step rfl (S_app rfl rfl pkA (by first | exact SRC.str rfl rfl | (apply RD.src; repeat (first | assumption | exact RD.head | exact RD.nil | apply RD.tail))) (by rfl) (by rfl) (by (try simp only [List.length_append, List.length_cons, List.length_nil]); omega) fun w29 => ?_)
     iterate 2 refine WO_step rfl (S_pure rfl ?_)
     refine WO_nil (KSeq_n (WC_region ?_))
     iterate 2 refine WO_step rfl (S_pure rfl ?_)
     have hd4 := width_le4 s pos
     refine WO_step rfl (S_addN rfl rfl (by omega) ?_)
     refine WO_step rfl (S_pure rfl ?_)
     refine WO_nil (KBlock_n (KLoop_n ?_))
     have hd4 := width_le4 s pos
     exact WC_weak (ih f' (by omega) (pos + (Utf8.decode s pos).2) (a ++ [((Utf8.decode s pos).1 : Int)]) (b ++ [(pos : Int)]) _ _ (by omega) (by omega) (by simp; omega) (by simp; omega) (by simpa using ha) (by simpa using hb)) seA hsA
    ·
     try simp only [bsT] at hb1
     refine WC_exit (KSeq_x (KLoop_x ?_))
     refine KPost_i (l' := [(4, w.toV), (5, v.toV)]) seA hsA ⟨w, v, rfl, rfl, ?_⟩
     have e1 : rns s f pos = [] := by cases f with
       | zero => rfl
       | succ f => simp only [rns, if_neg hb1]
     have e2 : rnp s f pos = [] := by cases f with
       | zero => rfl
       | succ f => simp only [rnp, if_neg hb1]
     rw [← ha, ← hb, e1, e2, List.append_nil, List.append_nil]
theorem sp_Runes {H : SH} {s : ByteArray} (hs : s.size ≤ 1000000) : WF F X f_loessref1_Runes [.string s] H (fun r H' => ∃ w v : SV, H' = SL w.toV TI32 (runes s) :: SL v.toV TInt (starts s) :: H ∧ r = .tuple #[w.toV, v.toV]) := by
  refine WF_fn F_loessref1_Runes ?_
  refine WC_seq (WC_region ?_)
  iterate 2 refine WO_step rfl (S_pure rfl ?_)
  refine WO_nil (KSeq_n (WC_seq (WC_region ?_)))
  refine WO_step rfl (S_pure rfl ?_)
  refine WO_nil (KSeq_n (WC_seq (WC_region ?_)))
  refine WO_step rfl (S_pure rfl ?_)
  refine WO_nil (KSeq_n (WC_seq (WC_seq (WC_region ?_))))
  refine WO_step rfl (S_pure rfl ?_)
  refine WO_nil (KSeq_n (WC_block ?_))
  refine WC_view (H' := SL (SV.toV .nil) TI32 [] :: SL (SV.toV .nil) TInt [] :: H) (fun h hh => (HAg.addNil (HAg.addNil hh))) ?_
  refine WC_post (WC_weak (lp_Runes_0 hs s.size 0 [] [] .nil .nil (by omega) (by omega) (by simp) (by simp) rfl rfl) seA hsA) ?_
  rintro x l' H' ⟨w, v, rfl, rfl, rfl⟩
  refine KBlock_h (KSeq_n (WC_seq (WC_region ?_)))
  iterate 4 refine WO_step rfl (S_pure rfl ?_)
  refine WO_nil (KSeq_n (WC_ret ?_))
  refine KFn_r (ResL.tmp rfl (ResL.tmp rfl ResL.nil)) ?_
  exact ⟨_, hsA, _, _, rfl, rfl⟩
theorem lp_Hash_0 {H : SH} {w : Value} {l : List Int} (hr : RD H w TI32 l) (hl : l.length ≤ 1000000) : ∀ (n a : Nat) (h : Int), l.length - a = n → a ≤ l.length →
    WC F X (.loop L_loessref6_Hash_0) [(6, .int .i64 a), (4, w), (3, .int .u64 h)] H
      (KPost fun x l' H' => x = .exit 0 ∧ l' = [(3, .int .u64 ((l.drop a).foldl hstep h))] ∧ H' = H) := by
  intro n
  induction n using Nat.strongRecOn with
  | _ n ih =>
    intro a h hn ha
    refine WC_loop (WC_seq (WC_seq (WC_region ?_)))
    iterate 2 refine WO_step rfl (S_pure rfl ?_)
    first | refine WO_step rfl (S_pure rfl ?_) | refine WO_step rfl (S_lenS rfl rdA ?_)
    refine WO_step rfl (S_pure rfl ?_)
    refine WO_nil (KSeq_n ?_)
    refine WC_cond rfl (fun hb1 => ?_) (fun hb1 => ?_)
    ·
     try simp only [bsT] at hb1
     obtain ⟨x, hx⟩ := get_of_lt hb1
     rw [drop_get hx, List.foldl_cons]
     refine WC_skip (KSeq_n (WC_seq (WC_block (WC_region ?_))))
     iterate 3 refine WO_step rfl (S_pure rfl ?_)
     refine WO_step rfl (S_idx rfl rfl rdA (by first | rfl | assumption | (symm; assumption)) (by rfl) (by first | assumption | omega | exact lt_of_get (by assumption) | (simp only [List.length_set]; first | assumption | omega | exact lt_of_get (by assumption))) fun hp21 => ?_)
     refine WO_step rfl (S_loadE rfl rdA (by first | rfl | assumption | (symm; assumption)) (by first | rfl | assumption | (symm; assumption)) (by first | rfl | assumption | (symm; assumption)) (by assumption) ?_)
     first | refine WO_step rfl (S_toU rfl (by omega) ?_) | refine WO_step rfl (S_pure rfl ?_)
     refine WO_step rfl (S_pure rfl ?_)
     first | refine WO_step rfl (S_mulN rfl rfl (by omega) ?_) | refine WO_step rfl (S_pure rfl ?_)
     refine WO_step rfl (S_pure rfl ?_)
     refine WO_nil (KBlock_n (KSeq_n (WC_region ?_)))
     refine WO_step rfl (S_pure rfl ?_)
     first | refine WO_step rfl (S_addN (b := 1) rfl rfl (by omega) ?_) | refine WO_step rfl (S_pure rfl ?_)
     refine WO_step rfl (S_pure rfl ?_)
     refine WO_nil (KLoop_n ?_)
     exact WC_weak (ih (l.length - (a + 1)) (by omega) (a + 1) (hstep h x) rfl (by omega)) seA hsA
    ·
     try simp only [bsT] at hb1
     refine WC_exit (KSeq_x (KLoop_x ?_))
     rw [List.drop_of_length_le (by omega)]
     exact KPost_i seA hsA ⟨rfl, rfl, rfl⟩
theorem sp_RHash {H : SH} {s : ByteArray} (hs : s.size ≤ 1000000) : WF F X f_loessref6_Hash [.string s] H (fun r H' => H' = H ∧ r = .int .u64 (hashOf s)) := by
  have hl := runes_len s
  refine WF_fn F_loessref6_Hash ?_
  refine WC_seq (WC_region ?_)
  refine WO_step rfl (S_pure rfl ?_)
  refine WO_nil (KSeq_n (WC_seq (WC_region ?_)))
  refine WO_step rfl (S_pure rfl ?_)
  refine WO_nil (KSeq_n (WC_seq (WC_region ?_)))
  refine WO_step rfl (S_pure rfl ?_)
  refine WO_call rfl rfl rfl ?_
  refine (sp_Runes (by omega)).mono ?_
  rintro _ _ ⟨wR, vR, rfl, rfl⟩
  iterate 5 refine WO_step rfl (S_pure rfl ?_)
  refine WO_nil (KSeq_n (WC_seq (WC_seq (WC_region ?_))))
  refine WO_step rfl (S_pure rfl ?_)
  refine WO_nil (KSeq_n (WC_block ?_))
  refine WC_post (WC_weak (lp_Hash_0 rdA (by omega) (runes s).length 0 14695981039346656037 (by omega) (by omega)) seA HSub.refl) ?_
  rintro x l' H' ⟨rfl, rfl, rfl⟩
  refine KBlock_h (KSeq_n (WC_seq (WC_region ?_)))
  iterate 5 refine WO_step rfl (S_pure rfl ?_)
  refine WO_nil (KSeq_n (WC_seq (WC_region ?_)))
  refine WO_step rfl (S_pure rfl ?_)
  first | refine WO_step rfl (S_mulN rfl rfl (by omega) ?_) | refine WO_step rfl (S_pure rfl ?_)
  refine WO_step rfl (S_pure rfl ?_)
  refine WO_nil (KSeq_n (WC_seq (WC_region ?_)))
  iterate 5 refine WO_step rfl (S_pure rfl ?_)
  refine WO_nil (KSeq_n (WC_ret ?_))
  refine KFn_r (ResL.tmp rfl ResL.nil) ?_
  exact ⟨_, hsA, rfl, rfl⟩
theorem lp_Of_0 {H : SH} {s : ByteArray} {i7 : Nat} (hs : s.size ≤ 1000000) : ∀ (f pos : Nat) (a : List Int) (w : SV), s.size - pos ≤ f → a.length + f ≤ s.size → a ++ rns s f pos = runes s →
    WC F X (.loop L_runes_Of_0) [(7, .pointer (some ⟨i7, 0, none⟩)), (3, w.toV)] (.obj i7 (.iter s pos) :: SL w.toV TI32 a :: H)
      (KPost fun x l' H' => ∃ w : SV, x = .exit 0 ∧ l' = [(3, w.toV)] ∧ H' = SL w.toV TI32 (runes s) :: H) := by
  intro f
  induction f using Nat.strongRecOn with
  | _ f ih =>
    intro pos a w hf hla ha
    refine WC_loop (WC_seq (WC_region ?_))
    refine WO_step rfl (S_next rfl pkA (fun hn8 => ?_) (fun hn8 => ?_))
    ·
     obtain ⟨f', rfl⟩ : ∃ m', f = m' + 1 := ⟨f - 1, by omega⟩
     have hw1 := Lib.width_pos s pos
     simp only [rns, if_pos hn8] at ha
     refine WO_step rfl (S_pure rfl ?_)
     refine WO_nil (KSeq_n (WC_seq ?_))
     refine WC_cond rfl (fun _ => ?_) (fun h => ?_)
     rotate_left
     · exact absurd h (by decide)
     refine WC_skip (KSeq_n (WC_block (WC_seq (WC_region ?_))))
     iterate 2 refine WO_step rfl (S_pure rfl ?_)
     refine WO_nil (KSeq_n (WC_region ?_))
     iterate 2 refine WO_step rfl (S_pure rfl ?_)
     refine WO_step rfl (S_lit1 (T := TI32) rfl rfl rfl rfl fun w13 => ?_)
     refine WO_step rfl (S_app rfl rfl pkA (by first | exact SRC.str rfl rfl | (apply RD.src; repeat (first | assumption | exact RD.head | exact RD.nil | apply RD.tail))) (by rfl) (by rfl) (by (try simp only [List.length_append, List.length_cons, List.length_nil]); omega) fun w14 => ?_)
     refine WO_step rfl (S_pure rfl ?_)
     refine WO_nil (KBlock_n (KLoop_n ?_))
     exact WC_weak (ih f' (by omega) (pos + (Utf8.decode s pos).2) (a ++ [((Utf8.decode s pos).1 : Int)]) _ (by omega) (by simp; omega) (by simpa using ha)) seA hsA
    ·
     refine WO_step rfl (S_pure rfl ?_)
     refine WO_nil (KSeq_n (WC_seq ?_))
     refine WC_cond rfl (fun h => ?_) (fun _ => ?_)
     · exact absurd h (by decide)
     refine WC_exit (KSeq_x (KLoop_x ?_))
     first
       | exact absurd hb1 (by decide)
       | exact absurd hb2 (by decide)
       | (refine KPost_i (l' := [(3, w.toV)]) (H' := SL w.toV TI32 a :: H) seA hsA ⟨w, rfl, rfl, ?_⟩
          have e1 : rns s f pos = [] := by cases f with
            | zero => rfl
            | succ f => simp only [rns, if_neg hn8]
          rw [← ha, e1, List.append_nil])
theorem sp_rnOf {H : SH} {s : ByteArray} (hs : s.size ≤ 1000000) : WF F X f_runes_Of [.string s] H (fun r H' => ∃ w : SV, H' = SL w.toV TI32 (runes s) :: H ∧ r = w.toV) := by
  refine WF_fn F_runes_Of ?_
  refine WC_seq (WC_region ?_)
  refine WO_step rfl (S_pure rfl ?_)
  refine WO_nil (KSeq_n (WC_seq (WC_region ?_)))
  refine WO_step rfl (S_pure rfl ?_)
  refine WO_nil (KSeq_n (WC_seq (WC_seq (WC_region ?_))))
  refine WO_step rfl (S_pure rfl ?_)
  refine WO_step rfl (S_iter rfl fun i7 => ?_)
  refine WO_nil (KSeq_n (WC_block ?_))
  refine WC_view (H' := SL (SV.toV .nil) TI32 [] :: _) (fun h hh => (HAg.addNil hh)) ?_
  refine WC_post (WC_weak (lp_Of_0 (H := H) hs s.size 0 [] .nil (by omega) (by simp) rfl) seA hsA) ?_
  rintro x l' H' ⟨w, rfl, rfl, rfl⟩
  refine KBlock_h (KSeq_n (WC_seq (WC_region ?_)))
  iterate 2 refine WO_step rfl (S_pure rfl ?_)
  refine WO_nil (KSeq_n (WC_ret ?_))
  refine KFn_r (ResL.tmp rfl ResL.nil) ?_
  exact ⟨_, hsA, _, rfl, rfl⟩
theorem lp_HashOf_0 {H : SH} {w : Value} {l : List Int} (hr : RD H w TI32 l) (hl : l.length ≤ 1000000) : ∀ (n a : Nat) (h : Int), l.length - a = n → a ≤ l.length →
    WC F X (.loop L_hash_Of_0) [(9, .int .i64 a), (7, w), (3, .int .u64 h), (8, .int .i64 l.length)] H
      (KPost fun x l' H' => x = .exit 0 ∧ l' = [(3, .int .u64 ((l.drop a).foldl hstep h))] ∧ H' = H) := by
  intro n
  induction n using Nat.strongRecOn with
  | _ n ih =>
    intro a h hn ha
    refine WC_loop (WC_seq (WC_region ?_))
    refine WO_step rfl (S_pure rfl ?_)
    refine WO_nil (KSeq_n (WC_seq ?_))
    refine WC_cond rfl (fun hb1 => ?_) (fun hb1 => ?_)
    ·
     try simp only [bsT] at hb1
     obtain ⟨x, hx⟩ := get_of_lt hb1
     rw [drop_get hx, List.foldl_cons]
     refine WC_skip (KSeq_n (WC_seq (WC_block (WC_seq (WC_region ?_)))))
     refine WO_step rfl (S_idx rfl rfl rdA (by first | rfl | assumption | (symm; assumption)) (by rfl) (by first | assumption | omega | exact lt_of_get (by assumption) | (simp only [List.length_set]; first | assumption | omega | exact lt_of_get (by assumption))) fun hp11 => ?_)
     refine WO_step rfl (S_loadE rfl rdA (by first | rfl | assumption | (symm; assumption)) (by first | rfl | assumption | (symm; assumption)) (by first | rfl | assumption | (symm; assumption)) (by assumption) ?_)
     refine WO_step rfl (S_pure rfl ?_)
     refine WO_nil (KSeq_n (WC_region ?_))
     iterate 2 refine WO_step rfl (S_pure rfl ?_)
     first | refine WO_step rfl (S_toU rfl (by omega) ?_) | refine WO_step rfl (S_pure rfl ?_)
     refine WO_step rfl (S_pure rfl ?_)
     first | refine WO_step rfl (S_mulN rfl rfl (by omega) ?_) | refine WO_step rfl (S_pure rfl ?_)
     refine WO_step rfl (S_pure rfl ?_)
     refine WO_nil (KBlock_n (KSeq_n (WC_region ?_)))
     first | refine WO_step rfl (S_addN (b := 1) rfl rfl (by omega) ?_) | refine WO_step rfl (S_pure rfl ?_)
     refine WO_step rfl (S_pure rfl ?_)
     refine WO_nil (KLoop_n ?_)
     exact WC_weak (ih (l.length - (a + 1)) (by omega) (a + 1) (hstep h x) rfl (by omega)) seA hsA
    ·
     try simp only [bsT] at hb1
     refine WC_exit (KSeq_x (KLoop_x ?_))
     rw [List.drop_of_length_le (by omega)]
     exact KPost_i seA hsA ⟨rfl, rfl, rfl⟩
theorem sp_HashOf {H : SH} {s : ByteArray} (hs : s.size ≤ 1000000) : WF F X f_hash_Of [.string s] H (fun r H' => H' = H ∧ r = .int .u64 (hashOf s)) := by
  have hl := runes_len s
  refine WF_fn F_hash_Of ?_
  refine WC_seq (WC_region ?_)
  refine WO_step rfl (S_pure rfl ?_)
  refine WO_nil (KSeq_n (WC_seq (WC_region ?_)))
  refine WO_step rfl (S_pure rfl ?_)
  refine WO_nil (KSeq_n (WC_seq (WC_seq (WC_region ?_))))
  refine WO_step rfl (S_pure rfl ?_)
  refine WO_call rfl rfl rfl ?_
  refine (sp_rnOf (by omega)).mono ?_
  rintro _ _ ⟨wR, rfl, rfl⟩
  first | refine WO_step rfl (S_pure rfl ?_) | refine WO_step rfl (S_lenS rfl rdA ?_)
  refine WO_step rfl (S_pure rfl ?_)
  refine WO_nil (KSeq_n (WC_block ?_))
  refine WC_post (WC_weak (lp_HashOf_0 rdA (by omega) (runes s).length 0 14695981039346656037 (by omega) (by omega)) seA HSub.refl) ?_
  rintro x l' H' ⟨rfl, rfl, rfl⟩
  refine KBlock_h (KSeq_n (WC_seq (WC_region ?_)))
  iterate 4 refine WO_step rfl (S_pure rfl ?_)
  first | refine WO_step rfl (S_mulN rfl rfl (by omega) ?_) | refine WO_step rfl (S_pure rfl ?_)
  refine WO_step rfl (S_pure rfl ?_)
  refine WO_nil (KSeq_n (WC_seq (WC_region ?_)))
  iterate 5 refine WO_step rfl (S_pure rfl ?_)
  refine WO_nil (KSeq_n (WC_ret ?_))
  refine KFn_r (ResL.tmp rfl ResL.nil) ?_
  exact ⟨_, hsA, rfl, rfl⟩
end Go.Proofs.YtpnmeednimpjdaaGreat.AM
namespace Go.Proofs.YtpnmeednimpjdaaGreat.AM
open Go
set_option linter.unusedSimpArgs false
set_option linter.unusedVariables false
set_option maxRecDepth 4000
set_option linter.unusedSectionVars false
variable {X : Exts} [HX X]
theorem raw_ext (a b : Raw) : decide (a = b) = (decide (a.kind = b.kind) && decide (a.n = b.n) && decide (a.s = b.s)) := by
  cases a; cases b; simp [Bool.and_assoc]
theorem rec_ext (a b : Rec) : decide (a = b) = (decide (a.key = b.key) && decide (a.gone = b.gone) && decide (a.val = b.val)) := by
  cases a; cases b; simp [Bool.and_assoc]
theorem drop_both {α : Type} {l m : List α} {a : Nat} {x y : α} (hx : l[a]? = some x) (hy : m[a]? = some y) : l.drop a = m.drop a ↔ x = y ∧ l.drop (a + 1) = m.drop (a + 1) := by
  rw [drop_get hx, drop_get hy, List.cons.injEq]
theorem sp_EqVal {H : SH} {a b : Raw} : WF F X f_loessref1_EqVal [TRaw.val a, TRaw.val b] H (fun r H' => H' = H ∧ r = .bool (decide (a = b))) := by
  refine WF_fn F_loessref1_EqVal ?_
  refine WC_seq (WC_region ?_)
  refine WO_step rfl (S_box rfl rfl fun i2 => ?_)
  refine WO_step rfl (S_box rfl rfl fun i3 => ?_)
  refine WO_step rfl (S_pure rfl ?_)
  refine WO_nil (KSeq_n (WC_seq (WC_region ?_)))
  refine WO_step rfl (S_pure rfl ?_)
  refine WO_step rfl (S_loadO rfl pkA (by rfl) (by rfl) ?_)
  refine WO_step rfl (S_pure rfl ?_)
  refine WO_step rfl (S_loadO rfl pkA (by rfl) (by rfl) ?_)
  first | refine WO_step rfl (S_eqS rfl rfl ?_) | refine WO_step rfl (S_pure rfl ?_)
  refine WO_step rfl (S_pure rfl ?_)
  refine WO_cases (t := 10) rfl (fun hg1 => ?_) (fun hg1 => ?_)
  ·
   try simp only [bsT] at hg1
   refine WO_step rfl (S_pure rfl ?_)
   refine WO_step rfl (S_loadO rfl pkA (by rfl) (by rfl) ?_)
   refine WO_step rfl (S_pure rfl ?_)
   refine WO_step rfl (S_loadO rfl pkA (by rfl) (by rfl) ?_)
   first | refine WO_step rfl (S_eqS rfl rfl ?_) | refine WO_step rfl (S_pure rfl ?_)
   iterate 2 refine WO_step rfl (S_pure rfl ?_)
   refine WO_cases (t := 17) rfl (fun hg2 => ?_) (fun hg2 => ?_)
   ·
    try simp only [bsT] at hg2
    refine WO_step rfl (S_pure rfl ?_)
    refine WO_step rfl (S_loadO rfl pkA (by rfl) (by rfl) ?_)
    refine WO_step rfl (S_pure rfl ?_)
    refine WO_step rfl (S_loadO rfl pkA (by rfl) (by rfl) ?_)
    first | refine WO_step rfl (S_eqS rfl rfl ?_) | refine WO_step rfl (S_pure rfl ?_)
    iterate 2 refine WO_step rfl (S_pure rfl ?_)
    refine WO_nil (KSeq_n (WC_ret ?_))
    refine KFn_r (ResL.tmp rfl ResL.nil) ?_
    refine ⟨_, hsA, rfl, ?_⟩
    simp only [resV, raw_ext]
    simp_all
   ·
    try simp only [bsT] at hg2
    iterate 5 refine WO_off rfl ?_
    iterate 2 refine WO_step rfl (S_pure rfl ?_)
    refine WO_nil (KSeq_n (WC_ret ?_))
    refine KFn_r (ResL.tmp rfl ResL.nil) ?_
    refine ⟨_, hsA, rfl, ?_⟩
    simp only [resV, raw_ext]
    simp_all
  ·
   try simp only [bsT] at hg1
   iterate 5 refine WO_off rfl ?_
   iterate 2 refine WO_step rfl (S_pure rfl ?_)
   iterate 5 refine WO_off rfl ?_
   iterate 2 refine WO_step rfl (S_pure rfl ?_)
   refine WO_nil (KSeq_n (WC_ret ?_))
   refine KFn_r (ResL.tmp rfl ResL.nil) ?_
   refine ⟨_, hsA, rfl, ?_⟩
   simp only [resV, raw_ext]
   simp_all
theorem sp_Eq {H : SH} {a b : Rec} : WF F X f_loessref10_Eq [TRec.val a, TRec.val b] H (fun r H' => H' = H ∧ r = .bool (decide (a = b))) := by
  refine WF_fn F_loessref10_Eq ?_
  refine WC_seq (WC_region ?_)
  refine WO_step rfl (S_box rfl rfl fun i2 => ?_)
  refine WO_step rfl (S_box rfl rfl fun i3 => ?_)
  refine WO_step rfl (S_pure rfl ?_)
  refine WO_nil (KSeq_n (WC_seq (WC_region ?_)))
  refine WO_step rfl (S_pure rfl ?_)
  refine WO_step rfl (S_loadO rfl pkA (by rfl) (by rfl) ?_)
  refine WO_step rfl (S_pure rfl ?_)
  refine WO_step rfl (S_loadO rfl pkA (by rfl) (by rfl) ?_)
  first | refine WO_step rfl (S_eqS rfl rfl ?_) | refine WO_step rfl (S_pure rfl ?_)
  refine WO_step rfl (S_pure rfl ?_)
  refine WO_cases (t := 10) rfl (fun hg1 => ?_) (fun hg1 => ?_)
  ·
   try simp only [bsT] at hg1
   refine WO_step rfl (S_pure rfl ?_)
   refine WO_step rfl (S_loadO rfl pkA (by rfl) (by rfl) ?_)
   refine WO_step rfl (S_pure rfl ?_)
   refine WO_step rfl (S_loadO rfl pkA (by rfl) (by rfl) ?_)
   iterate 3 refine WO_step rfl (S_pure rfl ?_)
   refine WO_cases (t := 17) rfl (fun hg2 => ?_) (fun hg2 => ?_)
   ·
    try simp only [bsT] at hg2
    refine WO_step rfl (S_pure rfl ?_)
    refine WO_step rfl (S_loadO rfl pkA (by rfl) (by rfl) ?_)
    refine WO_step rfl (S_pure rfl ?_)
    refine WO_step rfl (S_loadO rfl pkA (by rfl) (by rfl) ?_)
    refine WO_call rfl rfl rfl ?_
    refine sp_EqVal.mono ?_
    rintro _ _ ⟨rfl, rfl⟩
    iterate 2 refine WO_step rfl (S_pure rfl ?_)
    refine WO_nil (KSeq_n (WC_ret ?_))
    refine KFn_r (ResL.tmp rfl ResL.nil) ?_
    refine ⟨_, hsA, rfl, ?_⟩
    simp only [resV, rec_ext]
    simp_all
   ·
    try simp only [bsT] at hg2
    iterate 5 refine WO_off rfl ?_
    iterate 2 refine WO_step rfl (S_pure rfl ?_)
    refine WO_nil (KSeq_n (WC_ret ?_))
    refine KFn_r (ResL.tmp rfl ResL.nil) ?_
    refine ⟨_, hsA, rfl, ?_⟩
    simp only [resV, rec_ext]
    simp_all
  ·
   try simp only [bsT] at hg1
   iterate 5 refine WO_off rfl ?_
   iterate 2 refine WO_step rfl (S_pure rfl ?_)
   iterate 5 refine WO_off rfl ?_
   iterate 2 refine WO_step rfl (S_pure rfl ?_)
   refine WO_nil (KSeq_n (WC_ret ?_))
   refine KFn_r (ResL.tmp rfl ResL.nil) ?_
   refine ⟨_, hsA, rfl, ?_⟩
   simp only [resV, rec_ext]
   simp_all
theorem lp_EqRecs_0 {H : SH} {v w : Value} {l m : List Rec} (hv : RD H v TRec l) (hw : RD H w TRec m) (hlm : l.length = m.length) (hl : l.length ≤ 1000000) : ∀ (n a : Nat), l.length - a = n → a ≤ l.length →
    WC F X (.loop L_loessref10_EqRecs_0) [(5, .int .i64 a), (0, v), (1, w)] H
      (KPost fun x l' H' => H' = H ∧ ((x = .exit 0 ∧ l' = [] ∧ l.drop a = m.drop a) ∨ (x = .ret ∧ l' = [(4, .bool false)] ∧ l.drop a ≠ m.drop a))) := by
  intro n
  induction n using Nat.strongRecOn with
  | _ n ih =>
    intro a hn ha
    refine WC_loop (WC_seq (WC_seq (WC_region ?_)))
    iterate 2 refine WO_step rfl (S_pure rfl ?_)
    first | refine WO_step rfl (S_pure rfl ?_) | refine WO_step rfl (S_lenS rfl rdA ?_)
    refine WO_step rfl (S_pure rfl ?_)
    refine WO_nil (KSeq_n ?_)
    refine WC_cond rfl (fun hb1 => ?_) (fun hb1 => ?_)
    ·
     try simp only [bsT] at hb1
     obtain ⟨x, hx⟩ := get_of_lt hb1
     obtain ⟨y, hy⟩ := get_of_lt (hlm ▸ hb1 : a < m.length)
     refine WC_skip (KSeq_n (WC_seq (WC_block (WC_seq (WC_region ?_)))))
     iterate 2 refine WO_step rfl (S_pure rfl ?_)
     refine WO_step rfl (S_idx rfl rfl rdA (by first | rfl | assumption | (symm; assumption)) (by rfl) (by first | assumption | omega | exact lt_of_get (by assumption) | (simp only [List.length_set]; first | assumption | omega | exact lt_of_get (by assumption))) fun hp19 => ?_)
     refine WO_step rfl (S_loadE rfl rdA (by first | rfl | assumption | (symm; assumption)) (by first | rfl | assumption | (symm; assumption)) (by first | rfl | assumption | (symm; assumption)) (by assumption) ?_)
     iterate 2 refine WO_step rfl (S_pure rfl ?_)
     refine WO_step rfl (S_idx rfl rfl rdA (by first | rfl | assumption | (symm; assumption)) (by rfl) (by first | assumption | omega | exact lt_of_get (by assumption) | (simp only [List.length_set]; first | assumption | omega | exact lt_of_get (by assumption))) fun hp23 => ?_)
     refine WO_step rfl (S_loadE rfl rdA (by first | rfl | assumption | (symm; assumption)) (by first | rfl | assumption | (symm; assumption)) (by first | rfl | assumption | (symm; assumption)) (by assumption) ?_)
     refine WO_call rfl rfl rfl ?_
     refine sp_Eq.mono ?_
     rintro _ _ ⟨rfl, rfl⟩
     refine WO_step rfl (S_pure rfl ?_)
     refine WO_nil (KSeq_n ?_)
     refine WC_cond rfl (fun hb2 => ?_) (fun hb2 => ?_)
     ·
      try simp only [bsT] at hb2
      refine WC_seq (WC_region ?_)
      refine WO_step rfl (S_pure rfl ?_)
      refine WO_nil (KSeq_n (WC_ret (KBlock_r (KSeq_r (KLoop_r ?_)))))
      refine KPost_i (l' := [(4, .bool false)]) seA hsA ⟨rfl, .inr ⟨rfl, rfl, ?_⟩⟩
      rw [Ne, drop_both hx hy]; simp_all
     ·
      try simp only [bsT] at hb2
      refine WC_skip (KBlock_n (KSeq_n (WC_region ?_)))
      refine WO_step rfl (S_pure rfl ?_)
      first | refine WO_step rfl (S_addN (b := 1) rfl rfl (by omega) ?_) | refine WO_step rfl (S_pure rfl ?_)
      refine WO_step rfl (S_pure rfl ?_)
      refine WO_nil (KLoop_n ?_)
      have : l.drop a = m.drop a ↔ l.drop (a + 1) = m.drop (a + 1) := by rw [drop_both hx hy]; simp_all
      simp only [this, ne_eq]
      exact WC_weak (ih (l.length - (a + 1)) (by omega) (a + 1) rfl (by omega)) seA hsA
    ·
     try simp only [bsT] at hb1
     refine WC_exit (KSeq_x (KLoop_x ?_))
     exact KPost_i seA hsA ⟨rfl, .inl ⟨rfl, rfl, by rw [List.drop_of_length_le (by omega), List.drop_of_length_le (by omega)]⟩⟩
theorem sp_EqRecs {H : SH} {v w : Value} {l m : List Rec} (hv : RD H v TRec l) (hw : RD H w TRec m) (hl : l.length ≤ 1000000) : WF F X f_loessref10_EqRecs [v, w] H (fun r H' => H' = H ∧ r = .bool (decide (l = m))) := by
  refine WF_fn F_loessref10_EqRecs ?_
  refine WC_seq (WC_region ?_)
  refine WO_step rfl (S_pure rfl ?_)
  refine WO_nil (KSeq_n (WC_seq (WC_seq (WC_region ?_))))
  refine WO_step rfl (S_pure rfl ?_)
  first | refine WO_step rfl (S_pure rfl ?_) | refine WO_step rfl (S_lenS rfl rdA ?_)
  refine WO_step rfl (S_pure rfl ?_)
  first | refine WO_step rfl (S_pure rfl ?_) | refine WO_step rfl (S_lenS rfl rdA ?_)
  first | refine WO_step rfl (S_neS rfl rfl ?_) | refine WO_step rfl (S_pure rfl ?_)
  refine WO_nil (KSeq_n ?_)
  refine WC_cond rfl (fun hb1 => ?_) (fun hb1 => ?_)
  ·
   try simp only [bsT] at hb1
   refine WC_seq (WC_region ?_)
   refine WO_step rfl (S_pure rfl ?_)
   refine WO_nil (KSeq_n (WC_ret (KSeq_r ?_)))
   refine KFn_r (ResL.tmp rfl ResL.nil) ?_
   refine ⟨_, hsA, rfl, ?_⟩
   have : ¬ l = m := by rintro rfl; simp at hb1
   simp [resV, this]
  ·
   try simp only [bsT] at hb1
   have hlm : l.length = m.length := by simp at hb1; omega
   refine WC_skip (KSeq_n (WC_seq (WC_seq (WC_region ?_))))
   refine WO_step rfl (S_pure rfl ?_)
   refine WO_nil (KSeq_n (WC_block ?_))
   refine WC_post (WC_weak (lp_EqRecs_0 hv hw hlm hl l.length 0 (by omega) (by omega)) seA HSub.refl) ?_
   rintro x l' H' ⟨rfl, ⟨rfl, rfl, h0⟩ | ⟨rfl, rfl, h0⟩⟩
   ·
    refine KBlock_h (KSeq_n (WC_seq (WC_region ?_)))
    refine WO_step rfl (S_pure rfl ?_)
    refine WO_nil (KSeq_n (WC_ret ?_))
    refine KFn_r (ResL.tmp rfl ResL.nil) ?_
    refine ⟨_, hsA, rfl, ?_⟩
    simp only [List.drop_zero] at h0
    simp [resV, h0]
   ·
    refine KBlock_r (KSeq_r ?_)
    refine KFn_r (ResL.tmp rfl ResL.nil) ?_
    refine ⟨_, hsA, rfl, ?_⟩
    simp only [List.drop_zero] at h0
    simp [resV, h0]
def cut (s : ByteArray) (n : Nat) : ByteArray := if n < s.size then s.extract 0 n else s
def cutRaw (r : Raw) : Raw := ⟨r.kind, r.n, cut r.s 30⟩
def cutRec (r : Rec) : Rec := ⟨cut r.key 20, r.gone, cutRaw r.val⟩
def vld (s : ByteArray) : Nat → Nat → Bool
  | 0, _ => true
  | f + 1, pos => if pos < s.size then decOk (Utf8.decode s pos) && vld s f (pos + (Utf8.decode s pos).2) else true
def valid (s : ByteArray) : Bool := vld s s.size 0
def mayKey (s : ByteArray) : Bool := decide (1 ≤ s.size) && decide (s.size ≤ 16)
def mayRaw (r : Raw) : Bool := (decide (r.kind = 1) && decide (r.s = es0)) || (decide (r.kind = 2) && decide (r.n = 0) && decide (r.s.size ≤ 24) && valid r.s)
def mayRec (r : Rec) : Bool := mayKey r.key && (if r.gone then decide (r.val = raw0) else mayRaw r.val)
theorem cut_size (s : ByteArray) (n : Nat) : (cut s n).size ≤ n := by
  unfold cut; split
  · rw [ByteArray.size_extract]; omega
  · omega
theorem sp_Cut3 {H : SH} {s : ByteArray} {n : Nat} : WF F X f_loesslaw3_Cut [.string s, .int .i64 n] H (fun r H' => H' = H ∧ r = .string (cut s n)) := by
  refine WF_fn F_loesslaw3_Cut ?_
  refine WC_seq (WC_region ?_)
  refine WO_step rfl (S_pure rfl ?_)
  refine WO_nil (KSeq_n (WC_seq (WC_seq (WC_region ?_))))
  iterate 4 refine WO_step rfl (S_pure rfl ?_)
  refine WO_nil (KSeq_n ?_)
  refine WC_cond rfl (fun hb1 => ?_) (fun hb1 => ?_)
  ·
   try simp only [bsT] at hb1
   refine WC_seq (WC_region ?_)
   iterate 2 refine WO_step rfl (S_pure rfl ?_)
   refine WO_step rfl (S_cutS rfl LB.dflt (LB.mk rfl rfl) ?_ ?_ ?_)
   · omega
   · omega
   refine WO_step rfl (S_pure rfl ?_)
   refine WO_nil (KSeq_n (WC_ret (KSeq_r ?_)))
   refine KFn_r (ResL.tmp rfl ResL.nil) ?_
   refine ⟨_, hsA, rfl, ?_⟩
   simp [resV, cut, hb1]
  ·
   try simp only [bsT] at hb1
   refine WC_skip (KSeq_n (WC_seq (WC_region ?_)))
   iterate 2 refine WO_step rfl (S_pure rfl ?_)
   refine WO_nil (KSeq_n (WC_ret ?_))
   refine KFn_r (ResL.tmp rfl ResL.nil) ?_
   refine ⟨_, hsA, rfl, ?_⟩
   simp [resV, cut, hb1]
theorem sp_Cut4 {H : SH} {r : Raw} : WF F X f_loesslaw4_Cut [TRaw.val r] H (fun v H' => H' = H ∧ v = TRaw.val (cutRaw r)) := by
  refine WF_fn F_loesslaw4_Cut ?_
  refine WC_seq (WC_region ?_)
  refine WO_step rfl (S_box rfl rfl fun i1 => ?_)
  refine WO_step rfl (S_new fun i2 => ?_)
  refine WO_nil (KSeq_n (WC_seq (WC_region ?_)))
  refine WO_step rfl (S_pure rfl ?_)
  refine WO_step rfl (S_loadO rfl pkA (by rfl) (by rfl) ?_)
  refine WO_call rfl rfl rfl ?_
  refine (sp_Cut3 (n := 30)).mono ?_
  rintro _ _ ⟨rfl, rfl⟩
  refine WO_step rfl (S_pure rfl ?_)
  refine WO_step rfl (S_storeO rfl rfl pkA (by first | rfl | exact SV.cells1 _) (by rfl) (by first | rfl | exact SV.ones _) ?_)
  refine WO_nil (KSeq_n (WC_seq (WC_region ?_)))
  first | refine WO_step rfl (S_loadT rfl pkA (by rfl) (by rfl) ?_) | refine WO_step rfl (S_loadO rfl pkA (by rfl) (by rfl) ?_)
  first | refine WO_step rfl (S_storeT rfl rfl pkA (by rfl) (by rfl) ?_) | refine WO_step rfl (S_storeO rfl rfl pkA (by first | rfl | exact SV.cells1 _) (by rfl) (by first | rfl | exact SV.ones _) ?_)
  refine WO_nil (KSeq_n (WC_ret ?_))
  refine KFn_r (ResL.cell rfl pkA (Nat.le_of_ble_eq_true rfl) rfl ResL.nil) ?_
  exact ⟨_, hsA, rfl, rfl⟩
theorem sp_Cut10 {H : SH} {r : Rec} : WF F X f_loesslaw10_Cut [TRec.val r] H (fun v H' => H' = H ∧ v = TRec.val (cutRec r)) := by
  refine WF_fn F_loesslaw10_Cut ?_
  refine WC_seq (WC_region ?_)
  refine WO_step rfl (S_box rfl rfl fun i1 => ?_)
  refine WO_step rfl (S_new fun i2 => ?_)
  refine WO_nil (KSeq_n (WC_seq (WC_drawn ?_)))
  refine WD_step rfl (S_pure rfl ?_)
  refine WD_step rfl (S_loadO rfl pkA (by rfl) (by rfl) ?_)
  refine WD_call rfl rfl rfl ?_
  refine (sp_Cut3 (n := 20)).mono ?_
  rintro _ _ ⟨rfl, rfl⟩
  refine WD_step rfl (S_pure rfl ?_)
  refine WD_step rfl (S_loadO rfl pkA (by rfl) (by rfl) ?_)
  refine WD_call rfl rfl rfl ?_
  refine sp_Cut4.mono ?_
  rintro _ _ ⟨rfl, rfl⟩
  refine WD_step rfl (S_pure rfl ?_)
  refine WD_step rfl (S_storeO rfl rfl pkA (by first | rfl | exact SV.cells1 _) (by rfl) (by first | rfl | exact SV.ones _) ?_)
  refine WD_step rfl (S_pure rfl ?_)
  refine WD_step rfl (S_storeO rfl rfl pkA (by first | rfl | exact SV.cells1 _) (by rfl) (by first | rfl | exact SV.ones _) ?_)
  refine WD_nil ?_
  refine ⟨?_, ?_⟩
  ·
   refine ⟨ObR.of_step rfl (S_loadO rfl pkA (by rfl) (by rfl) ?_), trivial⟩
   simp [eqV, eqVs, eqV0, TRec, TRaw, Ty.ofAgg, AM.cells, Value.cells]
  ·
   refine KSeq_n (WC_seq (WC_region ?_))
   first | refine WO_step rfl (S_loadT rfl pkA (by rfl) (by rfl) ?_) | refine WO_step rfl (S_loadO rfl pkA (by rfl) (by rfl) ?_)
   first | refine WO_step rfl (S_storeT rfl rfl pkA (by rfl) (by rfl) ?_) | refine WO_step rfl (S_storeO rfl rfl pkA (by first | rfl | exact SV.cells1 _) (by rfl) (by first | rfl | exact SV.ones _) ?_)
   refine WO_nil (KSeq_n (WC_ret ?_))
   refine KFn_r (ResL.cell rfl pkA (Nat.le_of_ble_eq_true rfl) rfl ResL.nil) ?_
   exact ⟨_, hsA, rfl, rfl⟩
theorem lp_Recs_0 {H : SH} {v : Value} {l : List Rec} (hv : RD H v TRec l) {m : Nat} (hm : m ≤ 1000000) : ∀ (n a : Nat) (w : SV), m - a = n → a ≤ l.length → a ≤ m →
    WC F X (.loop L_loesslaw10_Recs_0) [(6, .int .i64 a), (0, v), (1, .int .i64 m), (5, w.toV)] (SL w.toV TRec ((l.take a).map cutRec) :: H)
      (KPost fun x l' H' => ∃ w : SV, x = .exit 0 ∧ l' = [(5, w.toV)] ∧ H' = SL w.toV TRec ((l.take m).map cutRec) :: H) := by
  intro n
  induction n using Nat.strongRecOn with
  | _ n ih =>
    intro a w hn ha hab
    have htl : ((l.take a).map cutRec).length = a := by simp; omega
    refine WC_loop (WC_seq (WC_seq (WC_region ?_)))
    iterate 2 refine WO_step rfl (S_pure rfl ?_)
    first | refine WO_step rfl (S_pure rfl ?_) | refine WO_step rfl (S_lenS rfl rdA ?_)
    iterate 2 refine WO_step rfl (S_pure rfl ?_)
    refine WO_cases (t := 11) rfl (fun hg1 => ?_) (fun hg1 => ?_)
    ·
     try simp only [bsT] at hg1
     iterate 4 refine WO_step rfl (S_pure rfl ?_)
     refine WO_nil (KSeq_n ?_)
     refine WC_cond rfl (fun hb1 => ?_) (fun hb1 => ?_)
     ·
      try simp only [bsT] at hb1
      have hlt : a < l.length := by simpa using hg1
      obtain ⟨x, hx⟩ := get_of_lt hlt
      have htk : (l.take (a + 1)).map cutRec = (l.take a).map cutRec ++ [cutRec x] := by rw [List.take_add_one, hx]; simp
      refine WC_skip (KSeq_n (WC_seq (WC_block (WC_region ?_))))
      iterate 3 refine WO_step rfl (S_pure rfl ?_)
      refine WO_step rfl (S_idx rfl rfl rdA (by first | rfl | assumption | (symm; assumption)) (by rfl) (by first | assumption | omega | exact lt_of_get (by assumption) | (simp only [List.length_set]; first | assumption | omega | exact lt_of_get (by assumption))) fun hp21 => ?_)
      refine WO_step rfl (S_loadE rfl rdA (by first | rfl | assumption | (symm; assumption)) (by first | rfl | assumption | (symm; assumption)) (by first | rfl | assumption | (symm; assumption)) (by assumption) ?_)
      refine WO_call rfl rfl rfl ?_
      refine sp_Cut10.mono ?_
      rintro _ _ ⟨rfl, rfl⟩
      refine WO_step rfl (S_lit1 (T := TRec) rfl rfl rfl rfl fun w24 => ?_)
      refine WO_step rfl (S_app rfl rfl pkA (by first | exact SRC.str rfl rfl | (apply RD.src; repeat (first | assumption | exact RD.head | exact RD.nil | apply RD.tail))) (by rfl) (by rfl) (by (try simp only [List.length_append, List.length_cons, List.length_nil]); omega) fun w25 => ?_)
      refine WO_step rfl (S_pure rfl ?_)
      refine WO_nil (KBlock_n (KSeq_n (WC_region ?_)))
      refine WO_step rfl (S_pure rfl ?_)
      first | refine WO_step rfl (S_addN (b := 1) rfl rfl (by omega) ?_) | refine WO_step rfl (S_pure rfl ?_)
      refine WO_step rfl (S_pure rfl ?_)
      refine WO_nil (KLoop_n ?_)
      exact WC_weak (ih (m - (a + 1)) (by omega) (a + 1) w25 rfl (by omega) (by omega)) seA (by rw [htk]; exact hsA)
     ·
      try simp only [bsT] at hb1
      refine WC_exit (KSeq_x (KLoop_x ?_))
      have e : l.take a = l.take m := by
        first
          | (have : a = m := by omega
             rw [this])
          | (rw [List.take_of_length_le (by omega), List.take_of_length_le (by omega)])
      refine KPost_i (l' := [(5, w.toV)]) (H' := SL w.toV TRec ((l.take m).map cutRec) :: H) seA ?_ ⟨w, rfl, rfl, rfl⟩
      rw [← e]; exact hsA
    ·
     try simp only [bsT] at hg1
     iterate 3 refine WO_off rfl ?_
     refine WO_step rfl (S_pure rfl ?_)
     refine WO_nil (KSeq_n ?_)
     refine WC_cond rfl (fun h => ?_) (fun _ => ?_)
     · exact absurd h (by decide)
     refine WC_exit (KSeq_x (KLoop_x ?_))
     have e : l.take a = l.take m := by
       first
         | (have : a = m := by omega
            rw [this])
         | (rw [List.take_of_length_le (by omega), List.take_of_length_le (by omega)])
     refine KPost_i (l' := [(5, w.toV)]) (H' := SL w.toV TRec ((l.take m).map cutRec) :: H) seA ?_ ⟨w, rfl, rfl, rfl⟩
     rw [← e]; exact hsA
theorem sp_Recs {H : SH} {v : Value} {l : List Rec} {m : Nat} (hv : RD H v TRec l) (hm : m ≤ 1000000) : WF F X f_loesslaw10_Recs [v, .int .i64 m] H (fun r H' => ∃ w : SV, H' = SL w.toV TRec ((l.take m).map cutRec) :: H ∧ r = w.toV) := by
  refine WF_fn F_loesslaw10_Recs ?_
  refine WC_seq (WC_region ?_)
  refine WO_step rfl (S_pure rfl ?_)
  refine WO_nil (KSeq_n (WC_seq (WC_region ?_)))
  refine WO_step rfl (S_pure rfl ?_)
  refine WO_nil (KSeq_n (WC_seq (WC_seq (WC_region ?_))))
  refine WO_step rfl (S_pure rfl ?_)
  refine WO_nil (KSeq_n (WC_block ?_))
  refine WC_view (H' := SL (SV.toV .nil) TRec [] :: H) (fun h hh => (HAg.addNil hh)) ?_
  refine WC_post (WC_weak (lp_Recs_0 hv hm m 0 .nil (by omega) (by omega) (by omega)) seA hsA) ?_
  rintro x l' H' ⟨w, rfl, rfl, rfl⟩
  refine KBlock_h (KSeq_n (WC_seq (WC_region ?_)))
  iterate 2 refine WO_step rfl (S_pure rfl ?_)
  refine WO_nil (KSeq_n (WC_ret ?_))
  refine KFn_r (ResL.tmp rfl ResL.nil) ?_
  exact ⟨_, hsA, _, rfl, rfl⟩
theorem sp_MayKey {H : SH} {s : ByteArray} : WF F X f_loessref1_MayKey [.string s] H (fun v H' => H' = H ∧ v = .bool (mayKey s)) := by
  refine WF_fn F_loessref1_MayKey ?_
  refine WC_seq (WC_region ?_)
  refine WO_step rfl (S_pure rfl ?_)
  refine WO_nil (KSeq_n (WC_seq (WC_region ?_)))
  iterate 4 refine WO_step rfl (S_pure rfl ?_)
  refine WO_cases (t := 6) rfl (fun hg1 => ?_) (fun hg1 => ?_)
  ·
   try simp only [bsT] at hg1
   iterate 5 refine WO_step rfl (S_pure rfl ?_)
   refine WO_nil (KSeq_n (WC_ret ?_))
   refine KFn_r (ResL.tmp rfl ResL.nil) ?_
   refine ⟨_, hsA, rfl, ?_⟩
   simp only [resV, mayKey]
   first | (congr 1; rw [Bool.eq_iff_iff]; simp; omega) | skip
  ·
   try simp only [bsT] at hg1
   iterate 3 refine WO_off rfl ?_
   iterate 2 refine WO_step rfl (S_pure rfl ?_)
   refine WO_nil (KSeq_n (WC_ret ?_))
   refine KFn_r (ResL.tmp rfl ResL.nil) ?_
   refine ⟨_, hsA, rfl, ?_⟩
   simp only [resV, mayKey]
   first | (congr 1; rw [Bool.eq_iff_iff]; simp; omega) | skip
theorem lp_Valid_0 {H : SH} {s : ByteArray} (hs : s.size ≤ 1000000) : ∀ (f pos : Nat), s.size - pos ≤ f → pos ≤ s.size + 4 → vld s f pos = valid s →
    WC F X (.loop L_loessref1_Valid_0) [(3, .int .i64 pos), (0, .string s)] H
      (KPost fun x l' H' => H' = H ∧ ((x = .exit 0 ∧ l' = [] ∧ valid s = true) ∨ (x = .ret ∧ l' = [(2, .bool false)] ∧ valid s = false))) := by
  intro f
  induction f using Nat.strongRecOn with
  | _ f ih =>
    intro pos hf hp ha
    refine WC_loop (WC_seq (WC_seq (WC_region ?_)))
    iterate 4 refine WO_step rfl (S_pure rfl ?_)
    refine WO_nil (KSeq_n ?_)
    refine WC_cond rfl (fun hb1 => ?_) (fun hb1 => ?_)
    ·
     try simp only [bsT] at hb1
     obtain ⟨f', rfl⟩ : ∃ m', f = m' + 1 := ⟨f - 1, by omega⟩
     have hw1 := Lib.width_pos s pos
     have hd4 := width_le4 s pos
     simp only [vld, if_pos hb1] at ha
     have hsz : (s.extract pos s.size).size = s.size - pos := by simp
     refine WC_skip (KSeq_n (WC_block (WC_seq (WC_region ?_))))
     iterate 2 refine WO_step rfl (S_pure rfl ?_)
     refine WO_step rfl (S_cutS rfl (LB.mk rfl rfl) LB.dflt ?_ ?_ ?_)
     · omega
     · omega
     refine WO_call rfl rfl rfl ?_
     refine (sp_Decode (by rw [hsz]; omega)).mono ?_
     rintro _ _ ⟨rfl, rfl⟩
     rw [decode_tail]
     unfold decV
     iterate 7 refine WO_step rfl (S_pure rfl ?_)
     refine WO_nil (KSeq_n (WC_seq (WC_seq (WC_region ?_))))
     iterate 2 refine WO_step rfl (S_pure rfl ?_)
     refine WO_nil (KSeq_n ?_)
     refine WC_cond rfl (fun hb2 => ?_) (fun hb2 => ?_)
     ·
      try simp only [bsT] at hb2
      refine WC_seq (WC_region ?_)
      refine WO_step rfl (S_pure rfl ?_)
      refine WO_nil (KSeq_n (WC_ret (KSeq_r (KBlock_r (KLoop_r ?_)))))
      refine KPost_i (l' := [(2, .bool false)]) (H' := _) seA hsA ⟨rfl, .inr ⟨rfl, rfl, ?_⟩⟩
      rw [← ha]; simp_all
     ·
      try simp only [bsT] at hb2
      refine WC_skip (KSeq_n (WC_region ?_))
      iterate 2 refine WO_step rfl (S_pure rfl ?_)
      first | refine WO_step rfl (S_addN rfl rfl (by omega) ?_) | refine WO_step rfl (S_pure rfl ?_)
      refine WO_step rfl (S_pure rfl ?_)
      refine WO_nil (KBlock_n (KLoop_n ?_))
      exact WC_weak (ih f' (by omega) (pos + (Utf8.decode s pos).2) (by omega) (by omega) (by rw [← ha]; simp_all)) seA hsA
    ·
     try simp only [bsT] at hb1
     refine WC_exit (KSeq_x (KLoop_x ?_))
     refine KPost_i (l' := []) (H' := H) seA hsA ⟨rfl, .inl ⟨rfl, rfl, ?_⟩⟩
     rw [← ha]
     cases f with
       | zero => rfl
       | succ f => simp only [vld, if_neg hb1]
theorem sp_Valid {H : SH} {s : ByteArray} (hs : s.size ≤ 1000000) : WF F X f_loessref1_Valid [.string s] H (fun v H' => H' = H ∧ v = .bool (valid s)) := by
  refine WF_fn F_loessref1_Valid ?_
  refine WC_seq (WC_region ?_)
  refine WO_step rfl (S_pure rfl ?_)
  refine WO_nil (KSeq_n (WC_seq (WC_seq (WC_region ?_))))
  refine WO_step rfl (S_pure rfl ?_)
  refine WO_nil (KSeq_n (WC_block ?_))
  refine WC_post (WC_weak (lp_Valid_0 hs s.size 0 (by omega) (by omega) rfl) seA HSub.refl) ?_
  rintro x l' H' ⟨rfl, ⟨rfl, rfl, h0⟩ | ⟨rfl, rfl, h0⟩⟩
  ·
   refine KBlock_h (KSeq_n (WC_seq (WC_region ?_)))
   refine WO_step rfl (S_pure rfl ?_)
   refine WO_nil (KSeq_n (WC_ret ?_))
   refine KFn_r (ResL.tmp rfl ResL.nil) ?_
   exact ⟨_, hsA, rfl, by rw [h0]; rfl⟩
  ·
   refine KBlock_r (KSeq_r ?_)
   refine KFn_r (ResL.tmp rfl ResL.nil) ?_
   exact ⟨_, hsA, rfl, by rw [h0]; rfl⟩
theorem sp_MayVal {H : SH} {r : Raw} : WF F X f_loessref1_MayVal [TRaw.val r] H (fun v H' => H' = H ∧ v = .bool (mayRaw r)) := by
  refine WF_fn F_loessref1_MayVal ?_
  refine WC_seq (WC_region ?_)
  refine WO_step rfl (S_box rfl rfl fun i1 => ?_)
  refine WO_step rfl (S_pure rfl ?_)
  refine WO_nil (KSeq_n (WC_seq (WC_seq (WC_region ?_))))
  refine WO_step rfl (S_pure rfl ?_)
  refine WO_step rfl (S_loadO rfl pkA (by rfl) (by rfl) ?_)
  refine WO_nil (KSeq_n (WC_block (WC_seq (WC_region ?_))))
  first | refine WO_step rfl (S_eqS rfl rfl ?_) | refine WO_step rfl (S_pure rfl ?_)
  refine WO_step rfl (S_pure rfl ?_)
  refine WO_nil (KSeq_n ?_)
  refine WC_cond rfl (fun hb1 => ?_) (fun hb1 => ?_)
  ·
   try simp only [bsT] at hb1
   refine WC_seq (WC_region ?_)
   refine WO_step rfl (S_pure rfl ?_)
   refine WO_step rfl (S_loadO rfl pkA (by rfl) (by rfl) ?_)
   first | refine WO_step rfl (S_eqS rfl rfl ?_) | refine WO_step rfl (S_pure rfl ?_)
   refine WO_step rfl (S_pure rfl ?_)
   refine WO_nil (KSeq_n (WC_ret (KBlock_r (KSeq_r ?_))))
   refine KFn_r (ResL.tmp rfl ResL.nil) ?_
   refine ⟨_, hsA, rfl, ?_⟩
   simp only [resV, mayRaw]
   first | (congr 1; rw [Bool.eq_iff_iff]; simp_all; done) | (congr 1; rw [Bool.eq_iff_iff]; simp_all; omega)
  ·
   try simp only [bsT] at hb1
   refine WC_seq (WC_region ?_)
   first | refine WO_step rfl (S_eqS rfl rfl ?_) | refine WO_step rfl (S_pure rfl ?_)
   refine WO_step rfl (S_pure rfl ?_)
   refine WO_nil (KSeq_n ?_)
   refine WC_cond rfl (fun hb2 => ?_) (fun hb2 => ?_)
   ·
    try simp only [bsT] at hb2
    refine WC_seq (WC_region ?_)
    refine WO_step rfl (S_pure rfl ?_)
    refine WO_step rfl (S_loadO rfl pkA (by rfl) (by rfl) ?_)
    first | refine WO_step rfl (S_eqS rfl rfl ?_) | refine WO_step rfl (S_pure rfl ?_)
    refine WO_step rfl (S_pure rfl ?_)
    refine WO_cases (t := 15) rfl (fun hg1 => ?_) (fun hg1 => ?_)
    ·
     try simp only [bsT] at hg1
     refine WO_step rfl (S_pure rfl ?_)
     refine WO_step rfl (S_loadO rfl pkA (by rfl) (by rfl) ?_)
     iterate 4 refine WO_step rfl (S_pure rfl ?_)
     refine WO_cases (t := 21) rfl (fun hg2 => ?_) (fun hg2 => ?_)
     ·
      try simp only [bsT] at hg2
      refine WO_step rfl (S_pure rfl ?_)
      refine WO_step rfl (S_loadO rfl pkA (by rfl) (by rfl) ?_)
      refine WO_call rfl rfl rfl ?_
      refine (sp_Valid (by omega)).mono ?_
      rintro _ _ ⟨rfl, rfl⟩
      iterate 2 refine WO_step rfl (S_pure rfl ?_)
      refine WO_nil (KSeq_n (WC_ret (KBlock_r (KSeq_r ?_))))
      refine KFn_r (ResL.tmp rfl ResL.nil) ?_
      refine ⟨_, hsA, rfl, ?_⟩
      simp only [resV, mayRaw]
      first | (congr 1; rw [Bool.eq_iff_iff]; simp_all; done) | (congr 1; rw [Bool.eq_iff_iff]; simp_all; omega)
     ·
      try simp only [bsT] at hg2
      iterate 3 refine WO_off rfl ?_
      iterate 2 refine WO_step rfl (S_pure rfl ?_)
      refine WO_nil (KSeq_n (WC_ret (KBlock_r (KSeq_r ?_))))
      refine KFn_r (ResL.tmp rfl ResL.nil) ?_
      refine ⟨_, hsA, rfl, ?_⟩
      simp only [resV, mayRaw]
      first | (congr 1; rw [Bool.eq_iff_iff]; simp_all; done) | (congr 1; rw [Bool.eq_iff_iff]; simp_all; omega)
    ·
     try simp only [bsT] at hg1
     iterate 4 refine WO_off rfl ?_
     iterate 2 refine WO_step rfl (S_pure rfl ?_)
     iterate 3 refine WO_off rfl ?_
     iterate 2 refine WO_step rfl (S_pure rfl ?_)
     refine WO_nil (KSeq_n (WC_ret (KBlock_r (KSeq_r ?_))))
     refine KFn_r (ResL.tmp rfl ResL.nil) ?_
     refine ⟨_, hsA, rfl, ?_⟩
     simp only [resV, mayRaw]
     first | (congr 1; rw [Bool.eq_iff_iff]; simp_all; done) | (congr 1; rw [Bool.eq_iff_iff]; simp_all; omega)
   ·
    try simp only [bsT] at hb2
    refine WC_skip (KBlock_n (KSeq_n (WC_seq (WC_region ?_))))
    refine WO_step rfl (S_pure rfl ?_)
    refine WO_nil (KSeq_n (WC_ret ?_))
    refine KFn_r (ResL.tmp rfl ResL.nil) ?_
    refine ⟨_, hsA, rfl, ?_⟩
    simp only [resV, mayRaw]
    first | (congr 1; rw [Bool.eq_iff_iff]; simp_all; done) | (congr 1; rw [Bool.eq_iff_iff]; simp_all; omega)
theorem raw0_ext (r : Raw) : decide (r = raw0) = (decide (r.kind = 0) && decide (r.n = 0) && decide (r.s = es0)) := raw_ext _ _
theorem sp_May {H : SH} {r : Rec} : WF F X f_loessref10_May [TRec.val r] H (fun v H' => H' = H ∧ v = .bool (mayRec r)) := by
  refine WF_fn F_loessref10_May ?_
  refine WC_seq (WC_region ?_)
  refine WO_step rfl (S_box rfl rfl fun i1 => ?_)
  refine WO_step rfl (S_pure rfl ?_)
  refine WO_nil (KSeq_n (WC_seq (WC_seq (WC_region ?_))))
  refine WO_step rfl (S_pure rfl ?_)
  refine WO_step rfl (S_loadO rfl pkA (by rfl) (by rfl) ?_)
  refine WO_call rfl rfl rfl ?_
  refine sp_MayKey.mono ?_
  rintro _ _ ⟨rfl, rfl⟩
  refine WO_step rfl (S_pure rfl ?_)
  refine WO_nil (KSeq_n ?_)
  refine WC_cond rfl (fun hb1 => ?_) (fun hb1 => ?_)
  ·
   try simp only [bsT] at hb1
   refine WC_seq (WC_region ?_)
   refine WO_step rfl (S_pure rfl ?_)
   refine WO_nil (KSeq_n (WC_ret (KSeq_r ?_)))
   refine KFn_r (ResL.tmp rfl ResL.nil) ?_
   refine ⟨_, hsA, rfl, ?_⟩
   simp only [resV, mayRec, raw0_ext, es0]
   congr 1
   rw [Bool.eq_iff_iff]
   simp_all <;> (intros; simp_all)
  ·
   try simp only [bsT] at hb1
   refine WC_skip (KSeq_n (WC_seq (WC_seq (WC_region ?_))))
   refine WO_step rfl (S_pure rfl ?_)
   refine WO_step rfl (S_loadO rfl pkA (by rfl) (by rfl) ?_)
   refine WO_nil (KSeq_n ?_)
   refine WC_cond rfl (fun hb2 => ?_) (fun hb2 => ?_)
   ·
    try simp only [bsT] at hb2
    refine WC_seq (WC_region ?_)
    iterate 2 refine WO_step rfl (S_pure rfl ?_)
    refine WO_step rfl (S_loadO rfl pkA (by rfl) (by rfl) ?_)
    first | refine WO_step rfl (S_eqS rfl rfl ?_) | refine WO_step rfl (S_pure rfl ?_)
    refine WO_step rfl (S_pure rfl ?_)
    refine WO_cases (t := 13) rfl (fun hg1 => ?_) (fun hg1 => ?_)
    ·
     try simp only [bsT] at hg1
     iterate 2 refine WO_step rfl (S_pure rfl ?_)
     refine WO_step rfl (S_loadO rfl pkA (by rfl) (by rfl) ?_)
     first | refine WO_step rfl (S_eqS rfl rfl ?_) | refine WO_step rfl (S_pure rfl ?_)
     iterate 2 refine WO_step rfl (S_pure rfl ?_)
     refine WO_cases (t := 19) rfl (fun hg2 => ?_) (fun hg2 => ?_)
     ·
      try simp only [bsT] at hg2
      iterate 2 refine WO_step rfl (S_pure rfl ?_)
      refine WO_step rfl (S_loadO rfl pkA (by rfl) (by rfl) ?_)
      first | refine WO_step rfl (S_eqS rfl rfl ?_) | refine WO_step rfl (S_pure rfl ?_)
      iterate 2 refine WO_step rfl (S_pure rfl ?_)
      refine WO_nil (KSeq_n (WC_ret (KSeq_r ?_)))
      refine KFn_r (ResL.tmp rfl ResL.nil) ?_
      refine ⟨_, hsA, rfl, ?_⟩
      simp only [resV, mayRec, raw0_ext, es0]
      congr 1
      rw [Bool.eq_iff_iff]
      simp_all <;> (intros; simp_all)
     ·
      try simp only [bsT] at hg2
      iterate 4 refine WO_off rfl ?_
      iterate 2 refine WO_step rfl (S_pure rfl ?_)
      refine WO_nil (KSeq_n (WC_ret (KSeq_r ?_)))
      refine KFn_r (ResL.tmp rfl ResL.nil) ?_
      refine ⟨_, hsA, rfl, ?_⟩
      simp only [resV, mayRec, raw0_ext, es0]
      congr 1
      rw [Bool.eq_iff_iff]
      simp_all <;> (intros; simp_all)
    ·
     try simp only [bsT] at hg1
     iterate 4 refine WO_off rfl ?_
     iterate 2 refine WO_step rfl (S_pure rfl ?_)
     iterate 4 refine WO_off rfl ?_
     iterate 2 refine WO_step rfl (S_pure rfl ?_)
     refine WO_nil (KSeq_n (WC_ret (KSeq_r ?_)))
     refine KFn_r (ResL.tmp rfl ResL.nil) ?_
     refine ⟨_, hsA, rfl, ?_⟩
     simp only [resV, mayRec, raw0_ext, es0]
     congr 1
     rw [Bool.eq_iff_iff]
     simp_all <;> (intros; simp_all)
   ·
    try simp only [bsT] at hb2
    refine WC_skip (KSeq_n (WC_seq (WC_region ?_)))
    refine WO_step rfl (S_pure rfl ?_)
    refine WO_step rfl (S_loadO rfl pkA (by rfl) (by rfl) ?_)
    refine WO_call rfl rfl rfl ?_
    refine sp_MayVal.mono ?_
    rintro _ _ ⟨rfl, rfl⟩
    refine WO_step rfl (S_pure rfl ?_)
    refine WO_nil (KSeq_n (WC_ret ?_))
    refine KFn_r (ResL.tmp rfl ResL.nil) ?_
    refine ⟨_, hsA, rfl, ?_⟩
    simp only [resV, mayRec, raw0_ext, es0]
    congr 1
    rw [Bool.eq_iff_iff]
    simp_all <;> (intros; simp_all)
end Go.Proofs.YtpnmeednimpjdaaGreat.AM
namespace Go.Proofs.YtpnmeednimpjdaaGreat.AM
open Go
set_option linter.unusedSimpArgs false
set_option linter.unusedVariables false
set_option maxRecDepth 4000
set_option linter.unusedSectionVars false
variable {X : Exts} [HX X]
theorem WF_addNil {f : FuncId} {vs : List Value} {H : SH} {Q : Value → SH → Prop} {α : Type} {T : Ty α} (h : WF F X f vs (SL (SV.toV .nil) T [] :: H) Q) : WF F X f vs H Q := fun a hH => h a (HAg.addNil hH)
theorem HSub.ofPick {r : Res} {H H0 : SH} (h : Pick r H H0) : HSub H (r :: H0) := HSub.pick h HSub.refl
theorem wrapU (m : Int) : IntKind.wrap .u64 m = m % 18446744073709551616 := by
  unfold IntKind.wrap
  simp only [IntKind.bits, IntKind.signed, Bool.false_and, if_false]
  simp
theorem wrapB (m : Int) : IntKind.wrap .u8 m = m % 256 := by
  unfold IntKind.wrap
  simp only [IntKind.bits, IntKind.signed, Bool.false_and, if_false]
  simp
theorem S_shr7 {l : SE} {H : SH} {K : Value → SH → Prop} {x : Opd} {a : Nat} (hx : x.lv l = some (.int .u64 (a : Int))) (k : K (.int .u64 ((a / 128 : Nat) : Int)) H) : Step (.bin .shr x (.const (.int .u64 7))) l H K :=
  S_pureE (v := .int .u64 ((a : Int).fdiv (2 ^ min (Int.toNat 7) IntKind.u64.bits))) (by
    have h2 : (Opd.const (.int .u64 7)).lv l = some (.int .u64 7) := rfl
    simp only [pev, hx, h2, binV]; rfl) (by
    have e : (2 ^ min (Int.toNat 7) IntKind.u64.bits : Int) = 128 := rfl
    have e2 : (a : Int).fdiv 128 = ((a / 128 : Nat) : Int) := by rw [Int.fdiv_eq_ediv_of_nonneg _ (by omega)]; omega
    rw [e, e2]) k
theorem xorU {a : Nat} (ha : a < 18446744073709551616) : (BitVec.ofInt 64 18446744073709551615 ^^^ BitVec.ofInt 64 (a : Int)).toNat = 18446744073709551615 - a := by
  rw [show BitVec.ofInt 64 18446744073709551615 = BitVec.allOnes 64 by decide, BitVec.allOnes_xor, BitVec.toNat_not]
  have : (BitVec.ofInt 64 (a : Int)).toNat = a := by rw [BitVec.ofInt_natCast, BitVec.toNat_ofNat]; omega
  rw [this]
theorem S_xorU {l : SE} {H : SH} {K : Value → SH → Prop} {x : Opd} {a : Nat} (hx : x.lv l = some (.int .u64 (a : Int))) (ha : a < 18446744073709551616) (k : K (.int .u64 ((18446744073709551615 - a : Nat) : Int)) H) : Step (.un .xor x) l H K :=
  S_pureE (v := .int .u64 (IntKind.wrap .u64 ((BitVec.ofInt 64 18446744073709551615 ^^^ BitVec.ofInt 64 (a : Int)).toNat : Int))) (by simp only [pev, hx, unV]; rfl) (by rw [xorU ha, wrap_u64 (by omega) (by omega)]) k
theorem S_quoU {l : SE} {H : SH} {K : Value → SH → Prop} {x : Opd} {a m : Nat} {M : Int} (hx : x.lv l = some (.int .u64 (a : Int))) (hM : M = (m : Int)) (ha : a < 18446744073709551616) (hm : 0 < m) (k : K (.int .u64 ((a / m : Nat) : Int)) H) : Step (.bin .quo x (.const (.int .u64 M))) l H K :=
  S_pureE (v := .int .u64 (IntKind.wrap .u64 ((a : Int).tdiv M))) (by
    have h2 : (Opd.const (.int .u64 M)).lv l = some (.int .u64 M) := rfl
    simp only [pev, hx, h2, binV, intBin, if_true]; rw [if_neg (by omega)]) (by
    have h := Nat.div_le_self a m
    rw [hM, ← Int.ofNat_tdiv]
    generalize a / m = q at *
    rw [wrap_u64 (by omega) (by omega)]) k
theorem S_remU {l : SE} {H : SH} {K : Value → SH → Prop} {x : Opd} {a m : Nat} {M : Int} {kd : IntKind} (hx : x.lv l = some (.int kd (a : Int))) (hM : M = (m : Int)) (hm : 0 < m) (k : K (.int kd ((a % m : Nat) : Int)) H) : Step (.bin .rem x (.const (.int kd M))) l H K :=
  S_pureE (v := .int kd ((a : Int).tmod M)) (by
    have h2 : (Opd.const (.int kd M)).lv l = some (.int kd M) := rfl
    simp only [pev, hx, h2, binV, intBin, if_true]; rw [if_neg (by omega)]) (by
    rw [hM, ← Int.ofNat_tmod]) k
theorem RD.tailSl {α : Type} {T : Ty α} {H : SH} {s : Value} {xs : List α} {es a : Nat} (h : RD H s T xs) (he : es = T.es) (hl : a ≤ xs.length) : RD H (AM.subSl s es a (xs.length - a)) T (xs.drop a) := by
  have := h.subSl (lo := a) (n := xs.length - a) he (by omega)
  rwa [List.take_of_length_le (by rw [List.length_drop]; omega)] at this
theorem ofIntU {a : Nat} (ha : a < 18446744073709551616) : (BitVec.ofInt 64 (a : Int)).toNat = a := by rw [BitVec.ofInt_natCast, BitVec.toNat_ofNat]; omega
theorem S_and1 {l : SE} {H : SH} {K : Value → SH → Prop} {x : Opd} {a : Nat} (hx : x.lv l = some (.int .u64 (a : Int))) (ha : a < 18446744073709551616) (k : K (.int .u64 ((a % 2 : Nat) : Int)) H) : Step (.bin .and x (.const (.int .u64 1))) l H K :=
  S_pureE (v := .int .u64 (IntKind.wrap .u64 ((BitVec.ofInt 64 (a : Int) &&& BitVec.ofInt 64 1).toNat : Int))) (by
    have h2 : (Opd.const (.int .u64 1)).lv l = some (.int .u64 1) := rfl
    simp only [pev, hx, h2, binV, intBin, if_true]; rfl) (by
    rw [BitVec.toNat_and, ofIntU ha, show (BitVec.ofInt 64 1).toNat = 1 from rfl, Nat.and_one_is_mod, wrap_u64 (by omega) (by omega)]) k
theorem S_shlU {l : SE} {H : SH} {K : Value → SH → Prop} {x y : Opd} {a m : Nat} {kd : IntKind} (hx : x.lv l = some (.int .u64 (a : Int))) (hy : y.lv l = some (.int kd (m : Int))) (hm : m ≤ 64) (ha : a * 2 ^ m < 18446744073709551616) (k : K (.int .u64 ((a * 2 ^ m : Nat) : Int)) H) : Step (.bin .shl x y) l H K :=
  S_pureE (v := .int .u64 (IntKind.wrap .u64 ((a : Int) * 2 ^ min (m : Int).toNat IntKind.u64.bits))) (by
    simp only [pev, hx, hy, binV]; rw [if_neg (by omega)]) (by
    have e : ((a : Int) * 2 ^ min (m : Int).toNat IntKind.u64.bits) = ((a * 2 ^ m : Nat) : Int) := by
      rw [Int.toNat_natCast, show min m IntKind.u64.bits = m from Nat.min_eq_left hm, Int.natCast_mul, Int.natCast_pow]; rfl
    rw [e, wrap_u64 (by omega) (by omega)]) k
theorem S_orU {l : SE} {H : SH} {K : Value → SH → Prop} {x y : Opd} {a c m U : Nat} (hx : x.lv l = some (.int .u64 (a : Int))) (hy : y.lv l = some (.int .u64 ((c * 2 ^ m : Nat) : Int))) (ha : a < 2 ^ m) (hU : U = a + c * 2 ^ m) (hl : U < 18446744073709551616) (k : K (.int .u64 (U : Int)) H) : Step (.bin .or x y) l H K :=
  S_pureE (v := .int .u64 (IntKind.wrap .u64 ((BitVec.ofInt 64 (a : Int) ||| BitVec.ofInt 64 ((c * 2 ^ m : Nat) : Int)).toNat : Int))) (by
    simp only [pev, hx, hy, binV, intBin, if_true]; rfl) (by
    have h1 : a < 18446744073709551616 := by omega
    have h2 : c * 2 ^ m < 18446744073709551616 := by omega
    have e := Nat.two_pow_add_eq_or_of_lt ha c
    rw [BitVec.toNat_or, ofIntU h1, ofIntU h2, Nat.or_comm, Nat.mul_comm c, ← e, Nat.mul_comm, Nat.add_comm, ← hU, wrap_u64 (by omega) (by omega)]) k
theorem S_notI {l : SE} {H : SH} {K : Value → SH → Prop} {x : Opd} {a : Nat} (hx : x.lv l = some (.int .i64 (a : Int))) (ha : a < 9223372036854775808) (k : K (.int .i64 (-(a : Int) - 1)) H) : Step (.un .xor x) l H K :=
  S_pureE (v := .int .i64 (IntKind.wrap .i64 ((BitVec.ofInt 64 (-1) ^^^ BitVec.ofInt 64 (a : Int)).toNat : Int))) (by simp only [pev, hx, unV]; rfl) (by
    rw [show BitVec.ofInt 64 (-1) = BitVec.ofInt 64 18446744073709551615 by decide, xorU (by omega)]
    congr 1
    unfold IntKind.wrap
    simp only [IntKind.bits, IntKind.signed, Bool.true_and, ge_iff_le, decide_eq_true_eq]
    split <;> omega) k
end Go.Proofs.YtpnmeednimpjdaaGreat.AM
