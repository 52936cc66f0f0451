/- The law's own function, its simple cases: one field of the envelope turned. There are no conditions. -/
import Derived.Test.YtjomofcdanpdgadGreatDoorRuU1
import Derived.Test.YtjomofcdanpdgadGreatDoorRuW
set_option linter.unusedSectionVars false
set_option linter.unusedVariables false
set_option linter.unusedSimpArgs false
namespace Go.Proofs.YtjomofcdanpdgadGreatDoor.recordUnlike
open Go.Ev hiding Comes

noncomputable def K0 : ECode := (.reg [⟨(some 46), (.fldAddr 0 (.tmp 2)), none⟩, ⟨(some 47), (.fldAddr 1 (.tmp 46)), none⟩, ⟨(some 48), (.load none (.tmp 47)), none⟩, ⟨(some 49), (.bin .add [0] (.tmp 48) (.con (.str [120]))), none⟩, ⟨(some 50), (.fldAddr 0 (.tmp 5)), none⟩, ⟨(some 51), (.fldAddr 1 (.tmp 50)), none⟩, ⟨none, (.store 1 (.tmp 51) (.tmp 49)), none⟩])
noncomputable def K1 : ECode := (.reg [⟨(some 54), (.fldAddr 18 (.tmp 5)), none⟩, ⟨(some 55), (.fldAddr 2 (.tmp 54)), none⟩, ⟨(some 56), (.ixAddrArr 16 1 (.tmp 55) (.con (.int .i64 15))), none⟩, ⟨(some 57), (.load none (.tmp 56)), none⟩, ⟨(some 58), (.bin .add [0] (.tmp 57) (.con (.int .u8 1))), none⟩, ⟨(some 59), (.fldAddr 18 (.tmp 5)), none⟩, ⟨(some 60), (.fldAddr 2 (.tmp 59)), none⟩, ⟨(some 61), (.ixAddrArr 16 1 (.tmp 60) (.con (.int .i64 15))), none⟩, ⟨none, (.store 1 (.tmp 61) (.tmp 58)), none⟩])
noncomputable def K2 : ECode := (.reg [⟨(some 64), (.fldAddr 36 (.tmp 2)), none⟩, ⟨(some 65), (.load none (.tmp 64)), none⟩, ⟨(some 66), (.bin .add [0] (.tmp 65) (.con (.str [120]))), none⟩, ⟨(some 67), (.fldAddr 36 (.tmp 5)), none⟩, ⟨none, (.store 1 (.tmp 67) (.tmp 66)), none⟩])
noncomputable def K3 : ECode := (.reg [⟨(some 70), (.fldAddr 37 (.tmp 2)), none⟩, ⟨(some 71), (.load none (.tmp 70)), none⟩, ⟨(some 72), (.un .not (.tmp 71)), none⟩, ⟨(some 73), (.fldAddr 37 (.tmp 5)), none⟩, ⟨none, (.store 1 (.tmp 73) (.tmp 72)), none⟩])
noncomputable def K4 : ECode := (.reg [⟨(some 76), (.fldAddr 38 (.tmp 2)), none⟩, ⟨(some 77), (.load none (.tmp 76)), none⟩, ⟨(some 78), (.bin .xor [0] (.tmp 77) (.con (.int .i64 1))), none⟩, ⟨(some 79), (.fldAddr 38 (.tmp 5)), none⟩, ⟨none, (.store 1 (.tmp 79) (.tmp 78)), none⟩])
noncomputable def K5 : ECode := (.reg [⟨(some 82), (.fldAddr 39 (.tmp 2)), none⟩, ⟨(some 83), (.fldAddr 0 (.tmp 82)), none⟩, ⟨(some 84), (.load none (.tmp 83)), none⟩, ⟨(some 85), (.bin .xor [0] (.tmp 84) (.con (.int .i64 1))), none⟩, ⟨(some 86), (.fldAddr 39 (.tmp 5)), none⟩, ⟨(some 87), (.fldAddr 0 (.tmp 86)), none⟩, ⟨none, (.store 1 (.tmp 87) (.tmp 85)), none⟩])
noncomputable def K6 : ECode := (.seq (.reg [⟨(some 90), (.mklit 0 18 [] []), none⟩, ⟨(some 91), (.fldAddr 39 (.tmp 2)), none⟩, ⟨(some 92), (.fldAddr 1 (.tmp 91)), none⟩, ⟨(some 93), (.load none (.tmp 92)), none⟩, ⟨(some 94), (.append 18 40 0 (.tmp 90) (.tmp 93)), none⟩, ⟨(some 95), (.fldAddr 39 (.tmp 5)), none⟩, ⟨(some 96), (.fldAddr 1 (.tmp 95)), none⟩, ⟨none, (.store 1 (.tmp 96) (.tmp 94)), none⟩]) (.seq (.reg [⟨(some 97), (.fldAddr 39 (.tmp 5)), none⟩, ⟨(some 98), (.fldAddr 1 (.tmp 97)), none⟩, ⟨(some 99), (.load none (.tmp 98)), none⟩, ⟨(some 100), (.lenSl (.tmp 99)), none⟩, ⟨(some 101), (.bin .gtr [0] (.tmp 100) (.con (.int .i64 0))), none⟩]) (.cond (.tmp 101) (.regD [⟨(some 102), (.fldAddr 39 (.tmp 5)), none⟩, ⟨(some 103), (.fldAddr 1 (.tmp 102)), none⟩, ⟨(some 104), (.load none (.tmp 103)), none⟩, ⟨(some 105), (.fldAddr 39 (.tmp 5)), none⟩, ⟨(some 106), (.fldAddr 1 (.tmp 105)), none⟩, ⟨(some 107), (.load none (.tmp 106)), none⟩, ⟨(some 108), (.ixAddr 18 (.tmp 107) (.con (.int .i64 0))), none⟩, ⟨(some 109), (.fldAddr 1 (.tmp 108)), none⟩, ⟨(some 110), (.load none (.tmp 109)), none⟩, ⟨(some 111), (.bin .add [0] (.tmp 110) (.con (.str [120]))), none⟩, ⟨(some 112), (.ixAddr 18 (.tmp 104) (.con (.int .i64 0))), none⟩, ⟨(some 113), (.fldAddr 1 (.tmp 112)), none⟩, ⟨none, (.store 1 (.tmp 113) (.tmp 111)), none⟩] [true, true, true, true, true, true, true, true, true, true, true, true, false] 9) (.reg [⟨(some 114), (.fldAddr 39 (.tmp 5)), none⟩, ⟨(some 115), (.fldAddr 1 (.tmp 114)), none⟩, ⟨(some 116), (.load none (.tmp 115)), none⟩, ⟨(some 117), (.build [(.int .i64 0), (.str []), (.int .u8 0), (.int .u8 0), (.int .u8 0), (.int .u8 0), (.int .u8 0), (.int .u8 0), (.int .u8 0), (.int .u8 0), (.int .u8 0), (.int .u8 0), (.int .u8 0), (.int .u8 0), (.int .u8 0), (.int .u8 0), (.int .u8 0), (.int .u8 0)] []), none⟩, ⟨(some 118), (.mklit 1 18 [(.int .i64 0), (.str []), (.int .u8 0), (.int .u8 0), (.int .u8 0), (.int .u8 0), (.int .u8 0), (.int .u8 0), (.int .u8 0), (.int .u8 0), (.int .u8 0), (.int .u8 0), (.int .u8 0), (.int .u8 0), (.int .u8 0), (.int .u8 0), (.int .u8 0), (.int .u8 0)] [(0, (18, (.tmp 117)))]), none⟩, ⟨(some 119), (.append 18 40 0 (.tmp 116) (.tmp 118)), none⟩, ⟨(some 120), (.fldAddr 39 (.tmp 5)), none⟩, ⟨(some 121), (.fldAddr 1 (.tmp 120)), none⟩, ⟨none, (.store 1 (.tmp 121) (.tmp 119)), none⟩]))))
noncomputable def K7 : ECode := (.reg [⟨(some 124), (.fldAddr 39 (.tmp 2)), none⟩, ⟨(some 125), (.fldAddr 2 (.tmp 124)), none⟩, ⟨(some 126), (.fldAddr 0 (.tmp 125)), none⟩, ⟨(some 127), (.load none (.tmp 126)), none⟩, ⟨(some 128), (.bin .add [0] (.tmp 127) (.con (.str [120]))), none⟩, ⟨(some 129), (.fldAddr 39 (.tmp 5)), none⟩, ⟨(some 130), (.fldAddr 2 (.tmp 129)), none⟩, ⟨(some 131), (.fldAddr 0 (.tmp 130)), none⟩, ⟨none, (.store 1 (.tmp 131) (.tmp 128)), none⟩])
noncomputable def K8 : ECode := (.reg [⟨(some 134), (.fldAddr 60 (.tmp 2)), none⟩, ⟨(some 135), (.fldAddr 3 (.tmp 134)), none⟩, ⟨(some 136), (.load none (.tmp 135)), none⟩, ⟨(some 137), (.un .not (.tmp 136)), none⟩, ⟨(some 138), (.fldAddr 60 (.tmp 5)), none⟩, ⟨(some 139), (.fldAddr 3 (.tmp 138)), none⟩, ⟨none, (.store 1 (.tmp 139) (.tmp 137)), none⟩])
noncomputable def K9 : ECode := (.reg [⟨(some 142), (.fldAddr 69 (.tmp 5)), none⟩, ⟨(some 143), (.load none (.tmp 142)), none⟩, ⟨(some 144), (.build [(.int .i64 0), (.slice none 0 0 0), (.str []), (.int .i64 0), (.str []), (.int .u8 0), (.int .u8 0), (.int .u8 0), (.int .u8 0), (.int .u8 0), (.int .u8 0), (.int .u8 0), (.int .u8 0), (.int .u8 0), (.int .u8 0), (.int .u8 0), (.int .u8 0), (.int .u8 0), (.int .u8 0), (.int .u8 0), (.int .u8 0), (.int .i64 0), (.bool false), (.str [])] []), none⟩, ⟨(some 145), (.mklit 1 24 [(.int .i64 0), (.slice none 0 0 0), (.str []), (.int .i64 0), (.str []), (.int .u8 0), (.int .u8 0), (.int .u8 0), (.int .u8 0), (.int .u8 0), (.int .u8 0), (.int .u8 0), (.int .u8 0), (.int .u8 0), (.int .u8 0), (.int .u8 0), (.int .u8 0), (.int .u8 0), (.int .u8 0), (.int .u8 0), (.int .u8 0), (.int .i64 0), (.bool false), (.str [])] [(0, (24, (.tmp 144)))]), none⟩, ⟨(some 146), (.append 24 120 0 (.tmp 143) (.tmp 145)), none⟩, ⟨(some 147), (.fldAddr 69 (.tmp 5)), none⟩, ⟨none, (.store 1 (.tmp 147) (.tmp 146)), none⟩])
noncomputable def K10 : ECode := (.reg [⟨(some 150), (.fldAddr 70 (.tmp 2)), none⟩, ⟨(some 151), (.load none (.tmp 150)), none⟩, ⟨(some 152), (.un .not (.tmp 151)), none⟩, ⟨(some 153), (.fldAddr 70 (.tmp 5)), none⟩, ⟨none, (.store 1 (.tmp 153) (.tmp 152)), none⟩])
noncomputable def K11 : ECode := (.reg [⟨(some 156), (.mklit 0 1 [] []), none⟩, ⟨(some 157), (.fldAddr 71 (.tmp 2)), none⟩, ⟨(some 158), (.load none (.tmp 157)), none⟩, ⟨(some 159), (.append 1 1 6597069766657 (.tmp 156) (.tmp 158)), none⟩, ⟨(some 160), (.mklit 1 1 [(.int .u8 0)] [(0, (1, (.con (.int .u8 0))))]), none⟩, ⟨(some 161), (.append 1 1 6597069766657 (.tmp 159) (.tmp 160)), none⟩, ⟨(some 162), (.fldAddr 71 (.tmp 5)), none⟩, ⟨none, (.store 1 (.tmp 162) (.tmp 161)), none⟩])
noncomputable def K12 : ECode := (.seq (.seq (.reg [⟨(some 26), (.fldAddr 69 (.tmp 5)), none⟩, ⟨(some 27), (.load none (.tmp 26)), none⟩, ⟨(some 28), (.lenSl (.tmp 27)), none⟩, ⟨(some 29), (.bin .eql [0] (.tmp 28) (.con (.int .i64 0))), none⟩]) (.cond (.tmp 29) (.seq (.reg [⟨(some 4), (.mov (.con (.bool true))), none⟩]) .ret) .skip)) (.reg [⟨(some 30), (.fldAddr 69 (.tmp 5)), none⟩, ⟨(some 31), (.load none (.tmp 30)), none⟩, ⟨(some 32), (.fldAddr 69 (.tmp 5)), none⟩, ⟨(some 33), (.load none (.tmp 32)), none⟩, ⟨(some 34), (.lenSl (.tmp 33)), none⟩, ⟨(some 35), (.bin .sub [0] (.tmp 34) (.con (.int .i64 1))), none⟩, ⟨(some 36), (.ixAddr 24 (.tmp 31) (.tmp 35)), none⟩, ⟨(some 37), (.fldAddr 21 (.tmp 36)), none⟩, ⟨(some 38), (.fldAddr 0 (.tmp 37)), none⟩, ⟨(some 39), (.load none (.tmp 38)), none⟩, ⟨(some 40), (.bin .xor [0] (.tmp 39) (.con (.int .i64 1))), none⟩, ⟨(some 41), (.ixAddr 24 (.tmp 31) (.tmp 35)), none⟩, ⟨(some 42), (.fldAddr 21 (.tmp 41)), none⟩, ⟨(some 43), (.fldAddr 0 (.tmp 42)), none⟩, ⟨none, (.store 1 (.tmp 43) (.tmp 40)), none⟩]))
noncomputable def Ksw : ECode := (.seq (.reg [⟨(some 45), (.bin .eql [0] (.tmp 25) (.con (.int .i64 0))), none⟩, ⟨(some 44), (.mov (.tmp 45)), none⟩]) (.cond (.tmp 44) (.reg [⟨(some 46), (.fldAddr 0 (.tmp 2)), none⟩, ⟨(some 47), (.fldAddr 1 (.tmp 46)), none⟩, ⟨(some 48), (.load none (.tmp 47)), none⟩, ⟨(some 49), (.bin .add [0] (.tmp 48) (.con (.str [120]))), none⟩, ⟨(some 50), (.fldAddr 0 (.tmp 5)), none⟩, ⟨(some 51), (.fldAddr 1 (.tmp 50)), none⟩, ⟨none, (.store 1 (.tmp 51) (.tmp 49)), none⟩]) (.seq (.reg [⟨(some 53), (.bin .eql [0] (.tmp 25) (.con (.int .i64 1))), none⟩, ⟨(some 52), (.mov (.tmp 53)), none⟩]) (.cond (.tmp 52) (.reg [⟨(some 54), (.fldAddr 18 (.tmp 5)), none⟩, ⟨(some 55), (.fldAddr 2 (.tmp 54)), none⟩, ⟨(some 56), (.ixAddrArr 16 1 (.tmp 55) (.con (.int .i64 15))), none⟩, ⟨(some 57), (.load none (.tmp 56)), none⟩, ⟨(some 58), (.bin .add [0] (.tmp 57) (.con (.int .u8 1))), none⟩, ⟨(some 59), (.fldAddr 18 (.tmp 5)), none⟩, ⟨(some 60), (.fldAddr 2 (.tmp 59)), none⟩, ⟨(some 61), (.ixAddrArr 16 1 (.tmp 60) (.con (.int .i64 15))), none⟩, ⟨none, (.store 1 (.tmp 61) (.tmp 58)), none⟩]) (.seq (.reg [⟨(some 63), (.bin .eql [0] (.tmp 25) (.con (.int .i64 2))), none⟩, ⟨(some 62), (.mov (.tmp 63)), none⟩]) (.cond (.tmp 62) (.reg [⟨(some 64), (.fldAddr 36 (.tmp 2)), none⟩, ⟨(some 65), (.load none (.tmp 64)), none⟩, ⟨(some 66), (.bin .add [0] (.tmp 65) (.con (.str [120]))), none⟩, ⟨(some 67), (.fldAddr 36 (.tmp 5)), none⟩, ⟨none, (.store 1 (.tmp 67) (.tmp 66)), none⟩]) (.seq (.reg [⟨(some 69), (.bin .eql [0] (.tmp 25) (.con (.int .i64 3))), none⟩, ⟨(some 68), (.mov (.tmp 69)), none⟩]) (.cond (.tmp 68) (.reg [⟨(some 70), (.fldAddr 37 (.tmp 2)), none⟩, ⟨(some 71), (.load none (.tmp 70)), none⟩, ⟨(some 72), (.un .not (.tmp 71)), none⟩, ⟨(some 73), (.fldAddr 37 (.tmp 5)), none⟩, ⟨none, (.store 1 (.tmp 73) (.tmp 72)), none⟩]) (.seq (.reg [⟨(some 75), (.bin .eql [0] (.tmp 25) (.con (.int .i64 4))), none⟩, ⟨(some 74), (.mov (.tmp 75)), none⟩]) (.cond (.tmp 74) (.reg [⟨(some 76), (.fldAddr 38 (.tmp 2)), none⟩, ⟨(some 77), (.load none (.tmp 76)), none⟩, ⟨(some 78), (.bin .xor [0] (.tmp 77) (.con (.int .i64 1))), none⟩, ⟨(some 79), (.fldAddr 38 (.tmp 5)), none⟩, ⟨none, (.store 1 (.tmp 79) (.tmp 78)), none⟩]) (.seq (.reg [⟨(some 81), (.bin .eql [0] (.tmp 25) (.con (.int .i64 5))), none⟩, ⟨(some 80), (.mov (.tmp 81)), none⟩]) (.cond (.tmp 80) (.reg [⟨(some 82), (.fldAddr 39 (.tmp 2)), none⟩, ⟨(some 83), (.fldAddr 0 (.tmp 82)), none⟩, ⟨(some 84), (.load none (.tmp 83)), none⟩, ⟨(some 85), (.bin .xor [0] (.tmp 84) (.con (.int .i64 1))), none⟩, ⟨(some 86), (.fldAddr 39 (.tmp 5)), none⟩, ⟨(some 87), (.fldAddr 0 (.tmp 86)), none⟩, ⟨none, (.store 1 (.tmp 87) (.tmp 85)), none⟩]) (.seq (.reg [⟨(some 89), (.bin .eql [0] (.tmp 25) (.con (.int .i64 6))), none⟩, ⟨(some 88), (.mov (.tmp 89)), none⟩]) (.cond (.tmp 88) (.seq (.reg [⟨(some 90), (.mklit 0 18 [] []), none⟩, ⟨(some 91), (.fldAddr 39 (.tmp 2)), none⟩, ⟨(some 92), (.fldAddr 1 (.tmp 91)), none⟩, ⟨(some 93), (.load none (.tmp 92)), none⟩, ⟨(some 94), (.append 18 40 0 (.tmp 90) (.tmp 93)), none⟩, ⟨(some 95), (.fldAddr 39 (.tmp 5)), none⟩, ⟨(some 96), (.fldAddr 1 (.tmp 95)), none⟩, ⟨none, (.store 1 (.tmp 96) (.tmp 94)), none⟩]) (.seq (.reg [⟨(some 97), (.fldAddr 39 (.tmp 5)), none⟩, ⟨(some 98), (.fldAddr 1 (.tmp 97)), none⟩, ⟨(some 99), (.load none (.tmp 98)), none⟩, ⟨(some 100), (.lenSl (.tmp 99)), none⟩, ⟨(some 101), (.bin .gtr [0] (.tmp 100) (.con (.int .i64 0))), none⟩]) (.cond (.tmp 101) (.regD [⟨(some 102), (.fldAddr 39 (.tmp 5)), none⟩, ⟨(some 103), (.fldAddr 1 (.tmp 102)), none⟩, ⟨(some 104), (.load none (.tmp 103)), none⟩, ⟨(some 105), (.fldAddr 39 (.tmp 5)), none⟩, ⟨(some 106), (.fldAddr 1 (.tmp 105)), none⟩, ⟨(some 107), (.load none (.tmp 106)), none⟩, ⟨(some 108), (.ixAddr 18 (.tmp 107) (.con (.int .i64 0))), none⟩, ⟨(some 109), (.fldAddr 1 (.tmp 108)), none⟩, ⟨(some 110), (.load none (.tmp 109)), none⟩, ⟨(some 111), (.bin .add [0] (.tmp 110) (.con (.str [120]))), none⟩, ⟨(some 112), (.ixAddr 18 (.tmp 104) (.con (.int .i64 0))), none⟩, ⟨(some 113), (.fldAddr 1 (.tmp 112)), none⟩, ⟨none, (.store 1 (.tmp 113) (.tmp 111)), none⟩] [true, true, true, true, true, true, true, true, true, true, true, true, false] 9) (.reg [⟨(some 114), (.fldAddr 39 (.tmp 5)), none⟩, ⟨(some 115), (.fldAddr 1 (.tmp 114)), none⟩, ⟨(some 116), (.load none (.tmp 115)), none⟩, ⟨(some 117), (.build [(.int .i64 0), (.str []), (.int .u8 0), (.int .u8 0), (.int .u8 0), (.int .u8 0), (.int .u8 0), (.int .u8 0), (.int .u8 0), (.int .u8 0), (.int .u8 0), (.int .u8 0), (.int .u8 0), (.int .u8 0), (.int .u8 0), (.int .u8 0), (.int .u8 0), (.int .u8 0)] []), none⟩, ⟨(some 118), (.mklit 1 18 [(.int .i64 0), (.str []), (.int .u8 0), (.int .u8 0), (.int .u8 0), (.int .u8 0), (.int .u8 0), (.int .u8 0), (.int .u8 0), (.int .u8 0), (.int .u8 0), (.int .u8 0), (.int .u8 0), (.int .u8 0), (.int .u8 0), (.int .u8 0), (.int .u8 0), (.int .u8 0)] [(0, (18, (.tmp 117)))]), none⟩, ⟨(some 119), (.append 18 40 0 (.tmp 116) (.tmp 118)), none⟩, ⟨(some 120), (.fldAddr 39 (.tmp 5)), none⟩, ⟨(some 121), (.fldAddr 1 (.tmp 120)), none⟩, ⟨none, (.store 1 (.tmp 121) (.tmp 119)), none⟩])))) (.seq (.reg [⟨(some 123), (.bin .eql [0] (.tmp 25) (.con (.int .i64 7))), none⟩, ⟨(some 122), (.mov (.tmp 123)), none⟩]) (.cond (.tmp 122) (.reg [⟨(some 124), (.fldAddr 39 (.tmp 2)), none⟩, ⟨(some 125), (.fldAddr 2 (.tmp 124)), none⟩, ⟨(some 126), (.fldAddr 0 (.tmp 125)), none⟩, ⟨(some 127), (.load none (.tmp 126)), none⟩, ⟨(some 128), (.bin .add [0] (.tmp 127) (.con (.str [120]))), none⟩, ⟨(some 129), (.fldAddr 39 (.tmp 5)), none⟩, ⟨(some 130), (.fldAddr 2 (.tmp 129)), none⟩, ⟨(some 131), (.fldAddr 0 (.tmp 130)), none⟩, ⟨none, (.store 1 (.tmp 131) (.tmp 128)), none⟩]) (.seq (.reg [⟨(some 133), (.bin .eql [0] (.tmp 25) (.con (.int .i64 8))), none⟩, ⟨(some 132), (.mov (.tmp 133)), none⟩]) (.cond (.tmp 132) (.reg [⟨(some 134), (.fldAddr 60 (.tmp 2)), none⟩, ⟨(some 135), (.fldAddr 3 (.tmp 134)), none⟩, ⟨(some 136), (.load none (.tmp 135)), none⟩, ⟨(some 137), (.un .not (.tmp 136)), none⟩, ⟨(some 138), (.fldAddr 60 (.tmp 5)), none⟩, ⟨(some 139), (.fldAddr 3 (.tmp 138)), none⟩, ⟨none, (.store 1 (.tmp 139) (.tmp 137)), none⟩]) (.seq (.reg [⟨(some 141), (.bin .eql [0] (.tmp 25) (.con (.int .i64 9))), none⟩, ⟨(some 140), (.mov (.tmp 141)), none⟩]) (.cond (.tmp 140) (.reg [⟨(some 142), (.fldAddr 69 (.tmp 5)), none⟩, ⟨(some 143), (.load none (.tmp 142)), none⟩, ⟨(some 144), (.build [(.int .i64 0), (.slice none 0 0 0), (.str []), (.int .i64 0), (.str []), (.int .u8 0), (.int .u8 0), (.int .u8 0), (.int .u8 0), (.int .u8 0), (.int .u8 0), (.int .u8 0), (.int .u8 0), (.int .u8 0), (.int .u8 0), (.int .u8 0), (.int .u8 0), (.int .u8 0), (.int .u8 0), (.int .u8 0), (.int .u8 0), (.int .i64 0), (.bool false), (.str [])] []), none⟩, ⟨(some 145), (.mklit 1 24 [(.int .i64 0), (.slice none 0 0 0), (.str []), (.int .i64 0), (.str []), (.int .u8 0), (.int .u8 0), (.int .u8 0), (.int .u8 0), (.int .u8 0), (.int .u8 0), (.int .u8 0), (.int .u8 0), (.int .u8 0), (.int .u8 0), (.int .u8 0), (.int .u8 0), (.int .u8 0), (.int .u8 0), (.int .u8 0), (.int .u8 0), (.int .i64 0), (.bool false), (.str [])] [(0, (24, (.tmp 144)))]), none⟩, ⟨(some 146), (.append 24 120 0 (.tmp 143) (.tmp 145)), none⟩, ⟨(some 147), (.fldAddr 69 (.tmp 5)), none⟩, ⟨none, (.store 1 (.tmp 147) (.tmp 146)), none⟩]) (.seq (.reg [⟨(some 149), (.bin .eql [0] (.tmp 25) (.con (.int .i64 10))), none⟩, ⟨(some 148), (.mov (.tmp 149)), none⟩]) (.cond (.tmp 148) (.reg [⟨(some 150), (.fldAddr 70 (.tmp 2)), none⟩, ⟨(some 151), (.load none (.tmp 150)), none⟩, ⟨(some 152), (.un .not (.tmp 151)), none⟩, ⟨(some 153), (.fldAddr 70 (.tmp 5)), none⟩, ⟨none, (.store 1 (.tmp 153) (.tmp 152)), none⟩]) (.seq (.reg [⟨(some 155), (.bin .eql [0] (.tmp 25) (.con (.int .i64 11))), none⟩, ⟨(some 154), (.mov (.tmp 155)), none⟩]) (.cond (.tmp 154) (.reg [⟨(some 156), (.mklit 0 1 [] []), none⟩, ⟨(some 157), (.fldAddr 71 (.tmp 2)), none⟩, ⟨(some 158), (.load none (.tmp 157)), none⟩, ⟨(some 159), (.append 1 1 6597069766657 (.tmp 156) (.tmp 158)), none⟩, ⟨(some 160), (.mklit 1 1 [(.int .u8 0)] [(0, (1, (.con (.int .u8 0))))]), none⟩, ⟨(some 161), (.append 1 1 6597069766657 (.tmp 159) (.tmp 160)), none⟩, ⟨(some 162), (.fldAddr 71 (.tmp 5)), none⟩, ⟨none, (.store 1 (.tmp 162) (.tmp 161)), none⟩]) (.seq (.seq (.reg [⟨(some 26), (.fldAddr 69 (.tmp 5)), none⟩, ⟨(some 27), (.load none (.tmp 26)), none⟩, ⟨(some 28), (.lenSl (.tmp 27)), none⟩, ⟨(some 29), (.bin .eql [0] (.tmp 28) (.con (.int .i64 0))), none⟩]) (.cond (.tmp 29) (.seq (.reg [⟨(some 4), (.mov (.con (.bool true))), none⟩]) .ret) .skip)) (.reg [⟨(some 30), (.fldAddr 69 (.tmp 5)), none⟩, ⟨(some 31), (.load none (.tmp 30)), none⟩, ⟨(some 32), (.fldAddr 69 (.tmp 5)), none⟩, ⟨(some 33), (.load none (.tmp 32)), none⟩, ⟨(some 34), (.lenSl (.tmp 33)), none⟩, ⟨(some 35), (.bin .sub [0] (.tmp 34) (.con (.int .i64 1))), none⟩, ⟨(some 36), (.ixAddr 24 (.tmp 31) (.tmp 35)), none⟩, ⟨(some 37), (.fldAddr 21 (.tmp 36)), none⟩, ⟨(some 38), (.fldAddr 0 (.tmp 37)), none⟩, ⟨(some 39), (.load none (.tmp 38)), none⟩, ⟨(some 40), (.bin .xor [0] (.tmp 39) (.con (.int .i64 1))), none⟩, ⟨(some 41), (.ixAddr 24 (.tmp 31) (.tmp 35)), none⟩, ⟨(some 42), (.fldAddr 21 (.tmp 41)), none⟩, ⟨(some 43), (.fldAddr 0 (.tmp 42)), none⟩, ⟨none, (.store 1 (.tmp 43) (.tmp 40)), none⟩]))))))))))))))))))))))))))
noncomputable def Ktail : ECode := (.seq (.reg [⟨(some 163), (.load (some 72) (.tmp 2)), none⟩, ⟨(some 164), (.load (some 72) (.tmp 5)), none⟩, ⟨(some 165), (.call (.fn 5) [(.tmp 163), (.tmp 164)]), none⟩, ⟨(some 166), (.un .not (.tmp 165)), none⟩, ⟨(some 167), (.mov (.tmp 166)), none⟩, ⟨(some 168), (.load (some 72) (.tmp 5)), (some (167, true))⟩, ⟨(some 169), (.load (some 72) (.tmp 2)), (some (167, true))⟩, ⟨(some 170), (.call (.fn 5) [(.tmp 168), (.tmp 169)]), (some (167, true))⟩, ⟨(some 171), (.un .not (.tmp 170)), (some (167, true))⟩, ⟨(some 172), (.pick (.tmp 167) (.tmp 171) (.con (.bool false))), none⟩, ⟨(some 173), (.mov (.tmp 172)), none⟩, ⟨(some 174), (.load (some 72) (.tmp 5)), (some (173, true))⟩, ⟨(some 175), (.load (some 72) (.tmp 5)), (some (173, true))⟩, ⟨(some 176), (.call (.fn 5) [(.tmp 174), (.tmp 175)]), (some (173, true))⟩, ⟨(some 177), (.pick (.tmp 173) (.tmp 176) (.con (.bool false))), none⟩, ⟨(some 4), (.mov (.tmp 177)), none⟩]) .ret)

def Bnd (e : EnvD) : Prop := e.helo.name.length ≤ 1048576 ∧ e.user.length ≤ 1048576 ∧ e.from.loc.length ≤ 1048576 ∧ (∀ h ∈ e.from.route, h.name.length ≤ 1048576) ∧ e.to.length ≤ 1048576 ∧ e.body.length ≤ 1048576 ∧ e.from.route.length ≤ 1048576
structure Sit (m : Mem) (e : EnvD) (bE bX bT g : Nat) (rows : List (List EV)) (rv tv bv : EV) (A : Fr) (N : Mem) : Prop where
  low : m.bl.length ≤ N.low
  gr : Grown m N
  A2 : A 2 = .ptr (some ⟨.mem bE 0, 0⟩)
  A5 : A 5 = .ptr (some ⟨.mem bX 0, 0⟩)
  oE : m.bl.length ≤ bE
  oX : bE < bX
  oT : bX < bT
  RE : RowIs N bE (envC e rv tv bv)
  RX : RowIs N bX (envC e rv (.slice (some ⟨.mem bT g, 0⟩) rows.length rows.length 24) bv)
  T : Gb N bT g 24 rows
  g1 : g ≤ 1
  k1 : HostOk e.helo
  k2 : HostOk e.peer
  pok : PathOk e.from
  hr : RowsAt G m 18 rv (e.from.route.map hostC)
  ht : RecsAt G m tv e.to
  hb : BytesAt G m bv e.body
  hrl : rows.length = e.to.length
  hrx : ∀ (i : Nat) (r : RecD), e.to[i]? = some r → ∃ cs, rows[i]? = some cs ∧ RecAt G m cs r
  bnd : Bnd e
def Done (m : Mem) (e : EnvD) (s : St) : Prop := ∃ A N bE bX csE csX x, s = ⟨A, N, [], none⟩ ∧ m.bl.length ≤ N.low ∧ A 2 = .ptr (some ⟨.mem bE 0, 0⟩) ∧ A 5 = .ptr (some ⟨.mem bX 0, 0⟩) ∧ RowIs N bE csE ∧ RowIs N bX csX ∧ EnvAt G N csE e ∧ EnvAt G N csX x ∧ x ≠ e

section
variable {m : Mem} {e : EnvD} {bE bX bT g : Nat} {rows : List (List EV)} {rv tv bv : EV} {A : Fr} {N : Mem}
theorem Sit.envE (s : Sit m e bE bX bT g rows rv tv bv A N) {N' : Mem} (h : Grown m N') : EnvAt G N' (envC e rv tv bv) e :=
  ⟨rv, tv, bv, rfl, s.k1, s.k2, ⟨rv, rfl, rows_grown h s.hr, s.pok⟩, s.ht.grown h, bytes_grown h s.hb, by have := s.bnd.2.2.2.2.1; omega, by have := s.bnd.2.2.2.2.2.1; omega⟩
theorem Sit.recs (s : Sit m e bE bX bT g rows rv tv bv A N) {N' : Mem} (h : Grown m N') (hT : Gb N' bT g 24 rows) : RecsAt G N' (.slice (some ⟨.mem bT g, 0⟩) rows.length rows.length 24) e.to :=
  ⟨rows, gb_rows hT, s.hrl, fun i r hi => let ⟨cs, h1, h2⟩ := s.hrx i r hi; ⟨cs, h1, h2.grown h⟩⟩
/-- One cell of the other envelope turned. -/
theorem Sit.fin (s : Sit m e bE bX bT g rows rv tv bv A N) {off : Nat} {v : EV} (x : EnvD) (ho : off < 72) (hset : ∀ tv', (envC e rv tv' bv).set off v = envC x rv tv' bv) (k1 : HostOk x.helo) (k2 : HostOk x.peer) (k3 : HostOk x.from.host)
    (er : x.from.route = e.from.route) (et : x.to = e.to) (eb : x.body = e.body) (hne : x ≠ e) : ∃ N', N.put1 ⟨.mem bX 0, off⟩ v = some N' ∧ ∀ A' : Fr, A' 2 = A 2 → A' 5 = A 5 → Done m e ⟨A', N', [], none⟩ := by
  obtain ⟨N', p, R, t, l⟩ := put1_row (v := v) s.RX (off := off) (by rw [envC_len s.k1 s.k2 s.pok.1]; exact ho)
  rw [hset] at R
  have oE := s.oE
  have oX := s.oX
  have oT := s.oT
  have low := s.low
  have gr : Grown m N' := grown_but s.gr t (by omega)
  refine ⟨N', p, fun A' a2 a5 => ⟨A', N', bE, bX, _, _, x, rfl, by omega, by rw [a2, s.A2], by rw [a5, s.A5], s.RE.but t (by omega), R, s.envE gr, ?_, hne⟩⟩
  have hp := s.pok
  refine ⟨_, _, _, rfl, k1, k2, ⟨rv, rfl, by rw [er]; exact rows_grown gr s.hr, k3, by rw [er]; exact hp.2.1, by rw [er]; exact hp.2.2⟩, by rw [et]; exact s.recs gr (s.T.but t (by omega)), by rw [eb]; exact bytes_grown gr s.hb, by rw [et]; have := s.bnd.2.2.2.2.1; omega, by rw [eb]; have := s.bnd.2.2.2.2.2.1; omega⟩

theorem app_ne {α : Type} (s : List α) (x : α) : s ++ [x] ≠ s := fun h => by simpa using congrArg List.length h
theorem room {s : List UInt8} (h : s.length ≤ 1048576) : (s.length + ([120] : List UInt8).length ≤ 9223372036854775807) = True := eq_true (by simp; omega)

theorem case0 (s : Sit m e bE bX bT g rows rv tv bv A N) : wpC T G K0 (fun ex s => ex = .normal ∧ Done m e s) ⟨A, N, [], none⟩ := by
  obtain ⟨N', p, hd⟩ := s.fin (off := 1) (v := .str (e.helo.name ++ [120])) { e with helo := { e.helo with name := e.helo.name ++ [120] } } (by omega) (fun _ => env_put_name _) s.k1 s.k2 s.pok.1 rfl rfl rfl (fun h => app_ne _ _ (congrArg (fun d => d.helo.name) h))
  refine wpC_reg ?_
  have a0 := get_row (G := G) s.RE (sub_sub (k := 1) (j := 1) (env_helo s.k1) (sub_one (v := .str e.helo.name) rfl))
  have a1 := room s.bnd.1
  repeat (first
    | (refine wpOps_plain rfl ?_
       simp only [stepE, evVal, opd, upd, setO, argsE, List.getD, binE, binInt, binStr, unE, wantedE, w0, w1, w2, Nat.reduceEqDiff, ↓reduceIte, Nat.reduceAdd, reduceCtorEq, eq_self, decide_true, decide_false, Bool.false_eq_true, Int.reduceBEq, Int.reduceBNe, Int.reduceLT, Int.reduceLE, Int.reduceGE, Int.reduceGT, Int.reduceEq, s.A2, s.A5, a0, a1, p])
    | (apply wpOps_on
       · simp only [wantedE, upd, setO, w0, w1, ↓reduceIte, Nat.reduceEqDiff, reduceCtorEq, Bool.false_eq_true, Int.reduceBEq, eq_self, decide_true, decide_false])
    | (apply wpOps_off
       · simp only [wantedE, upd, setO, w0, w1, ↓reduceIte, Nat.reduceEqDiff, reduceCtorEq, Bool.false_eq_true, Int.reduceBEq, eq_self, decide_true, decide_false]
       try dsimp only)
    | (apply wpOps_if
       · rfl
       · simp only [stepE, evVal, opd, upd, setO, argsE, List.getD, binE, binInt, binStr, unE, wantedE, w0, w1, w2, Nat.reduceEqDiff, ↓reduceIte, Nat.reduceAdd, reduceCtorEq, eq_self, decide_true, decide_false, Bool.false_eq_true, Int.reduceBEq, Int.reduceBNe, Int.reduceLT, Int.reduceLE, Int.reduceGE, Int.reduceGT, Int.reduceEq]; exact rfl
       · intro hb; simp only [stepE, evVal, opd, upd, setO, argsE, List.getD, binE, binInt, binStr, unE, wantedE, w0, w1, w2, Nat.reduceEqDiff, ↓reduceIte, Nat.reduceAdd, reduceCtorEq, eq_self, decide_true, decide_false, Bool.false_eq_true, Int.reduceBEq, Int.reduceBNe, Int.reduceLT, Int.reduceLE, Int.reduceGE, Int.reduceGT, Int.reduceEq, hb, s.A2, s.A5, a0, a1, p]; exact rfl))
  refine wpOps_nil ?_
  exact ⟨rfl, hd _ (by simp [upd]) (by simp [upd])⟩

theorem case2 (s : Sit m e bE bX bT g rows rv tv bv A N) : wpC T G K2 (fun ex s => ex = .normal ∧ Done m e s) ⟨A, N, [], none⟩ := by
  obtain ⟨N', p, hd⟩ := s.fin (off := 36) (v := .str (e.user ++ [120])) { e with user := e.user ++ [120] } (by omega) (fun _ => env_put_user s.k1 s.k2 _) s.k1 s.k2 s.pok.1 rfl rfl rfl (fun h => app_ne _ _ (congrArg (fun d => d.user) h))
  refine wpC_reg ?_
  have a0 := get_row (G := G) s.RE (env_user s.k1 s.k2)
  have a1 := room s.bnd.2.1
  repeat (first
    | (refine wpOps_plain rfl ?_
       simp only [stepE, evVal, opd, upd, setO, argsE, List.getD, binE, binInt, binStr, unE, wantedE, w0, w1, w2, Nat.reduceEqDiff, ↓reduceIte, Nat.reduceAdd, reduceCtorEq, eq_self, decide_true, decide_false, Bool.false_eq_true, Int.reduceBEq, Int.reduceBNe, Int.reduceLT, Int.reduceLE, Int.reduceGE, Int.reduceGT, Int.reduceEq, s.A2, s.A5, a0, a1, p])
    | (apply wpOps_on
       · simp only [wantedE, upd, setO, w0, w1, ↓reduceIte, Nat.reduceEqDiff, reduceCtorEq, Bool.false_eq_true, Int.reduceBEq, eq_self, decide_true, decide_false])
    | (apply wpOps_off
       · simp only [wantedE, upd, setO, w0, w1, ↓reduceIte, Nat.reduceEqDiff, reduceCtorEq, Bool.false_eq_true, Int.reduceBEq, eq_self, decide_true, decide_false]
       try dsimp only)
    | (apply wpOps_if
       · rfl
       · simp only [stepE, evVal, opd, upd, setO, argsE, List.getD, binE, binInt, binStr, unE, wantedE, w0, w1, w2, Nat.reduceEqDiff, ↓reduceIte, Nat.reduceAdd, reduceCtorEq, eq_self, decide_true, decide_false, Bool.false_eq_true, Int.reduceBEq, Int.reduceBNe, Int.reduceLT, Int.reduceLE, Int.reduceGE, Int.reduceGT, Int.reduceEq]; exact rfl
       · intro hb; simp only [stepE, evVal, opd, upd, setO, argsE, List.getD, binE, binInt, binStr, unE, wantedE, w0, w1, w2, Nat.reduceEqDiff, ↓reduceIte, Nat.reduceAdd, reduceCtorEq, eq_self, decide_true, decide_false, Bool.false_eq_true, Int.reduceBEq, Int.reduceBNe, Int.reduceLT, Int.reduceLE, Int.reduceGE, Int.reduceGT, Int.reduceEq, hb, s.A2, s.A5, a0, a1, p]; exact rfl))
  refine wpOps_nil ?_
  exact ⟨rfl, hd _ (by simp [upd]) (by simp [upd])⟩

theorem case3 (s : Sit m e bE bX bT g rows rv tv bv A N) : wpC T G K3 (fun ex s => ex = .normal ∧ Done m e s) ⟨A, N, [], none⟩ := by
  obtain ⟨N', p, hd⟩ := s.fin (off := 37) (v := .bool (!e.ext)) { e with ext := !e.ext } (by omega) (fun _ => env_put_ext s.k1 s.k2 _) s.k1 s.k2 s.pok.1 rfl rfl rfl (fun h => by have := congrArg (fun d => d.ext) h; simp at this)
  refine wpC_reg ?_
  have a0 := get_row (G := G) s.RE (env_ext s.k1 s.k2)
  repeat (first
    | (refine wpOps_plain rfl ?_
       simp only [stepE, evVal, opd, upd, setO, argsE, List.getD, binE, binInt, binStr, unE, wantedE, w0, w1, w2, Nat.reduceEqDiff, ↓reduceIte, Nat.reduceAdd, reduceCtorEq, eq_self, decide_true, decide_false, Bool.false_eq_true, Int.reduceBEq, Int.reduceBNe, Int.reduceLT, Int.reduceLE, Int.reduceGE, Int.reduceGT, Int.reduceEq, s.A2, s.A5, a0, p])
    | (apply wpOps_on
       · simp only [wantedE, upd, setO, w0, w1, ↓reduceIte, Nat.reduceEqDiff, reduceCtorEq, Bool.false_eq_true, Int.reduceBEq, eq_self, decide_true, decide_false])
    | (apply wpOps_off
       · simp only [wantedE, upd, setO, w0, w1, ↓reduceIte, Nat.reduceEqDiff, reduceCtorEq, Bool.false_eq_true, Int.reduceBEq, eq_self, decide_true, decide_false]
       try dsimp only)
    | (apply wpOps_if
       · rfl
       · simp only [stepE, evVal, opd, upd, setO, argsE, List.getD, binE, binInt, binStr, unE, wantedE, w0, w1, w2, Nat.reduceEqDiff, ↓reduceIte, Nat.reduceAdd, reduceCtorEq, eq_self, decide_true, decide_false, Bool.false_eq_true, Int.reduceBEq, Int.reduceBNe, Int.reduceLT, Int.reduceLE, Int.reduceGE, Int.reduceGT, Int.reduceEq]; exact rfl
       · intro hb; simp only [stepE, evVal, opd, upd, setO, argsE, List.getD, binE, binInt, binStr, unE, wantedE, w0, w1, w2, Nat.reduceEqDiff, ↓reduceIte, Nat.reduceAdd, reduceCtorEq, eq_self, decide_true, decide_false, Bool.false_eq_true, Int.reduceBEq, Int.reduceBNe, Int.reduceLT, Int.reduceLE, Int.reduceGE, Int.reduceGT, Int.reduceEq, hb, s.A2, s.A5, a0, p]; exact rfl))
  refine wpOps_nil ?_
  exact ⟨rfl, hd _ (by simp [upd]) (by simp [upd])⟩

theorem case4 (s : Sit m e bE bX bT g rows rv tv bv A N) : wpC T G K4 (fun ex s => ex = .normal ∧ Done m e s) ⟨A, N, [], none⟩ := by
  obtain ⟨N', p, hd⟩ := s.fin (off := 38) (v := .int .i64 (bitsE .xor .i64 e.time 1)) { e with time := bitsE .xor .i64 e.time 1 } (by omega) (fun _ => env_put_time s.k1 s.k2 _) s.k1 s.k2 s.pok.1 rfl rfl rfl (fun h => xor_ne _ (congrArg (fun d => d.time) h))
  refine wpC_reg ?_
  have a0 := get_row (G := G) s.RE (env_time s.k1 s.k2)
  repeat (first
    | (refine wpOps_plain rfl ?_
       simp only [stepE, evVal, opd, upd, setO, argsE, List.getD, binE, binInt, binStr, unE, wantedE, w0, w1, w2, Nat.reduceEqDiff, ↓reduceIte, Nat.reduceAdd, reduceCtorEq, eq_self, decide_true, decide_false, Bool.false_eq_true, Int.reduceBEq, Int.reduceBNe, Int.reduceLT, Int.reduceLE, Int.reduceGE, Int.reduceGT, Int.reduceEq, s.A2, s.A5, a0, p])
    | (apply wpOps_on
       · simp only [wantedE, upd, setO, w0, w1, ↓reduceIte, Nat.reduceEqDiff, reduceCtorEq, Bool.false_eq_true, Int.reduceBEq, eq_self, decide_true, decide_false])
    | (apply wpOps_off
       · simp only [wantedE, upd, setO, w0, w1, ↓reduceIte, Nat.reduceEqDiff, reduceCtorEq, Bool.false_eq_true, Int.reduceBEq, eq_self, decide_true, decide_false]
       try dsimp only)
    | (apply wpOps_if
       · rfl
       · simp only [stepE, evVal, opd, upd, setO, argsE, List.getD, binE, binInt, binStr, unE, wantedE, w0, w1, w2, Nat.reduceEqDiff, ↓reduceIte, Nat.reduceAdd, reduceCtorEq, eq_self, decide_true, decide_false, Bool.false_eq_true, Int.reduceBEq, Int.reduceBNe, Int.reduceLT, Int.reduceLE, Int.reduceGE, Int.reduceGT, Int.reduceEq]; exact rfl
       · intro hb; simp only [stepE, evVal, opd, upd, setO, argsE, List.getD, binE, binInt, binStr, unE, wantedE, w0, w1, w2, Nat.reduceEqDiff, ↓reduceIte, Nat.reduceAdd, reduceCtorEq, eq_self, decide_true, decide_false, Bool.false_eq_true, Int.reduceBEq, Int.reduceBNe, Int.reduceLT, Int.reduceLE, Int.reduceGE, Int.reduceGT, Int.reduceEq, hb, s.A2, s.A5, a0, p]; exact rfl))
  refine wpOps_nil ?_
  exact ⟨rfl, hd _ (by simp [upd]) (by simp [upd])⟩

theorem case5 (s : Sit m e bE bX bT g rows rv tv bv A N) : wpC T G K5 (fun ex s => ex = .normal ∧ Done m e s) ⟨A, N, [], none⟩ := by
  obtain ⟨N', p, hd⟩ := s.fin (off := 39) (v := .int .i64 (bitsE .xor .i64 e.from.kind 1)) { e with «from» := { e.from with kind := bitsE .xor .i64 e.from.kind 1 } } (by omega) (fun _ => env_put_kind s.k1 s.k2 _) s.k1 s.k2 s.pok.1 rfl rfl rfl (fun h => xor_ne _ (congrArg (fun d => d.from.kind) h))
  refine wpC_reg ?_
  have a0 := get_row (G := G) s.RE (sub_sub (k := 0) (j := 1) (env_from s.k1 s.k2 s.pok.1) path_kind)
  repeat (first
    | (refine wpOps_plain rfl ?_
       simp only [stepE, evVal, opd, upd, setO, argsE, List.getD, binE, binInt, binStr, unE, wantedE, w0, w1, w2, Nat.reduceEqDiff, ↓reduceIte, Nat.reduceAdd, reduceCtorEq, eq_self, decide_true, decide_false, Bool.false_eq_true, Int.reduceBEq, Int.reduceBNe, Int.reduceLT, Int.reduceLE, Int.reduceGE, Int.reduceGT, Int.reduceEq, s.A2, s.A5, a0, p])
    | (apply wpOps_on
       · simp only [wantedE, upd, setO, w0, w1, ↓reduceIte, Nat.reduceEqDiff, reduceCtorEq, Bool.false_eq_true, Int.reduceBEq, eq_self, decide_true, decide_false])
    | (apply wpOps_off
       · simp only [wantedE, upd, setO, w0, w1, ↓reduceIte, Nat.reduceEqDiff, reduceCtorEq, Bool.false_eq_true, Int.reduceBEq, eq_self, decide_true, decide_false]
       try dsimp only)
    | (apply wpOps_if
       · rfl
       · simp only [stepE, evVal, opd, upd, setO, argsE, List.getD, binE, binInt, binStr, unE, wantedE, w0, w1, w2, Nat.reduceEqDiff, ↓reduceIte, Nat.reduceAdd, reduceCtorEq, eq_self, decide_true, decide_false, Bool.false_eq_true, Int.reduceBEq, Int.reduceBNe, Int.reduceLT, Int.reduceLE, Int.reduceGE, Int.reduceGT, Int.reduceEq]; exact rfl
       · intro hb; simp only [stepE, evVal, opd, upd, setO, argsE, List.getD, binE, binInt, binStr, unE, wantedE, w0, w1, w2, Nat.reduceEqDiff, ↓reduceIte, Nat.reduceAdd, reduceCtorEq, eq_self, decide_true, decide_false, Bool.false_eq_true, Int.reduceBEq, Int.reduceBNe, Int.reduceLT, Int.reduceLE, Int.reduceGE, Int.reduceGT, Int.reduceEq, hb, s.A2, s.A5, a0, p]; exact rfl))
  refine wpOps_nil ?_
  exact ⟨rfl, hd _ (by simp [upd]) (by simp [upd])⟩

theorem case7 (s : Sit m e bE bX bT g rows rv tv bv A N) : wpC T G K7 (fun ex s => ex = .normal ∧ Done m e s) ⟨A, N, [], none⟩ := by
  obtain ⟨N', p, hd⟩ := s.fin (off := 41) (v := .str (e.from.loc ++ [120])) { e with «from» := { e.from with loc := e.from.loc ++ [120] } } (by omega) (fun _ => env_put_loc s.k1 s.k2 _) s.k1 s.k2 s.pok.1 rfl rfl rfl (fun h => app_ne _ _ (congrArg (fun d => d.from.loc) h))
  refine wpC_reg ?_
  have a0 := get_row (G := G) s.RE (sub_sub (k := 2) (j := 1) (env_from s.k1 s.k2 s.pok.1) (sub_one (v := .str e.from.loc) rfl))
  have a1 := room s.bnd.2.2.1
  repeat (first
    | (refine wpOps_plain rfl ?_
       simp only [stepE, evVal, opd, upd, setO, argsE, List.getD, binE, binInt, binStr, unE, wantedE, w0, w1, w2, Nat.reduceEqDiff, ↓reduceIte, Nat.reduceAdd, reduceCtorEq, eq_self, decide_true, decide_false, Bool.false_eq_true, Int.reduceBEq, Int.reduceBNe, Int.reduceLT, Int.reduceLE, Int.reduceGE, Int.reduceGT, Int.reduceEq, s.A2, s.A5, a0, a1, p])
    | (apply wpOps_on
       · simp only [wantedE, upd, setO, w0, w1, ↓reduceIte, Nat.reduceEqDiff, reduceCtorEq, Bool.false_eq_true, Int.reduceBEq, eq_self, decide_true, decide_false])
    | (apply wpOps_off
       · simp only [wantedE, upd, setO, w0, w1, ↓reduceIte, Nat.reduceEqDiff, reduceCtorEq, Bool.false_eq_true, Int.reduceBEq, eq_self, decide_true, decide_false]
       try dsimp only)
    | (apply wpOps_if
       · rfl
       · simp only [stepE, evVal, opd, upd, setO, argsE, List.getD, binE, binInt, binStr, unE, wantedE, w0, w1, w2, Nat.reduceEqDiff, ↓reduceIte, Nat.reduceAdd, reduceCtorEq, eq_self, decide_true, decide_false, Bool.false_eq_true, Int.reduceBEq, Int.reduceBNe, Int.reduceLT, Int.reduceLE, Int.reduceGE, Int.reduceGT, Int.reduceEq]; exact rfl
       · intro hb; simp only [stepE, evVal, opd, upd, setO, argsE, List.getD, binE, binInt, binStr, unE, wantedE, w0, w1, w2, Nat.reduceEqDiff, ↓reduceIte, Nat.reduceAdd, reduceCtorEq, eq_self, decide_true, decide_false, Bool.false_eq_true, Int.reduceBEq, Int.reduceBNe, Int.reduceLT, Int.reduceLE, Int.reduceGE, Int.reduceGT, Int.reduceEq, hb, s.A2, s.A5, a0, a1, p]; exact rfl))
  refine wpOps_nil ?_
  exact ⟨rfl, hd _ (by simp [upd]) (by simp [upd])⟩

theorem case8 (s : Sit m e bE bX bT g rows rv tv bv A N) : wpC T G K8 (fun ex s => ex = .normal ∧ Done m e s) ⟨A, N, [], none⟩ := by
  obtain ⟨N', p, hd⟩ := s.fin (off := 63) (v := .bool (!e.opts.b2)) { e with opts := { e.opts with b2 := !e.opts.b2 } } (by omega) (fun _ => env_put_wide s.k1 s.k2 s.pok.1 _) s.k1 s.k2 s.pok.1 rfl rfl rfl (fun h => by have := congrArg (fun d => d.opts.b2) h; simp at this)
  refine wpC_reg ?_
  have a0 := get_row (G := G) s.RE (sub_sub (k := 3) (j := 1) (env_opts s.k1 s.k2 s.pok.1) (sub_one (v := .bool e.opts.b2) rfl))
  repeat (first
    | (refine wpOps_plain rfl ?_
       simp only [stepE, evVal, opd, upd, setO, argsE, List.getD, binE, binInt, binStr, unE, wantedE, w0, w1, w2, Nat.reduceEqDiff, ↓reduceIte, Nat.reduceAdd, reduceCtorEq, eq_self, decide_true, decide_false, Bool.false_eq_true, Int.reduceBEq, Int.reduceBNe, Int.reduceLT, Int.reduceLE, Int.reduceGE, Int.reduceGT, Int.reduceEq, s.A2, s.A5, a0, p])
    | (apply wpOps_on
       · simp only [wantedE, upd, setO, w0, w1, ↓reduceIte, Nat.reduceEqDiff, reduceCtorEq, Bool.false_eq_true, Int.reduceBEq, eq_self, decide_true, decide_false])
    | (apply wpOps_off
       · simp only [wantedE, upd, setO, w0, w1, ↓reduceIte, Nat.reduceEqDiff, reduceCtorEq, Bool.false_eq_true, Int.reduceBEq, eq_self, decide_true, decide_false]
       try dsimp only)
    | (apply wpOps_if
       · rfl
       · simp only [stepE, evVal, opd, upd, setO, argsE, List.getD, binE, binInt, binStr, unE, wantedE, w0, w1, w2, Nat.reduceEqDiff, ↓reduceIte, Nat.reduceAdd, reduceCtorEq, eq_self, decide_true, decide_false, Bool.false_eq_true, Int.reduceBEq, Int.reduceBNe, Int.reduceLT, Int.reduceLE, Int.reduceGE, Int.reduceGT, Int.reduceEq]; exact rfl
       · intro hb; simp only [stepE, evVal, opd, upd, setO, argsE, List.getD, binE, binInt, binStr, unE, wantedE, w0, w1, w2, Nat.reduceEqDiff, ↓reduceIte, Nat.reduceAdd, reduceCtorEq, eq_self, decide_true, decide_false, Bool.false_eq_true, Int.reduceBEq, Int.reduceBNe, Int.reduceLT, Int.reduceLE, Int.reduceGE, Int.reduceGT, Int.reduceEq, hb, s.A2, s.A5, a0, p]; exact rfl))
  refine wpOps_nil ?_
  exact ⟨rfl, hd _ (by simp [upd]) (by simp [upd])⟩

theorem case10 (s : Sit m e bE bX bT g rows rv tv bv A N) : wpC T G K10 (fun ex s => ex = .normal ∧ Done m e s) ⟨A, N, [], none⟩ := by
  obtain ⟨N', p, hd⟩ := s.fin (off := 70) (v := .bool (!e.mark)) { e with mark := !e.mark } (by omega) (fun _ => env_put_mark s.k1 s.k2 s.pok.1 _) s.k1 s.k2 s.pok.1 rfl rfl rfl (fun h => by have := congrArg (fun d => d.mark) h; simp at this)
  refine wpC_reg ?_
  have a0 := get_row (G := G) s.RE (env_mark s.k1 s.k2 s.pok.1)
  repeat (first
    | (refine wpOps_plain rfl ?_
       simp only [stepE, evVal, opd, upd, setO, argsE, List.getD, binE, binInt, binStr, unE, wantedE, w0, w1, w2, Nat.reduceEqDiff, ↓reduceIte, Nat.reduceAdd, reduceCtorEq, eq_self, decide_true, decide_false, Bool.false_eq_true, Int.reduceBEq, Int.reduceBNe, Int.reduceLT, Int.reduceLE, Int.reduceGE, Int.reduceGT, Int.reduceEq, s.A2, s.A5, a0, p])
    | (apply wpOps_on
       · simp only [wantedE, upd, setO, w0, w1, ↓reduceIte, Nat.reduceEqDiff, reduceCtorEq, Bool.false_eq_true, Int.reduceBEq, eq_self, decide_true, decide_false])
    | (apply wpOps_off
       · simp only [wantedE, upd, setO, w0, w1, ↓reduceIte, Nat.reduceEqDiff, reduceCtorEq, Bool.false_eq_true, Int.reduceBEq, eq_self, decide_true, decide_false]
       try dsimp only)
    | (apply wpOps_if
       · rfl
       · simp only [stepE, evVal, opd, upd, setO, argsE, List.getD, binE, binInt, binStr, unE, wantedE, w0, w1, w2, Nat.reduceEqDiff, ↓reduceIte, Nat.reduceAdd, reduceCtorEq, eq_self, decide_true, decide_false, Bool.false_eq_true, Int.reduceBEq, Int.reduceBNe, Int.reduceLT, Int.reduceLE, Int.reduceGE, Int.reduceGT, Int.reduceEq]; exact rfl
       · intro hb; simp only [stepE, evVal, opd, upd, setO, argsE, List.getD, binE, binInt, binStr, unE, wantedE, w0, w1, w2, Nat.reduceEqDiff, ↓reduceIte, Nat.reduceAdd, reduceCtorEq, eq_self, decide_true, decide_false, Bool.false_eq_true, Int.reduceBEq, Int.reduceBNe, Int.reduceLT, Int.reduceLE, Int.reduceGE, Int.reduceGT, Int.reduceEq, hb, s.A2, s.A5, a0, p]; exact rfl))
  refine wpOps_nil ?_
  exact ⟨rfl, hd _ (by simp [upd]) (by simp [upd])⟩

theorem case1 (s : Sit m e bE bX bT g rows rv tv bv A N) : wpC T G K1 (fun ex s => ex = .normal ∧ Done m e s) ⟨A, N, [], none⟩ := by
  have h16 : 15 < e.peer.addr.length := by rw [s.k2]; omega
  obtain ⟨N', p, hd⟩ := s.fin (off := 35) (v := .int .u8 (IntKind.u8.wrap (e.peer.addr[15] + 1))) { e with peer := { e.peer with addr := e.peer.addr.set 15 (IntKind.u8.wrap (e.peer.addr[15] + 1)) } } (by omega) (fun _ => env_put_addr s.k1 s.k2 _) s.k1 (by rw [HostOk, List.length_set]; exact s.k2) s.pok.1 rfl rfl rfl (fun h => by
    have := congrArg (fun d => d.peer.addr[15]?) h
    simp [h16] at this
    exact inc_ne _ this)
  refine wpC_reg ?_
  have a0 := get_row (G := G) s.RX (sub_sub (k := 17) (j := 1) (env_peer s.k1 s.k2) (sub_one (v := .int .u8 e.peer.addr[15]) (by simp [hostC, h16])))
  repeat (first
    | (refine wpOps_plain rfl ?_
       simp only [stepE, evVal, opd, upd, setO, argsE, List.getD, binE, binInt, binStr, unE, wantedE, w0, w1, w2, Nat.reduceEqDiff, ↓reduceIte, Nat.reduceAdd, reduceCtorEq, eq_self, decide_true, decide_false, Bool.false_eq_true, Int.reduceBEq, Int.reduceBNe, Int.reduceLT, Int.reduceLE, Int.reduceGE, Int.reduceGT, Int.reduceEq, s.A2, s.A5, a0, p, Int.reduceToNat, Nat.reduceMul, Nat.reduceAdd])
    | (apply wpOps_on
       · simp only [wantedE, upd, setO, w0, w1, ↓reduceIte, Nat.reduceEqDiff, reduceCtorEq, Bool.false_eq_true, Int.reduceBEq, eq_self, decide_true, decide_false])
    | (apply wpOps_off
       · simp only [wantedE, upd, setO, w0, w1, ↓reduceIte, Nat.reduceEqDiff, reduceCtorEq, Bool.false_eq_true, Int.reduceBEq, eq_self, decide_true, decide_false]
       try dsimp only)
    | (apply wpOps_if
       · rfl
       · simp only [stepE, evVal, opd, upd, setO, argsE, List.getD, binE, binInt, binStr, unE, wantedE, w0, w1, w2, Nat.reduceEqDiff, ↓reduceIte, Nat.reduceAdd, reduceCtorEq, eq_self, decide_true, decide_false, Bool.false_eq_true, Int.reduceBEq, Int.reduceBNe, Int.reduceLT, Int.reduceLE, Int.reduceGE, Int.reduceGT, Int.reduceEq]; exact rfl
       · intro hb; simp only [stepE, evVal, opd, upd, setO, argsE, List.getD, binE, binInt, binStr, unE, wantedE, w0, w1, w2, Nat.reduceEqDiff, ↓reduceIte, Nat.reduceAdd, reduceCtorEq, eq_self, decide_true, decide_false, Bool.false_eq_true, Int.reduceBEq, Int.reduceBNe, Int.reduceLT, Int.reduceLE, Int.reduceGE, Int.reduceGT, Int.reduceEq, hb, s.A2, s.A5, a0, p, Int.reduceToNat, Nat.reduceMul, Nat.reduceAdd]; exact rfl))
  refine wpOps_nil ?_
  exact ⟨rfl, hd _ (by simp [upd]) (by simp [upd])⟩

/-- Behind the cases: the two are not the same, and each is the same as itself. -/
theorem tail {s : St} (h : Done m e s) : wpC T G Ktail (fun ex s => postE G F3.res m ⟨.val (.bool true), m, none⟩ ex s) s := by
  obtain ⟨A, N, bE, bX, csE, csX, x, rfl, low, A2, A5, RE, RX, hE, hX, hne⟩ := h
  have a0 := getN_row (G := G) RE (sub_all hE.len)
  have a1 := getN_row (G := G) RX (sub_all hX.len)
  have n1 : decide (e = x) = false := decide_eq_false fun h => hne h.symm
  have n2 : decide (x = e) = false := decide_eq_false hne
  refine wpC_seq (wpC_reg ?_)
  repeat (first
    | (refine wpOps_plain rfl ?_
       simp only [stepE, evVal, opd, upd, setO, argsE, List.getD, binE, binInt, binStr, unE, wantedE, w0, w1, w2, Nat.reduceEqDiff, ↓reduceIte, Nat.reduceAdd, reduceCtorEq, eq_self, decide_true, decide_false, Bool.false_eq_true, Int.reduceBEq, Int.reduceBNe, Int.reduceLT, Int.reduceLE, Int.reduceGE, Int.reduceGT, Int.reduceEq, A2, A5, a0, a1])
    | (apply wpOps_on
       · simp only [wantedE, upd, setO, w0, w1, ↓reduceIte, Nat.reduceEqDiff, reduceCtorEq, Bool.false_eq_true, Int.reduceBEq, eq_self, decide_true, decide_false])
    | (apply wpOps_off
       · simp only [wantedE, upd, setO, w0, w1, ↓reduceIte, Nat.reduceEqDiff, reduceCtorEq, Bool.false_eq_true, Int.reduceBEq, eq_self, decide_true, decide_false]
       try dsimp only)
    | (apply wpOps_if
       · rfl
       · simp only [stepE, evVal, opd, upd, setO, argsE, List.getD, binE, binInt, binStr, unE, wantedE, w0, w1, w2, Nat.reduceEqDiff, ↓reduceIte, Nat.reduceAdd, reduceCtorEq, eq_self, decide_true, decide_false, Bool.false_eq_true, Int.reduceBEq, Int.reduceBNe, Int.reduceLT, Int.reduceLE, Int.reduceGE, Int.reduceGT, Int.reduceEq]; exact rfl
       · intro hb; simp only [stepE, evVal, opd, upd, setO, argsE, List.getD, binE, binInt, binStr, unE, wantedE, w0, w1, w2, Nat.reduceEqDiff, ↓reduceIte, Nat.reduceAdd, reduceCtorEq, eq_self, decide_true, decide_false, Bool.false_eq_true, Int.reduceBEq, Int.reduceBNe, Int.reduceLT, Int.reduceLE, Int.reduceGE, Int.reduceGT, Int.reduceEq, hb, A2, A5, a0, a1]; exact rfl))
  apply wpOps_call
  · first | rfl | (simp only [stepE, evVal, opd, upd, setO, argsE, List.getD, binE, binInt, binStr, unE, wantedE, w0, w1, w2, Nat.reduceEqDiff, ↓reduceIte, Nat.reduceAdd, reduceCtorEq, eq_self, decide_true, decide_false, Bool.false_eq_true, Int.reduceBEq, Int.reduceBNe, Int.reduceLT, Int.reduceLE, Int.reduceGE, Int.reduceGT, Int.reduceEq]; exact rfl)
  · (try simp only [stepE, evVal, opd, upd, setO, argsE, List.getD, binE, binInt, binStr, unE, wantedE, w0, w1, w2, Nat.reduceEqDiff, ↓reduceIte, Nat.reduceAdd, reduceCtorEq, eq_self, decide_true, decide_false, Bool.false_eq_true, Int.reduceBEq, Int.reduceBNe, Int.reduceLT, Int.reduceLE, Int.reduceGE, Int.reduceGT, Int.reduceEq]); exact (c5 N _ _ e x hE hX)
  simp only [stepE, evVal, opd, upd, setO, argsE, List.getD, binE, binInt, binStr, unE, wantedE, w0, w1, w2, Nat.reduceEqDiff, ↓reduceIte, Nat.reduceAdd, reduceCtorEq, eq_self, decide_true, decide_false, Bool.false_eq_true, Int.reduceBEq, Int.reduceBNe, Int.reduceLT, Int.reduceLE, Int.reduceGE, Int.reduceGT, Int.reduceEq]
  repeat (first
    | (refine wpOps_plain rfl ?_
       simp only [stepE, evVal, opd, upd, setO, argsE, List.getD, binE, binInt, binStr, unE, wantedE, w0, w1, w2, Nat.reduceEqDiff, ↓reduceIte, Nat.reduceAdd, reduceCtorEq, eq_self, decide_true, decide_false, Bool.false_eq_true, Int.reduceBEq, Int.reduceBNe, Int.reduceLT, Int.reduceLE, Int.reduceGE, Int.reduceGT, Int.reduceEq, A2, A5, a0, a1, n1])
    | (apply wpOps_on
       · simp only [wantedE, upd, setO, w0, w1, ↓reduceIte, Nat.reduceEqDiff, reduceCtorEq, Bool.false_eq_true, Int.reduceBEq, eq_self, decide_true, decide_false])
    | (apply wpOps_off
       · simp only [wantedE, upd, setO, w0, w1, ↓reduceIte, Nat.reduceEqDiff, reduceCtorEq, Bool.false_eq_true, Int.reduceBEq, eq_self, decide_true, decide_false]
       try dsimp only)
    | (apply wpOps_if
       · rfl
       · simp only [stepE, evVal, opd, upd, setO, argsE, List.getD, binE, binInt, binStr, unE, wantedE, w0, w1, w2, Nat.reduceEqDiff, ↓reduceIte, Nat.reduceAdd, reduceCtorEq, eq_self, decide_true, decide_false, Bool.false_eq_true, Int.reduceBEq, Int.reduceBNe, Int.reduceLT, Int.reduceLE, Int.reduceGE, Int.reduceGT, Int.reduceEq]; exact rfl
       · intro hb; simp only [stepE, evVal, opd, upd, setO, argsE, List.getD, binE, binInt, binStr, unE, wantedE, w0, w1, w2, Nat.reduceEqDiff, ↓reduceIte, Nat.reduceAdd, reduceCtorEq, eq_self, decide_true, decide_false, Bool.false_eq_true, Int.reduceBEq, Int.reduceBNe, Int.reduceLT, Int.reduceLE, Int.reduceGE, Int.reduceGT, Int.reduceEq, hb, A2, A5, a0, a1, n1]; exact rfl))
  apply wpOps_call
  · first | rfl | (simp only [stepE, evVal, opd, upd, setO, argsE, List.getD, binE, binInt, binStr, unE, wantedE, w0, w1, w2, Nat.reduceEqDiff, ↓reduceIte, Nat.reduceAdd, reduceCtorEq, eq_self, decide_true, decide_false, Bool.false_eq_true, Int.reduceBEq, Int.reduceBNe, Int.reduceLT, Int.reduceLE, Int.reduceGE, Int.reduceGT, Int.reduceEq]; exact rfl)
  · (try simp only [stepE, evVal, opd, upd, setO, argsE, List.getD, binE, binInt, binStr, unE, wantedE, w0, w1, w2, Nat.reduceEqDiff, ↓reduceIte, Nat.reduceAdd, reduceCtorEq, eq_self, decide_true, decide_false, Bool.false_eq_true, Int.reduceBEq, Int.reduceBNe, Int.reduceLT, Int.reduceLE, Int.reduceGE, Int.reduceGT, Int.reduceEq]); exact (c5 N _ _ x e hX hE)
  simp only [stepE, evVal, opd, upd, setO, argsE, List.getD, binE, binInt, binStr, unE, wantedE, w0, w1, w2, Nat.reduceEqDiff, ↓reduceIte, Nat.reduceAdd, reduceCtorEq, eq_self, decide_true, decide_false, Bool.false_eq_true, Int.reduceBEq, Int.reduceBNe, Int.reduceLT, Int.reduceLE, Int.reduceGE, Int.reduceGT, Int.reduceEq]
  repeat (first
    | (refine wpOps_plain rfl ?_
       simp only [stepE, evVal, opd, upd, setO, argsE, List.getD, binE, binInt, binStr, unE, wantedE, w0, w1, w2, Nat.reduceEqDiff, ↓reduceIte, Nat.reduceAdd, reduceCtorEq, eq_self, decide_true, decide_false, Bool.false_eq_true, Int.reduceBEq, Int.reduceBNe, Int.reduceLT, Int.reduceLE, Int.reduceGE, Int.reduceGT, Int.reduceEq, A2, A5, a0, a1, n2])
    | (apply wpOps_on
       · simp only [wantedE, upd, setO, w0, w1, ↓reduceIte, Nat.reduceEqDiff, reduceCtorEq, Bool.false_eq_true, Int.reduceBEq, eq_self, decide_true, decide_false])
    | (apply wpOps_off
       · simp only [wantedE, upd, setO, w0, w1, ↓reduceIte, Nat.reduceEqDiff, reduceCtorEq, Bool.false_eq_true, Int.reduceBEq, eq_self, decide_true, decide_false]
       try dsimp only)
    | (apply wpOps_if
       · rfl
       · simp only [stepE, evVal, opd, upd, setO, argsE, List.getD, binE, binInt, binStr, unE, wantedE, w0, w1, w2, Nat.reduceEqDiff, ↓reduceIte, Nat.reduceAdd, reduceCtorEq, eq_self, decide_true, decide_false, Bool.false_eq_true, Int.reduceBEq, Int.reduceBNe, Int.reduceLT, Int.reduceLE, Int.reduceGE, Int.reduceGT, Int.reduceEq]; exact rfl
       · intro hb; simp only [stepE, evVal, opd, upd, setO, argsE, List.getD, binE, binInt, binStr, unE, wantedE, w0, w1, w2, Nat.reduceEqDiff, ↓reduceIte, Nat.reduceAdd, reduceCtorEq, eq_self, decide_true, decide_false, Bool.false_eq_true, Int.reduceBEq, Int.reduceBNe, Int.reduceLT, Int.reduceLE, Int.reduceGE, Int.reduceGT, Int.reduceEq, hb, A2, A5, a0, a1, n2]; exact rfl))
  apply wpOps_call
  · first | rfl | (simp only [stepE, evVal, opd, upd, setO, argsE, List.getD, binE, binInt, binStr, unE, wantedE, w0, w1, w2, Nat.reduceEqDiff, ↓reduceIte, Nat.reduceAdd, reduceCtorEq, eq_self, decide_true, decide_false, Bool.false_eq_true, Int.reduceBEq, Int.reduceBNe, Int.reduceLT, Int.reduceLE, Int.reduceGE, Int.reduceGT, Int.reduceEq]; exact rfl)
  · (try simp only [stepE, evVal, opd, upd, setO, argsE, List.getD, binE, binInt, binStr, unE, wantedE, w0, w1, w2, Nat.reduceEqDiff, ↓reduceIte, Nat.reduceAdd, reduceCtorEq, eq_self, decide_true, decide_false, Bool.false_eq_true, Int.reduceBEq, Int.reduceBNe, Int.reduceLT, Int.reduceLE, Int.reduceGE, Int.reduceGT, Int.reduceEq]); exact (c5 N _ _ x x hX hX)
  simp only [stepE, evVal, opd, upd, setO, argsE, List.getD, binE, binInt, binStr, unE, wantedE, w0, w1, w2, Nat.reduceEqDiff, ↓reduceIte, Nat.reduceAdd, reduceCtorEq, eq_self, decide_true, decide_false, Bool.false_eq_true, Int.reduceBEq, Int.reduceBNe, Int.reduceLT, Int.reduceLE, Int.reduceGE, Int.reduceGT, Int.reduceEq]
  repeat (first
    | (refine wpOps_plain rfl ?_
       simp only [stepE, evVal, opd, upd, setO, argsE, List.getD, binE, binInt, binStr, unE, wantedE, w0, w1, w2, Nat.reduceEqDiff, ↓reduceIte, Nat.reduceAdd, reduceCtorEq, eq_self, decide_true, decide_false, Bool.false_eq_true, Int.reduceBEq, Int.reduceBNe, Int.reduceLT, Int.reduceLE, Int.reduceGE, Int.reduceGT, Int.reduceEq])
    | (apply wpOps_on
       · simp only [wantedE, upd, setO, w0, w1, ↓reduceIte, Nat.reduceEqDiff, reduceCtorEq, Bool.false_eq_true, Int.reduceBEq, eq_self, decide_true, decide_false])
    | (apply wpOps_off
       · simp only [wantedE, upd, setO, w0, w1, ↓reduceIte, Nat.reduceEqDiff, reduceCtorEq, Bool.false_eq_true, Int.reduceBEq, eq_self, decide_true, decide_false]
       try dsimp only)
    | (apply wpOps_if
       · rfl
       · simp only [stepE, evVal, opd, upd, setO, argsE, List.getD, binE, binInt, binStr, unE, wantedE, w0, w1, w2, Nat.reduceEqDiff, ↓reduceIte, Nat.reduceAdd, reduceCtorEq, eq_self, decide_true, decide_false, Bool.false_eq_true, Int.reduceBEq, Int.reduceBNe, Int.reduceLT, Int.reduceLE, Int.reduceGE, Int.reduceGT, Int.reduceEq]; exact rfl
       · intro hb; simp only [stepE, evVal, opd, upd, setO, argsE, List.getD, binE, binInt, binStr, unE, wantedE, w0, w1, w2, Nat.reduceEqDiff, ↓reduceIte, Nat.reduceAdd, reduceCtorEq, eq_self, decide_true, decide_false, Bool.false_eq_true, Int.reduceBEq, Int.reduceBNe, Int.reduceLT, Int.reduceLE, Int.reduceGE, Int.reduceGT, Int.reduceEq, hb]; exact rfl))
  refine wpOps_nil (wpC_ret (post_ret ?_ low rfl))
  simp [F3, resultsE, resE, upd]
end
end Go.Proofs.YtjomofcdanpdgadGreatDoor.recordUnlike
