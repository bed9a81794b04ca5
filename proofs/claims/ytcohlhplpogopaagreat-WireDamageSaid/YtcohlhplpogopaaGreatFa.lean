/-
  the functions as compact code, the first part. (No statement of the seat is proved here.)
-/
import Derived.Test.YtcohlhplpogopaaGreatGg
set_option linter.unusedSimpArgs false
set_option linter.unusedVariables false
set_option maxRecDepth 100000
namespace Go.Proofs.YtcohlhplpogopaaGreat
namespace A
def f4 : F := ⟨123, [.tmp 6], none, .seq (.reg [⟨some 3,.box (.t 0),none⟩,
 ⟨some 4,.box (.t 1),none⟩,
 ⟨some 6,.mov (.c (.lit (.bool false))),none⟩])
 (.seq (.seq (.reg [⟨some 21,.load (some 3) (.t 3),none⟩,
 ⟨some 22,.call (.c (.fn (.func 15) [] [])) [(.t 21)],none⟩,
 ⟨some 23,.mov (.t 22),none⟩,
 ⟨some 24,.fieldA 1 (.t 4), (some (23, false))⟩,
 ⟨some 25,.load none (.t 24), (some (23, false))⟩,
 ⟨some 26,.call (.c (.fn (.func 16) [] [])) [(.t 25)], (some (23, false))⟩,
 ⟨some 27,.pick (.t 23) (.c (.lit (.bool true))) (.t 26),none⟩,
 ⟨some 28,.mov (.t 27),none⟩,
 ⟨some 29,.mov (.t 2), (some (28, false))⟩,
 ⟨some 30,.len .str (.t 29), (some (28, false))⟩,
 ⟨some 31,.ar .gtr (.t 30) (.c (.lit (.int .i64 90000))), (some (28, false))⟩,
 ⟨some 32,.pick (.t 28) (.c (.lit (.bool true))) (.t 31),none⟩])
 (.cond (.t 32)
 (.seq (.reg [⟨some 33,.call (.c (.fn (.func 9) [] [])) [],none⟩,
 ⟨some 6,.mov (.t 33),none⟩])
 (.ret))
 (.skip)))
 (.seq (.reg [⟨some 35,.load (some 3) (.t 3),none⟩,
 ⟨some 36,.call (.c (.fn (.func 17) [] [])) [(.t 35)],none⟩,
 ⟨some 34,.mov (.t 36),none⟩,
 ⟨some 37,.ext (.t 34) 0,none⟩,
 ⟨some 38,.ext (.t 34) 1,none⟩,
 ⟨some 7,.mov (.t 37),none⟩,
 ⟨some 8,.mov (.t 38),none⟩])
 (.seq (.reg [⟨some 40,.load (some 2) (.t 4),none⟩,
 ⟨some 41,.call (.c (.fn (.func 18) [] [])) [(.t 40)],none⟩,
 ⟨some 39,.mov (.t 41),none⟩,
 ⟨some 42,.ext (.t 39) 0,none⟩,
 ⟨some 43,.ext (.t 39) 1,none⟩,
 ⟨some 9,.mov (.t 42),none⟩,
 ⟨some 10,.mov (.t 43),none⟩])
 (.seq (.seq (.reg [⟨some 44,.mov (.t 2),none⟩,
 ⟨some 45,.mov (.t 7),none⟩,
 ⟨some 46,.mov (.t 9),none⟩,
 ⟨some 47,.lits 1 3 [.lit (.string ⟨#[]⟩), .lit (.string ⟨#[]⟩), .lit (.string ⟨#[]⟩)] [(0, 1, (.t 44)), (1, 1, (.t 45)), (2, 1, (.t 46))],none⟩,
 ⟨some 48,.len .slc (.t 47),none⟩,
 ⟨some 49,.mov (.c (.lit (.int .i64 0))),none⟩])
 (.block 0 (.loop (.seq (.reg [⟨some 50,.ar .lss (.t 49) (.t 48),none⟩])
 (.seq (.cond (.t 50)
 (.skip)
 (.exit 0))
 (.seq (.block 1 (.seq (.reg [⟨some 51,.idxA 1 (.t 47) (.t 49),none⟩,
 ⟨some 52,.load none (.t 51),none⟩,
 ⟨some 12,.mov (.t 52),none⟩])
 (.seq (.reg [⟨some 54,.mov (.t 12),none⟩,
 ⟨some 55,.call (.c (.fn (.func 19) [] [])) [(.t 54)],none⟩,
 ⟨some 53,.mov (.t 55),none⟩,
 ⟨some 56,.ext (.t 53) 0,none⟩,
 ⟨some 57,.ext (.t 53) 1,none⟩,
 ⟨some 13,.alloc [.lit (.slice none 0 0), .lit (.slice none 0 0), .lit (.slice none 0 0)],none⟩,
 ⟨none, .store 3 (.t 13) (.t 56),none⟩,
 ⟨some 14,.mov (.t 57),none⟩])
 (.seq (.reg [⟨some 59,.mov (.t 12),none⟩,
 ⟨some 60,.call (.c (.fn (.func 20) [] [])) [(.t 59)],none⟩,
 ⟨some 58,.mov (.t 60),none⟩,
 ⟨some 61,.ext (.t 58) 0,none⟩,
 ⟨some 62,.ext (.t 58) 1,none⟩,
 ⟨some 15,.alloc [.lit (.int .i64 0), .lit (.slice none 0 0)],none⟩,
 ⟨none, .store 2 (.t 15) (.t 61),none⟩,
 ⟨some 16,.mov (.t 62),none⟩])
 (.seq (.seq (.reg [⟨some 63,.mov (.t 14),none⟩,
 ⟨some 64,.ar .eql (.t 63) (.c (.lit (.int .i64 0))),none⟩,
 ⟨some 65,.mov (.t 64),none⟩,
 ⟨some 66,.mov (.t 16), (some (65, true))⟩,
 ⟨some 67,.ar .eql (.t 66) (.c (.lit (.int .i64 0))), (some (65, true))⟩,
 ⟨some 68,.pick (.t 65) (.t 67) (.c (.lit (.bool false))),none⟩])
 (.cond (.t 68)
 (.seq (.reg [⟨some 6,.mov (.c (.lit (.bool false))),none⟩])
 (.ret))
 (.skip)))
 (.seq (.seq (.reg [⟨some 69,.mov (.t 14),none⟩,
 ⟨some 70,.ar .eql (.t 69) (.c (.lit (.int .i64 0))),none⟩])
 (.cond (.t 70)
 (.seq (.reg [⟨some 72,.load (some 3) (.t 13),none⟩,
 ⟨some 73,.call (.c (.fn (.func 17) [] [])) [(.t 72)],none⟩,
 ⟨some 71,.mov (.t 73),none⟩,
 ⟨some 74,.ext (.t 71) 0,none⟩,
 ⟨some 75,.ext (.t 71) 1,none⟩,
 ⟨some 17,.mov (.t 74),none⟩,
 ⟨some 18,.mov (.t 75),none⟩])
 (.seq (.reg [⟨some 76,.mov (.t 18),none⟩,
 ⟨some 77,.ar .neq (.t 76) (.c (.lit (.int .i64 0))),none⟩,
 ⟨some 78,.mov (.t 77),none⟩,
 ⟨some 79,.mov (.t 17), (some (78, false))⟩,
 ⟨some 80,.mov (.t 12), (some (78, false))⟩,
 ⟨some 81,.ar .neq (.t 79) (.t 80), (some (78, false))⟩,
 ⟨some 82,.pick (.t 78) (.c (.lit (.bool true))) (.t 81),none⟩])
 (.cond (.t 82)
 (.seq (.reg [⟨some 6,.mov (.c (.lit (.bool false))),none⟩])
 (.ret))
 (.skip))))
 (.skip)))
 (.seq (.seq (.reg [⟨some 83,.mov (.t 16),none⟩,
 ⟨some 84,.ar .eql (.t 83) (.c (.lit (.int .i64 0))),none⟩])
 (.cond (.t 84)
 (.seq (.reg [⟨some 86,.load (some 2) (.t 15),none⟩,
 ⟨some 87,.call (.c (.fn (.func 18) [] [])) [(.t 86)],none⟩,
 ⟨some 85,.mov (.t 87),none⟩,
 ⟨some 88,.ext (.t 85) 0,none⟩,
 ⟨some 89,.ext (.t 85) 1,none⟩,
 ⟨some 19,.mov (.t 88),none⟩,
 ⟨some 20,.mov (.t 89),none⟩])
 (.seq (.reg [⟨some 90,.mov (.t 20),none⟩,
 ⟨some 91,.ar .neq (.t 90) (.c (.lit (.int .i64 0))),none⟩,
 ⟨some 92,.mov (.t 91),none⟩,
 ⟨some 93,.mov (.t 19), (some (92, false))⟩,
 ⟨some 94,.mov (.t 12), (some (92, false))⟩,
 ⟨some 95,.ar .neq (.t 93) (.t 94), (some (92, false))⟩,
 ⟨some 96,.pick (.t 92) (.c (.lit (.bool true))) (.t 95),none⟩])
 (.cond (.t 96)
 (.seq (.reg [⟨some 6,.mov (.c (.lit (.bool false))),none⟩])
 (.ret))
 (.skip))))
 (.skip)))
 (.seq (.reg [⟨some 97,.mov (.t 8),none⟩,
 ⟨some 98,.ar .eql (.t 97) (.c (.lit (.int .i64 0))),none⟩,
 ⟨some 99,.mov (.t 98),none⟩,
 ⟨some 100,.mov (.t 12), (some (99, true))⟩,
 ⟨some 101,.mov (.t 7), (some (99, true))⟩,
 ⟨some 102,.ar .eql (.t 100) (.t 101), (some (99, true))⟩,
 ⟨some 103,.pick (.t 99) (.t 102) (.c (.lit (.bool false))),none⟩,
 ⟨some 104,.mov (.t 103),none⟩,
 ⟨some 105,.mov (.t 14), (some (104, true))⟩,
 ⟨some 106,.ar .neq (.t 105) (.c (.lit (.int .i64 0))), (some (104, true))⟩,
 ⟨some 107,.pick (.t 104) (.t 106) (.c (.lit (.bool false))),none⟩,
 ⟨some 108,.mov (.t 107),none⟩,
 ⟨some 109,.mov (.t 10), (some (108, false))⟩,
 ⟨some 110,.ar .eql (.t 109) (.c (.lit (.int .i64 0))), (some (108, false))⟩,
 ⟨some 111,.mov (.t 110), (some (108, false))⟩,
 ⟨some 112,.mov (.t 12), (some (111, true))⟩,
 ⟨some 113,.mov (.t 9), (some (111, true))⟩,
 ⟨some 114,.ar .eql (.t 112) (.t 113), (some (111, true))⟩,
 ⟨some 115,.pick (.t 111) (.t 114) (.c (.lit (.bool false))), (some (108, false))⟩,
 ⟨some 116,.mov (.t 115), (some (108, false))⟩,
 ⟨some 117,.mov (.t 16), (some (116, true))⟩,
 ⟨some 118,.ar .neq (.t 117) (.c (.lit (.int .i64 0))), (some (116, true))⟩,
 ⟨some 119,.pick (.t 116) (.t 118) (.c (.lit (.bool false))), (some (108, false))⟩,
 ⟨some 120,.pick (.t 108) (.c (.lit (.bool true))) (.t 119),none⟩])
 (.cond (.t 120)
 (.seq (.reg [⟨some 6,.mov (.c (.lit (.bool false))),none⟩])
 (.ret))
 (.skip))))))))))
 (.reg [⟨some 121,.ar .add (.t 49) (.c (.lit (.int .i64 1))),none⟩,
 ⟨some 49,.mov (.t 121),none⟩])))))))
 (.seq (.reg [⟨some 122,.call (.c (.fn (.func 9) [] [])) [],none⟩,
 ⟨some 6,.mov (.t 122),none⟩])
 (.ret))))))⟩
def f5 : F := ⟨157, [.tmp 8], none, .seq (.reg [⟨some 4,.box (.t 0),none⟩,
 ⟨some 5,.box (.t 1),none⟩,
 ⟨some 8,.mov (.c (.lit (.bool false))),none⟩])
 (.seq (.seq (.reg [⟨some 24,.load (some 3) (.t 4),none⟩,
 ⟨some 25,.call (.c (.fn (.func 15) [] [])) [(.t 24)],none⟩,
 ⟨some 26,.mov (.t 25),none⟩,
 ⟨some 27,.fieldA 1 (.t 5), (some (26, false))⟩,
 ⟨some 28,.load none (.t 27), (some (26, false))⟩,
 ⟨some 29,.call (.c (.fn (.func 16) [] [])) [(.t 28)], (some (26, false))⟩,
 ⟨some 30,.pick (.t 26) (.c (.lit (.bool true))) (.t 29),none⟩,
 ⟨some 31,.mov (.t 30),none⟩,
 ⟨some 32,.mov (.t 3), (some (31, false))⟩,
 ⟨some 33,.ar .eql (.t 32) (.c (.lit (.int .u16 0))), (some (31, false))⟩,
 ⟨some 34,.pick (.t 31) (.c (.lit (.bool true))) (.t 33),none⟩])
 (.cond (.t 34)
 (.seq (.reg [⟨some 35,.call (.c (.fn (.func 9) [] [])) [],none⟩,
 ⟨some 8,.mov (.t 35),none⟩])
 (.ret))
 (.skip)))
 (.seq (.reg [⟨some 37,.load (some 3) (.t 4),none⟩,
 ⟨some 38,.call (.c (.fn (.func 17) [] [])) [(.t 37)],none⟩,
 ⟨some 36,.mov (.t 38),none⟩,
 ⟨some 39,.ext (.t 36) 0,none⟩,
 ⟨some 40,.ext (.t 36) 1,none⟩,
 ⟨some 9,.mov (.t 39),none⟩,
 ⟨some 10,.mov (.t 40),none⟩])
 (.seq (.reg [⟨some 42,.load (some 2) (.t 5),none⟩,
 ⟨some 43,.call (.c (.fn (.func 18) [] [])) [(.t 42)],none⟩,
 ⟨some 41,.mov (.t 43),none⟩,
 ⟨some 44,.ext (.t 41) 0,none⟩,
 ⟨some 45,.ext (.t 41) 1,none⟩,
 ⟨some 11,.mov (.t 44),none⟩,
 ⟨some 12,.mov (.t 45),none⟩])
 (.seq (.seq (.reg [⟨some 46,.mov (.t 9),none⟩,
 ⟨some 47,.mov (.t 11),none⟩,
 ⟨some 48,.lits 1 2 [.lit (.string ⟨#[]⟩), .lit (.string ⟨#[]⟩)] [(0, 1, (.t 46)), (1, 1, (.t 47))],none⟩,
 ⟨some 49,.len .slc (.t 48),none⟩,
 ⟨some 50,.mov (.c (.lit (.int .i64 0))),none⟩])
 (.block 0 (.loop (.seq (.reg [⟨some 51,.ar .lss (.t 50) (.t 49),none⟩])
 (.seq (.cond (.t 51)
 (.skip)
 (.exit 0))
 (.seq (.block 1 (.seq (.reg [⟨some 52,.mov (.t 50),none⟩,
 ⟨some 53,.idxA 1 (.t 48) (.t 50),none⟩,
 ⟨some 54,.load none (.t 53),none⟩,
 ⟨some 13,.mov (.t 52),none⟩,
 ⟨some 14,.mov (.t 54),none⟩])
 (.seq (.seq (.reg [⟨some 55,.mov (.t 13),none⟩,
 ⟨some 56,.ar .eql (.t 55) (.c (.lit (.int .i64 0))),none⟩,
 ⟨some 57,.mov (.t 56),none⟩,
 ⟨some 58,.mov (.t 10), (some (57, true))⟩,
 ⟨some 59,.ar .neq (.t 58) (.c (.lit (.int .i64 0))), (some (57, true))⟩,
 ⟨some 60,.pick (.t 57) (.t 59) (.c (.lit (.bool false))),none⟩,
 ⟨some 61,.mov (.t 60),none⟩,
 ⟨some 62,.mov (.t 13), (some (61, false))⟩,
 ⟨some 63,.ar .eql (.t 62) (.c (.lit (.int .i64 1))), (some (61, false))⟩,
 ⟨some 64,.mov (.t 63), (some (61, false))⟩,
 ⟨some 65,.mov (.t 12), (some (64, true))⟩,
 ⟨some 66,.ar .neq (.t 65) (.c (.lit (.int .i64 0))), (some (64, true))⟩,
 ⟨some 67,.pick (.t 64) (.t 66) (.c (.lit (.bool false))), (some (61, false))⟩,
 ⟨some 68,.pick (.t 61) (.c (.lit (.bool true))) (.t 67),none⟩,
 ⟨some 69,.mov (.t 68),none⟩,
 ⟨some 70,.mov (.t 14), (some (69, false))⟩,
 ⟨some 71,.len .str (.t 70), (some (69, false))⟩,
 ⟨some 72,.ar .lss (.t 71) (.c (.lit (.int .i64 3))), (some (69, false))⟩,
 ⟨some 73,.pick (.t 69) (.c (.lit (.bool true))) (.t 72),none⟩])
 (.cond (.t 73)
 (.exit 1)
 (.skip)))
 (.seq (.reg [⟨some 74,.mov (.t 14),none⟩,
 ⟨some 75,.strb (.t 74),none⟩,
 ⟨some 15,.mov (.t 75),none⟩])
 (.seq (.regD [(.pure, ⟨some 76,.mov (.t 2),none⟩),
  (.pure, ⟨some 77,.conv .i64 (.t 76),none⟩),
  (.pure, ⟨some 78,.mov (.t 15),none⟩),
  (.read 0 0, ⟨some 79,.len .slc (.t 78),none⟩),
  (.pure, ⟨some 80,.ar .mul (.c (.lit (.int .i64 8))) (.t 79),none⟩),
  (.pure, ⟨some 81,.ar .sub (.t 80) (.c (.lit (.int .i64 15))),none⟩),
  (.pure, ⟨some 82,.ar .rem (.t 77) (.t 81),none⟩),
  (.pure, ⟨some 83,.ar .quo (.t 82) (.c (.lit (.int .i64 8))),none⟩),
  (.pure, ⟨some 84,.mov (.t 2),none⟩),
  (.pure, ⟨some 85,.conv .i64 (.t 84),none⟩),
  (.pure, ⟨some 86,.mov (.t 15),none⟩),
  (.read 0 0, ⟨some 87,.len .slc (.t 86),none⟩),
  (.pure, ⟨some 88,.ar .mul (.c (.lit (.int .i64 8))) (.t 87),none⟩),
  (.pure, ⟨some 89,.ar .sub (.t 88) (.c (.lit (.int .i64 15))),none⟩),
  (.pure, ⟨some 90,.ar .rem (.t 85) (.t 89),none⟩),
  (.pure, ⟨some 91,.ar .rem (.t 90) (.c (.lit (.int .i64 8))),none⟩),
  (.pure, ⟨some 16,.mov (.t 83),none⟩),
  (.pure, ⟨some 17,.mov (.t 91),none⟩)])
 (.seq (.seq (.regD [(.pure, ⟨some 92,.mov (.t 3),none⟩),
  (.pure, ⟨some 93,.conv .u32 (.t 92),none⟩),
  (.pure, ⟨some 94,.ar .shl (.t 93) (.c (.lit (.int .u64 8))),none⟩),
  (.pure, ⟨some 95,.mov (.t 17),none⟩),
  (.pure, ⟨some 96,.ar .shr (.t 94) (.t 95),none⟩),
  (.pure, ⟨some 97,.ar .shr (.t 96) (.c (.lit (.int .u64 16))),none⟩),
  (.pure, ⟨some 98,.conv .u8 (.t 97),none⟩),
  (.pure, ⟨some 99,.mov (.t 3),none⟩),
  (.pure, ⟨some 100,.conv .u32 (.t 99),none⟩),
  (.pure, ⟨some 101,.ar .shl (.t 100) (.c (.lit (.int .u64 8))),none⟩),
  (.pure, ⟨some 102,.mov (.t 17),none⟩),
  (.pure, ⟨some 103,.ar .shr (.t 101) (.t 102),none⟩),
  (.pure, ⟨some 104,.ar .shr (.t 103) (.c (.lit (.int .u64 8))),none⟩),
  (.pure, ⟨some 105,.conv .u8 (.t 104),none⟩),
  (.pure, ⟨some 106,.mov (.t 3),none⟩),
  (.pure, ⟨some 107,.conv .u32 (.t 106),none⟩),
  (.pure, ⟨some 108,.ar .shl (.t 107) (.c (.lit (.int .u64 8))),none⟩),
  (.pure, ⟨some 109,.mov (.t 17),none⟩),
  (.pure, ⟨some 110,.ar .shr (.t 108) (.t 109),none⟩),
  (.pure, ⟨some 111,.conv .u8 (.t 110),none⟩),
  (.made, ⟨some 112,.lits 1 3 [.lit (.int .u8 0), .lit (.int .u8 0), .lit (.int .u8 0)] [(0, 1, (.t 98)), (1, 1, (.t 105)), (2, 1, (.t 111))],none⟩),
  (.read 0 0, ⟨some 113,.len .slc (.t 112),none⟩),
  (.pure, ⟨some 114,.mov (.c (.lit (.int .i64 0))),none⟩)])
 (.block 2 (.loop (.seq (.reg [⟨some 115,.ar .lss (.t 114) (.t 113),none⟩])
 (.seq (.cond (.t 115)
 (.skip)
 (.exit 2))
 (.seq (.block 3 (.seq (.reg [⟨some 116,.mov (.t 114),none⟩,
 ⟨some 117,.idxA 1 (.t 112) (.t 114),none⟩,
 ⟨some 118,.load none (.t 117),none⟩,
 ⟨some 18,.mov (.t 116),none⟩,
 ⟨some 19,.mov (.t 118),none⟩])
 (.seq (.reg [⟨some 119,.mov (.t 16),none⟩,
 ⟨some 120,.mov (.t 18),none⟩,
 ⟨some 121,.ar .add (.t 119) (.t 120),none⟩,
 ⟨some 122,.mov (.t 15),none⟩,
 ⟨some 123,.len .slc (.t 122),none⟩,
 ⟨some 124,.ar .lss (.t 121) (.t 123),none⟩])
 (.cond (.t 124)
 (.reg [⟨some 125,.mov (.t 15),none⟩,
 ⟨some 126,.mov (.t 16),none⟩,
 ⟨some 127,.mov (.t 18),none⟩,
 ⟨some 128,.ar .add (.t 126) (.t 127),none⟩,
 ⟨some 129,.idxA 1 (.t 125) (.t 128),none⟩,
 ⟨some 130,.load none (.t 129),none⟩,
 ⟨some 131,.mov (.t 19),none⟩,
 ⟨some 132,.ar .xor (.t 130) (.t 131),none⟩,
 ⟨some 133,.idxA 1 (.t 125) (.t 128),none⟩,
 ⟨none, .store 1 (.t 133) (.t 132),none⟩])
 (.skip)))))
 (.reg [⟨some 134,.ar .add (.t 114) (.c (.lit (.int .i64 1))),none⟩,
 ⟨some 114,.mov (.t 134),none⟩])))))))
 (.seq (.seq (.reg [⟨some 135,.mov (.t 15),none⟩,
 ⟨some 136,.bstr (.t 135),none⟩,
 ⟨some 137,.mov (.t 14),none⟩,
 ⟨some 138,.ar .eql (.t 136) (.t 137),none⟩])
 (.cond (.t 138)
 (.exit 1)
 (.skip)))
 (.seq (.seq (.reg [⟨some 140,.mov (.t 15),none⟩,
 ⟨some 141,.bstr (.t 140),none⟩,
 ⟨some 142,.call (.c (.fn (.func 19) [] [])) [(.t 141)],none⟩,
 ⟨some 139,.mov (.t 142),none⟩,
 ⟨some 143,.ext (.t 139) 0,none⟩,
 ⟨some 144,.ext (.t 139) 1,none⟩,
 ⟨some 20,.alloc [.lit (.slice none 0 0), .lit (.slice none 0 0), .lit (.slice none 0 0)],none⟩,
 ⟨none, .store 3 (.t 20) (.t 143),none⟩,
 ⟨some 21,.mov (.t 144),none⟩])
 (.seq (.reg [⟨some 145,.mov (.t 21),none⟩,
 ⟨some 146,.ar .neq (.t 145) (.c (.lit (.int .i64 4))),none⟩])
 (.cond (.t 146)
 (.seq (.reg [⟨some 8,.mov (.c (.lit (.bool false))),none⟩])
 (.ret))
 (.skip))))
 (.seq (.reg [⟨some 148,.mov (.t 15),none⟩,
 ⟨some 149,.bstr (.t 148),none⟩,
 ⟨some 150,.call (.c (.fn (.func 20) [] [])) [(.t 149)],none⟩,
 ⟨some 147,.mov (.t 150),none⟩,
 ⟨some 151,.ext (.t 147) 0,none⟩,
 ⟨some 152,.ext (.t 147) 1,none⟩,
 ⟨some 22,.alloc [.lit (.int .i64 0), .lit (.slice none 0 0)],none⟩,
 ⟨none, .store 2 (.t 22) (.t 151),none⟩,
 ⟨some 23,.mov (.t 152),none⟩])
 (.seq (.reg [⟨some 153,.mov (.t 23),none⟩,
 ⟨some 154,.ar .neq (.t 153) (.c (.lit (.int .i64 4))),none⟩])
 (.cond (.t 154)
 (.seq (.reg [⟨some 8,.mov (.c (.lit (.bool false))),none⟩])
 (.ret))
 (.skip))))))))))))
 (.reg [⟨some 155,.ar .add (.t 50) (.c (.lit (.int .i64 1))),none⟩,
 ⟨some 50,.mov (.t 155),none⟩])))))))
 (.seq (.reg [⟨some 156,.call (.c (.fn (.func 9) [] [])) [],none⟩,
 ⟨some 8,.mov (.t 156),none⟩])
 (.ret))))))⟩
def f6 : F := ⟨143, [.tmp 4], none, .seq (.reg [⟨some 2,.box (.t 0),none⟩,
 ⟨some 4,.mov (.c (.lit (.bool false))),none⟩])
 (.seq (.seq (.reg [⟨some 23,.load (some 3) (.t 2),none⟩,
 ⟨some 24,.call (.c (.fn (.func 15) [] [])) [(.t 23)],none⟩,
 ⟨some 25,.mov (.t 24),none⟩,
 ⟨some 26,.mov (.t 1), (some (25, false))⟩,
 ⟨some 27,.len .slc (.t 26), (some (25, false))⟩,
 ⟨some 28,.ar .gtr (.t 27) (.c (.lit (.int .i64 100))), (some (25, false))⟩,
 ⟨some 29,.pick (.t 25) (.c (.lit (.bool true))) (.t 28),none⟩])
 (.cond (.t 29)
 (.seq (.reg [⟨some 30,.call (.c (.fn (.func 9) [] [])) [],none⟩,
 ⟨some 4,.mov (.t 30),none⟩])
 (.ret))
 (.skip)))
 (.seq (.reg [⟨some 32,.load (some 3) (.t 2),none⟩,
 ⟨some 33,.call (.c (.fn (.func 17) [] [])) [(.t 32)],none⟩,
 ⟨some 31,.mov (.t 33),none⟩,
 ⟨some 34,.ext (.t 31) 0,none⟩,
 ⟨some 35,.ext (.t 31) 1,none⟩,
 ⟨some 5,.mov (.t 34),none⟩,
 ⟨some 6,.mov (.t 35),none⟩])
 (.seq (.seq (.reg [⟨some 36,.mov (.t 6),none⟩,
 ⟨some 37,.ar .neq (.t 36) (.c (.lit (.int .i64 0))),none⟩])
 (.cond (.t 37)
 (.seq (.reg [⟨some 38,.call (.c (.fn (.func 9) [] [])) [],none⟩,
 ⟨some 4,.mov (.t 38),none⟩])
 (.ret))
 (.skip)))
 (.seq (.reg [⟨some 40,.mov (.t 5),none⟩,
 ⟨some 41,.call (.c (.fn (.func 21) [] [])) [(.t 40)],none⟩,
 ⟨some 39,.mov (.t 41),none⟩,
 ⟨some 42,.ext (.t 39) 0,none⟩,
 ⟨some 43,.ext (.t 39) 1,none⟩,
 ⟨some 7,.mov (.t 42),none⟩,
 ⟨some 6,.mov (.t 43),none⟩])
 (.seq (.reg [⟨some 45,.mov (.t 5),none⟩,
 ⟨some 46,.mov (.t 1),none⟩,
 ⟨some 47,.call (.c (.fn (.func 22) [] [])) [(.t 45), (.t 46)],none⟩,
 ⟨some 44,.mov (.t 47),none⟩,
 ⟨some 48,.ext (.t 44) 0,none⟩,
 ⟨some 49,.ext (.t 44) 1,none⟩,
 ⟨some 8,.mov (.t 48),none⟩,
 ⟨some 9,.mov (.t 49),none⟩])
 (.seq (.seq (.reg [⟨some 50,.mov (.t 6),none⟩,
 ⟨some 51,.ar .neq (.t 50) (.c (.lit (.int .i64 0))),none⟩])
 (.cond (.t 51)
 (.seq (.reg [⟨some 4,.mov (.c (.lit (.bool false))),none⟩])
 (.ret))
 (.skip)))
 (.seq (.seq (.reg [⟨some 52,.mov (.t 7),none⟩,
 ⟨some 53,.len .slc (.t 52),none⟩,
 ⟨some 54,.mov (.c (.lit (.int .i64 0))),none⟩])
 (.block 0 (.loop (.seq (.reg [⟨some 55,.ar .lss (.t 54) (.t 53),none⟩])
 (.seq (.cond (.t 55)
 (.skip)
 (.exit 0))
 (.seq (.block 1 (.seq (.reg [⟨some 56,.mov (.t 54),none⟩,
 ⟨some 57,.idxA 2 (.t 52) (.t 54),none⟩,
 ⟨some 58,.load (some 2) (.t 57),none⟩,
 ⟨some 11,.alloc [.lit (.int .i64 0), .lit (.int .i64 0)],none⟩,
 ⟨some 10,.mov (.t 56),none⟩,
 ⟨none, .store 2 (.t 11) (.t 58),none⟩])
 (.seq (.regD [(.read 0 0, ⟨some 59,.fieldA 0 (.t 11),none⟩),
  (.read 0 0, ⟨some 60,.load none (.t 59),none⟩),
  (.pure, ⟨some 61,.ar .eql (.t 60) (.c (.lit (.int .i64 1))),none⟩),
  (.pure, ⟨some 62,.mov (.t 61),none⟩),
  (.pure, ⟨some 63,.mov (.t 7), (some (62, false))⟩),
  (.pure, ⟨some 64,.mov (.t 10), (some (62, false))⟩),
  (.read 0 0, ⟨some 65,.slice 2 (.t 63) none (some (.t 64)), (some (62, false))⟩),
  (.read 0 0, ⟨some 66,.load (some 2) (.t 11), (some (62, false))⟩),
  (.loud true [], ⟨some 67,.call (.c (.fn (.func 23) [] [])) [(.t 65), (.t 66)], (some (62, false))⟩),
  (.pure, ⟨some 68,.pick (.t 62) (.c (.lit (.bool true))) (.t 67),none⟩)])
 (.cond (.t 68)
 (.seq (.reg [⟨some 4,.mov (.c (.lit (.bool false))),none⟩])
 (.ret))
 (.skip)))))
 (.reg [⟨some 69,.ar .add (.t 54) (.c (.lit (.int .i64 1))),none⟩,
 ⟨some 54,.mov (.t 69),none⟩])))))))
 (.seq (.seq (.reg [⟨some 70,.mov (.t 9),none⟩,
 ⟨some 71,.ar .neq (.t 70) (.c (.lit (.int .i64 0))),none⟩])
 (.cond (.t 71)
 (.seq (.reg [⟨some 72,.call (.c (.fn (.func 9) [] [])) [],none⟩,
 ⟨some 4,.mov (.t 72),none⟩])
 (.ret))
 (.skip)))
 (.seq (.reg [⟨some 74,.mov (.t 8),none⟩,
 ⟨some 75,.call (.c (.fn (.func 19) [] [])) [(.t 74)],none⟩,
 ⟨some 73,.mov (.t 75),none⟩,
 ⟨some 76,.ext (.t 73) 0,none⟩,
 ⟨some 77,.ext (.t 73) 1,none⟩,
 ⟨some 12,.alloc [.lit (.slice none 0 0), .lit (.slice none 0 0), .lit (.slice none 0 0)],none⟩,
 ⟨none, .store 3 (.t 12) (.t 76),none⟩,
 ⟨some 13,.mov (.t 77),none⟩])
 (.seq (.reg [⟨some 79,.load (some 3) (.t 2),none⟩,
 ⟨some 80,.mov (.t 1),none⟩,
 ⟨some 81,.call (.c (.fn (.func 24) [] [])) [(.t 79), (.t 80)],none⟩,
 ⟨some 82,.call (.c (.fn (.func 17) [] [])) [(.t 81)],none⟩,
 ⟨some 78,.mov (.t 82),none⟩,
 ⟨some 83,.ext (.t 78) 0,none⟩,
 ⟨some 84,.ext (.t 78) 1,none⟩,
 ⟨some 14,.mov (.t 83),none⟩,
 ⟨some 15,.mov (.t 84),none⟩])
 (.seq (.seq (.reg [⟨some 85,.mov (.t 13),none⟩,
 ⟨some 86,.ar .neq (.t 85) (.c (.lit (.int .i64 0))),none⟩,
 ⟨some 87,.mov (.t 86),none⟩,
 ⟨some 88,.mov (.t 15), (some (87, false))⟩,
 ⟨some 89,.ar .neq (.t 88) (.c (.lit (.int .i64 0))), (some (87, false))⟩,
 ⟨some 90,.pick (.t 87) (.c (.lit (.bool true))) (.t 89),none⟩,
 ⟨some 91,.mov (.t 90),none⟩,
 ⟨some 92,.mov (.t 8), (some (91, false))⟩,
 ⟨some 93,.mov (.t 14), (some (91, false))⟩,
 ⟨some 94,.ar .neq (.t 92) (.t 93), (some (91, false))⟩,
 ⟨some 95,.pick (.t 91) (.c (.lit (.bool true))) (.t 94),none⟩])
 (.cond (.t 95)
 (.seq (.reg [⟨some 4,.mov (.c (.lit (.bool false))),none⟩])
 (.ret))
 (.skip)))
 (.seq (.seq (.reg [⟨some 97,.load (some 3) (.t 12),none⟩,
 ⟨some 98,.call (.c (.fn (.func 17) [] [])) [(.t 97)],none⟩,
 ⟨some 96,.mov (.t 98),none⟩,
 ⟨some 99,.ext (.t 96) 0,none⟩,
 ⟨some 100,.ext (.t 96) 1,none⟩,
 ⟨some 16,.mov (.t 99),none⟩,
 ⟨some 17,.mov (.t 100),none⟩])
 (.seq (.reg [⟨some 101,.mov (.t 17),none⟩,
 ⟨some 102,.ar .neq (.t 101) (.c (.lit (.int .i64 0))),none⟩,
 ⟨some 103,.mov (.t 102),none⟩,
 ⟨some 104,.mov (.t 16), (some (103, false))⟩,
 ⟨some 105,.mov (.t 8), (some (103, false))⟩,
 ⟨some 106,.ar .neq (.t 104) (.t 105), (some (103, false))⟩,
 ⟨some 107,.pick (.t 103) (.c (.lit (.bool true))) (.t 106),none⟩])
 (.cond (.t 107)
 (.seq (.reg [⟨some 4,.mov (.c (.lit (.bool false))),none⟩])
 (.ret))
 (.skip))))
 (.seq (.reg [⟨some 18,.mov (.c (.lit (.slice none 0 0))),none⟩])
 (.seq (.seq (.reg [⟨some 108,.mov (.t 7),none⟩,
 ⟨some 109,.len .slc (.t 108),none⟩,
 ⟨some 110,.mov (.c (.lit (.int .i64 0))),none⟩])
 (.block 2 (.loop (.seq (.reg [⟨some 111,.ar .lss (.t 110) (.t 109),none⟩])
 (.seq (.cond (.t 111)
 (.skip)
 (.exit 2))
 (.seq (.block 3 (.seq (.reg [⟨some 112,.idxA 2 (.t 108) (.t 110),none⟩,
 ⟨some 113,.load (some 2) (.t 112),none⟩,
 ⟨some 20,.alloc [.lit (.int .i64 0), .lit (.int .i64 0)],none⟩,
 ⟨none, .store 2 (.t 20) (.t 113),none⟩])
 (.seq (.reg [⟨some 114,.load (some 2) (.t 20),none⟩,
 ⟨some 115,.mov (.t 1),none⟩,
 ⟨some 116,.call (.c (.fn (.func 25) [] [])) [(.t 114), (.t 115)],none⟩,
 ⟨some 21,.alloc [.lit (.int .i64 0), .lit (.int .i64 0)],none⟩,
 ⟨none, .store 2 (.t 21) (.t 116),none⟩])
 (.seq (.reg [⟨some 117,.load (some 2) (.t 21),none⟩,
 ⟨some 118,.load (some 2) (.t 20),none⟩,
 ⟨some 119,.eqA true [.int .i64, .int .i64] (.t 117) (.t 118),none⟩])
 (.cond (.t 119)
 (.reg [⟨some 120,.mov (.t 18),none⟩,
 ⟨some 121,.load (some 2) (.t 21),none⟩,
 ⟨some 122,.load (some 2) (.t 20),none⟩,
 ⟨some 123,.build [.lit (.int .i64 0), .lit (.int .i64 0), .lit (.int .i64 0), .lit (.int .i64 0)] [(0, 2, (.t 121)), (2, 2, (.t 122))],none⟩,
 ⟨some 124,.lits 4 1 [.lit (.int .i64 0), .lit (.int .i64 0), .lit (.int .i64 0), .lit (.int .i64 0)] [(0, 4, (.t 123))],none⟩,
 ⟨some 125,.app 4 32 (.t 120) (.t 124),none⟩,
 ⟨some 18,.mov (.t 125),none⟩])
 (.skip))))))
 (.reg [⟨some 126,.ar .add (.t 110) (.c (.lit (.int .i64 1))),none⟩,
 ⟨some 110,.mov (.t 126),none⟩])))))))
 (.seq (.reg [⟨some 128,.mov (.t 8),none⟩,
 ⟨some 129,.mov (.t 18),none⟩,
 ⟨some 130,.call (.c (.fn (.func 22) [] [])) [(.t 128), (.t 129)],none⟩,
 ⟨some 127,.mov (.t 130),none⟩,
 ⟨some 131,.ext (.t 127) 0,none⟩,
 ⟨some 132,.ext (.t 127) 1,none⟩,
 ⟨some 22,.mov (.t 131),none⟩,
 ⟨some 6,.mov (.t 132),none⟩])
 (.seq (.reg [⟨some 133,.mov (.t 6),none⟩,
 ⟨some 134,.ar .eql (.t 133) (.c (.lit (.int .i64 0))),none⟩,
 ⟨some 135,.mov (.t 134),none⟩,
 ⟨some 136,.mov (.t 22), (some (135, true))⟩,
 ⟨some 137,.mov (.t 5), (some (135, true))⟩,
 ⟨some 138,.ar .eql (.t 136) (.t 137), (some (135, true))⟩,
 ⟨some 139,.pick (.t 135) (.t 138) (.c (.lit (.bool false))),none⟩,
 ⟨some 140,.mov (.t 139),none⟩,
 ⟨some 141,.call (.c (.fn (.func 9) [] [])) [], (some (140, true))⟩,
 ⟨some 142,.pick (.t 140) (.t 141) (.c (.lit (.bool false))),none⟩,
 ⟨some 4,.mov (.t 142),none⟩])
 (.ret)))))))))))))))))⟩
def f9 : F := ⟨158, [.tmp 0], none, .seq (.reg [⟨some 0,.mov (.c (.lit (.bool false))),none⟩])
 (.seq (.reg [⟨some 22,.call (.c (.fn (.func 36) [] [])) [],none⟩,
 ⟨some 1,.alloc [.lit (.slice none 0 0), .lit (.slice none 0 0), .lit (.slice none 0 0), .lit (.int .i64 0)],none⟩,
 ⟨none, .store 4 (.t 1) (.t 22),none⟩])
 (.seq (.reg [⟨some 24,.load (some 4) (.t 1),none⟩,
 ⟨some 25,.call (.c (.fn (.func 37) [] [])) [(.t 24)],none⟩,
 ⟨some 23,.mov (.t 25),none⟩,
 ⟨some 26,.ext (.t 23) 0,none⟩,
 ⟨some 27,.ext (.t 23) 1,none⟩,
 ⟨some 28,.ext (.t 23) 2,none⟩,
 ⟨some 2,.alloc [.lit (.slice none 0 0), .lit (.slice none 0 0), .lit (.slice none 0 0), .lit (.slice none 0 0)],none⟩,
 ⟨none, .store 4 (.t 2) (.t 26),none⟩,
 ⟨some 3,.mov (.t 27),none⟩,
 ⟨some 4,.mov (.t 28),none⟩])
 (.seq (.reg [⟨some 30,.load (some 4) (.t 1),none⟩,
 ⟨some 31,.load (some 4) (.t 2),none⟩,
 ⟨some 32,.call (.c (.fn (.func 11) [] [])) [(.t 30), (.t 31), (.c (.lit (.int .i64 1)))],none⟩,
 ⟨some 29,.mov (.t 32),none⟩,
 ⟨some 33,.ext (.t 29) 0,none⟩,
 ⟨some 34,.ext (.t 29) 1,none⟩,
 ⟨some 35,.ext (.t 29) 2,none⟩,
 ⟨some 5,.alloc [.lit (.slice none 0 0), .lit (.slice none 0 0), .lit (.slice none 0 0)],none⟩,
 ⟨some 6,.alloc [.lit (.slice none 0 0), .lit (.slice none 0 0), .lit (.slice none 0 0), .lit (.slice none 0 0)],none⟩,
 ⟨none, .store 3 (.t 5) (.t 33),none⟩,
 ⟨none, .store 4 (.t 6) (.t 34),none⟩,
 ⟨some 7,.mov (.t 35),none⟩])
 (.seq (.reg [⟨some 37,.load (some 3) (.t 5),none⟩,
 ⟨some 38,.call (.c (.fn (.func 17) [] [])) [(.t 37)],none⟩,
 ⟨some 36,.mov (.t 38),none⟩,
 ⟨some 39,.ext (.t 36) 0,none⟩,
 ⟨some 40,.ext (.t 36) 1,none⟩,
 ⟨some 8,.mov (.t 39),none⟩,
 ⟨some 9,.mov (.t 40),none⟩])
 (.seq (.reg [⟨some 42,.call (.c (.fn (.func 19) [] [])) [(.c (.lit (.string ⟨#[80, 4, 4, 1, 2, 0, 3, 0, 3, 1, 1, 0, 0, 1, 0, 0, 2, 4, 3, 5, 7, 1, 91, 132]⟩)))],none⟩,
 ⟨some 41,.mov (.t 42),none⟩,
 ⟨some 43,.ext (.t 41) 0,none⟩,
 ⟨some 44,.ext (.t 41) 1,none⟩,
 ⟨some 10,.alloc [.lit (.slice none 0 0), .lit (.slice none 0 0), .lit (.slice none 0 0)],none⟩,
 ⟨none, .store 3 (.t 10) (.t 43),none⟩,
 ⟨some 11,.mov (.t 44),none⟩])
 (.seq (.reg [⟨some 46,.load (some 4) (.t 1),none⟩,
 ⟨some 47,.load (some 4) (.t 6),none⟩,
 ⟨some 48,.load (some 3) (.t 10),none⟩,
 ⟨some 49,.call (.c (.fn (.func 13) [] [])) [(.t 46), (.t 47), (.t 48)],none⟩,
 ⟨some 45,.mov (.t 49),none⟩,
 ⟨some 50,.ext (.t 45) 0,none⟩,
 ⟨some 51,.ext (.t 45) 1,none⟩,
 ⟨some 12,.alloc [.lit (.slice none 0 0), .lit (.slice none 0 0), .lit (.slice none 0 0), .lit (.slice none 0 0)],none⟩,
 ⟨none, .store 4 (.t 12) (.t 50),none⟩,
 ⟨some 13,.mov (.t 51),none⟩])
 (.seq (.seq (.reg [⟨some 52,.mov (.t 7),none⟩,
 ⟨some 53,.ar .neq (.t 52) (.c (.lit (.int .i64 0))),none⟩,
 ⟨some 54,.mov (.t 53),none⟩,
 ⟨some 55,.mov (.t 9), (some (54, false))⟩,
 ⟨some 56,.ar .neq (.t 55) (.c (.lit (.int .i64 0))), (some (54, false))⟩,
 ⟨some 57,.pick (.t 54) (.c (.lit (.bool true))) (.t 56),none⟩,
 ⟨some 58,.mov (.t 57),none⟩,
 ⟨some 59,.mov (.t 11), (some (58, false))⟩,
 ⟨some 60,.ar .neq (.t 59) (.c (.lit (.int .i64 0))), (some (58, false))⟩,
 ⟨some 61,.pick (.t 58) (.c (.lit (.bool true))) (.t 60),none⟩,
 ⟨some 62,.mov (.t 61),none⟩,
 ⟨some 63,.mov (.t 13), (some (62, false))⟩,
 ⟨some 64,.ar .neq (.t 63) (.c (.lit (.int .i64 0))), (some (62, false))⟩,
 ⟨some 65,.pick (.t 62) (.c (.lit (.bool true))) (.t 64),none⟩,
 ⟨some 66,.mov (.t 65),none⟩,
 ⟨some 67,.mov (.t 8), (some (66, false))⟩,
 ⟨some 68,.ar .neq (.t 67) (.c (.lit (.string ⟨#[80, 4, 4, 1, 2, 0, 3, 0, 3, 1, 1, 0, 0, 1, 0, 0, 2, 4, 3, 5, 7, 1, 91, 132]⟩))), (some (66, false))⟩,
 ⟨some 69,.pick (.t 66) (.c (.lit (.bool true))) (.t 68),none⟩,
 ⟨some 70,.mov (.t 69),none⟩,
 ⟨some 71,.fieldA 3 (.t 6), (some (70, false))⟩,
 ⟨some 72,.load none (.t 71), (some (70, false))⟩,
 ⟨some 73,.len .slc (.t 72), (some (70, false))⟩,
 ⟨some 74,.ar .neq (.t 73) (.c (.lit (.int .i64 1))), (some (70, false))⟩,
 ⟨some 75,.pick (.t 70) (.c (.lit (.bool true))) (.t 74),none⟩,
 ⟨some 76,.mov (.t 75),none⟩,
 ⟨some 77,.fieldA 3 (.t 6), (some (76, false))⟩,
 ⟨some 78,.load none (.t 77), (some (76, false))⟩,
 ⟨some 79,.idxA 3 (.t 78) (.c (.lit (.int .i64 0))), (some (76, false))⟩,
 ⟨some 80,.fieldA 1 (.t 79), (some (76, false))⟩,
 ⟨some 81,.load none (.t 80), (some (76, false))⟩,
 ⟨some 82,.ar .neq (.t 81) (.c (.lit (.int .i64 9))), (some (76, false))⟩,
 ⟨some 83,.pick (.t 76) (.c (.lit (.bool true))) (.t 82),none⟩,
 ⟨some 84,.mov (.t 83),none⟩,
 ⟨some 85,.load (some 4) (.t 12), (some (84, false))⟩,
 ⟨some 86,.load (some 4) (.t 2), (some (84, false))⟩,
 ⟨some 87,.call (.c (.fn (.func 14) [] [])) [(.t 85), (.t 86)], (some (84, false))⟩,
 ⟨some 88,.not (.t 87), (some (84, false))⟩,
 ⟨some 89,.pick (.t 84) (.c (.lit (.bool true))) (.t 88),none⟩])
 (.cond (.t 89)
 (.seq (.reg [⟨some 0,.mov (.c (.lit (.bool false))),none⟩])
 (.ret))
 (.skip)))
 (.seq (.reg [⟨some 91,.call (.c (.fn (.func 38) [] [])) [],none⟩,
 ⟨some 92,.call (.c (.fn (.func 18) [] [])) [(.t 91)],none⟩,
 ⟨some 90,.mov (.t 92),none⟩,
 ⟨some 93,.ext (.t 90) 0,none⟩,
 ⟨some 94,.ext (.t 90) 1,none⟩,
 ⟨some 14,.mov (.t 93),none⟩,
 ⟨some 7,.mov (.t 94),none⟩])
 (.seq (.reg [⟨some 96,.call (.c (.fn (.func 20) [] [])) [(.c (.lit (.string ⟨#[77, 1, 3, 0, 0, 2, 4, 1, 85, 142]⟩)))],none⟩,
 ⟨some 95,.mov (.t 96),none⟩,
 ⟨some 97,.ext (.t 95) 0,none⟩,
 ⟨some 98,.ext (.t 95) 1,none⟩,
 ⟨some 15,.alloc [.lit (.int .i64 0), .lit (.slice none 0 0)],none⟩,
 ⟨none, .store 2 (.t 15) (.t 97),none⟩,
 ⟨some 9,.mov (.t 98),none⟩])
 (.seq (.reg [⟨some 100,.call (.c (.fn (.func 21) [] [])) [(.c (.lit (.string ⟨#[77, 1, 3, 0, 0, 2, 4, 1, 85, 142]⟩)))],none⟩,
 ⟨some 99,.mov (.t 100),none⟩,
 ⟨some 101,.ext (.t 99) 0,none⟩,
 ⟨some 102,.ext (.t 99) 1,none⟩,
 ⟨some 16,.mov (.t 101),none⟩,
 ⟨some 11,.mov (.t 102),none⟩])
 (.seq (.reg [⟨some 104,.call (.c (.fn (.func 39) [] [])) [(.c (.lit (.int .i64 3))), (.c (.lit (.int .i64 0)))],none⟩,
 ⟨some 105,.call (.c (.fn (.func 39) [] [])) [(.c (.lit (.int .i64 3))), (.c (.lit (.int .i64 7)))],none⟩,
 ⟨some 106,.build [.lit (.int .i64 0), .lit (.int .i64 0), .lit (.int .i64 0), .lit (.int .i64 0)] [(0, 2, (.t 104)), (2, 2, (.t 105))],none⟩,
 ⟨some 107,.lits 4 1 [.lit (.int .i64 0), .lit (.int .i64 0), .lit (.int .i64 0), .lit (.int .i64 0)] [(0, 4, (.t 106))],none⟩,
 ⟨some 108,.call (.c (.fn (.func 22) [] [])) [(.c (.lit (.string ⟨#[77, 1, 3, 0, 0, 2, 4, 1, 85, 142]⟩))), (.t 107)],none⟩,
 ⟨some 103,.mov (.t 108),none⟩,
 ⟨some 109,.ext (.t 103) 0,none⟩,
 ⟨some 110,.ext (.t 103) 1,none⟩,
 ⟨some 17,.mov (.t 109),none⟩,
 ⟨some 13,.mov (.t 110),none⟩])
 (.seq (.reg [⟨some 112,.call (.c (.fn (.func 20) [] [])) [(.c (.lit (.string ⟨#[77, 1, 3, 0, 0, 2, 4, 1, 85, 143]⟩)))],none⟩,
 ⟨some 111,.mov (.t 112),none⟩,
 ⟨some 113,.ext (.t 111) 0,none⟩,
 ⟨some 114,.ext (.t 111) 1,none⟩,
 ⟨some 18,.alloc [.lit (.int .i64 0), .lit (.slice none 0 0)],none⟩,
 ⟨none, .store 2 (.t 18) (.t 113),none⟩,
 ⟨some 19,.mov (.t 114),none⟩])
 (.seq (.reg [⟨some 116,.call (.c (.fn (.func 19) [] [])) [(.c (.lit (.string ⟨#[77, 1, 3, 0, 0, 2, 4, 1, 85, 142]⟩)))],none⟩,
 ⟨some 115,.mov (.t 116),none⟩,
 ⟨some 117,.ext (.t 115) 0,none⟩,
 ⟨some 118,.ext (.t 115) 1,none⟩,
 ⟨some 20,.alloc [.lit (.slice none 0 0), .lit (.slice none 0 0), .lit (.slice none 0 0)],none⟩,
 ⟨none, .store 3 (.t 20) (.t 117),none⟩,
 ⟨some 21,.mov (.t 118),none⟩])
 (.seq (.seq (.reg [⟨some 119,.mov (.t 7),none⟩,
 ⟨some 120,.ar .neq (.t 119) (.c (.lit (.int .i64 0))),none⟩,
 ⟨some 121,.mov (.t 120),none⟩,
 ⟨some 122,.mov (.t 9), (some (121, false))⟩,
 ⟨some 123,.ar .neq (.t 122) (.c (.lit (.int .i64 0))), (some (121, false))⟩,
 ⟨some 124,.pick (.t 121) (.c (.lit (.bool true))) (.t 123),none⟩,
 ⟨some 125,.mov (.t 124),none⟩,
 ⟨some 126,.mov (.t 11), (some (125, false))⟩,
 ⟨some 127,.ar .neq (.t 126) (.c (.lit (.int .i64 0))), (some (125, false))⟩,
 ⟨some 128,.pick (.t 125) (.c (.lit (.bool true))) (.t 127),none⟩,
 ⟨some 129,.mov (.t 128),none⟩,
 ⟨some 130,.mov (.t 13), (some (129, false))⟩,
 ⟨some 131,.ar .neq (.t 130) (.c (.lit (.int .i64 0))), (some (129, false))⟩,
 ⟨some 132,.pick (.t 129) (.c (.lit (.bool true))) (.t 131),none⟩,
 ⟨some 133,.mov (.t 132),none⟩,
 ⟨some 134,.mov (.t 19), (some (133, false))⟩,
 ⟨some 135,.ar .neq (.t 134) (.c (.lit (.int .i64 4))), (some (133, false))⟩,
 ⟨some 136,.pick (.t 133) (.c (.lit (.bool true))) (.t 135),none⟩,
 ⟨some 137,.mov (.t 136),none⟩,
 ⟨some 138,.mov (.t 21), (some (137, false))⟩,
 ⟨some 139,.ar .neq (.t 138) (.c (.lit (.int .i64 4))), (some (137, false))⟩,
 ⟨some 140,.pick (.t 137) (.c (.lit (.bool true))) (.t 139),none⟩])
 (.cond (.t 140)
 (.seq (.reg [⟨some 0,.mov (.c (.lit (.bool false))),none⟩])
 (.ret))
 (.skip)))
 (.seq (.regD [(.pure, ⟨some 141,.mov (.t 14),none⟩),
  (.pure, ⟨some 142,.ar .eql (.t 141) (.c (.lit (.string ⟨#[77, 1, 3, 0, 0, 2, 4, 1, 85, 142]⟩))),none⟩),
  (.pure, ⟨some 143,.mov (.t 142),none⟩),
  (.read 0 1, ⟨some 144,.load (some 2) (.t 15), (some (143, true))⟩),
  (.loud true [], ⟨some 145,.call (.c (.fn (.func 38) [] [])) [], (some (143, true))⟩),
  (.loud true [], ⟨some 146,.call (.c (.fn (.func 40) [] [])) [(.t 144), (.t 145)], (some (143, true))⟩),
  (.pure, ⟨some 147,.pick (.t 143) (.t 146) (.c (.lit (.bool false))),none⟩),
  (.pure, ⟨some 148,.mov (.t 147),none⟩),
  (.pure, ⟨some 149,.mov (.t 16), (some (148, true))⟩),
  (.loud true [], ⟨some 150,.call (.c (.fn (.func 39) [] [])) [(.c (.lit (.int .i64 3))), (.c (.lit (.int .i64 0)))], (some (148, true))⟩),
  (.made, ⟨some 151,.lits 2 1 [.lit (.int .i64 0), .lit (.int .i64 0)] [(0, 2, (.t 150))], (some (148, true))⟩),
  (.loud true [], ⟨some 152,.call (.c (.fn (.func 41) [] [])) [(.t 149), (.t 151)], (some (148, true))⟩),
  (.pure, ⟨some 153,.pick (.t 148) (.t 152) (.c (.lit (.bool false))),none⟩),
  (.pure, ⟨some 154,.mov (.t 153),none⟩),
  (.pure, ⟨some 155,.mov (.t 17), (some (154, true))⟩),
  (.pure, ⟨some 156,.ar .eql (.t 155) (.c (.lit (.string ⟨#[77, 1, 3, 7, 0, 2, 4, 1, 50, 90]⟩))), (some (154, true))⟩),
  (.pure, ⟨some 157,.pick (.t 154) (.t 156) (.c (.lit (.bool false))),none⟩),
  (.pure, ⟨some 0,.mov (.t 157),none⟩)])
 (.ret))))))))))))))))⟩
def f11 : F := ⟨136, [.cell 6 (some 3), .cell 7 (some 4), .tmp 8], none, .seq (.reg [⟨some 3,.box (.t 0),none⟩,
 ⟨some 4,.box (.t 1),none⟩,
 ⟨some 6,.alloc [.lit (.slice none 0 0), .lit (.slice none 0 0), .lit (.slice none 0 0)],none⟩,
 ⟨some 7,.alloc [.lit (.slice none 0 0), .lit (.slice none 0 0), .lit (.slice none 0 0), .lit (.slice none 0 0)],none⟩,
 ⟨some 8,.mov (.c (.lit (.int .i64 0))),none⟩])
 (.seq (.seq (.reg [⟨some 19,.load (some 4) (.t 3),none⟩,
 ⟨some 20,.load (some 4) (.t 4),none⟩,
 ⟨some 21,.call (.c (.fn (.func 42) [] [])) [(.t 19), (.t 20)],none⟩,
 ⟨some 22,.ar .neq (.t 21) (.c (.lit (.int .i64 0))),none⟩])
 (.cond (.t 22)
 (.seq (.reg [⟨some 23,.build [.lit (.slice none 0 0), .lit (.slice none 0 0), .lit (.slice none 0 0)] [],none⟩,
 ⟨some 24,.build [.lit (.slice none 0 0), .lit (.slice none 0 0), .lit (.slice none 0 0), .lit (.slice none 0 0)] [],none⟩,
 ⟨none, .store 3 (.t 6) (.t 23),none⟩,
 ⟨none, .store 4 (.t 7) (.t 24),none⟩,
 ⟨some 8,.mov (.c (.lit (.int .i64 2))),none⟩])
 (.ret))
 (.skip)))
 (.seq (.seq (.reg [⟨some 25,.mov (.t 2),none⟩,
 ⟨some 26,.fieldA 0 (.t 4),none⟩,
 ⟨some 27,.load none (.t 26),none⟩,
 ⟨some 28,.len .slc (.t 27),none⟩,
 ⟨some 29,.call (.c (.fn (.func 43) [] [])) [(.t 25), (.t 28)],none⟩,
 ⟨some 30,.not (.t 29),none⟩,
 ⟨some 31,.mov (.t 30),none⟩,
 ⟨some 32,.fieldA 0 (.t 4), (some (31, false))⟩,
 ⟨some 33,.load none (.t 32), (some (31, false))⟩,
 ⟨some 34,.mov (.t 2), (some (31, false))⟩,
 ⟨some 35,.idxA 2 (.t 33) (.t 34), (some (31, false))⟩,
 ⟨some 36,.fieldA 1 (.t 35), (some (31, false))⟩,
 ⟨some 37,.load none (.t 36), (some (31, false))⟩,
 ⟨some 38,.pick (.t 31) (.c (.lit (.bool true))) (.t 37),none⟩])
 (.cond (.t 38)
 (.seq (.reg [⟨some 39,.build [.lit (.slice none 0 0), .lit (.slice none 0 0), .lit (.slice none 0 0)] [],none⟩,
 ⟨some 40,.build [.lit (.slice none 0 0), .lit (.slice none 0 0), .lit (.slice none 0 0), .lit (.slice none 0 0)] [],none⟩,
 ⟨none, .store 3 (.t 6) (.t 39),none⟩,
 ⟨none, .store 4 (.t 7) (.t 40),none⟩,
 ⟨some 8,.mov (.c (.lit (.int .i64 5))),none⟩])
 (.ret))
 (.skip)))
 (.seq (.reg [⟨some 42,.load (some 4) (.t 4),none⟩,
 ⟨some 43,.mov (.t 2),none⟩,
 ⟨some 44,.call (.c (.fn (.func 44) [] [])) [(.t 42), (.t 43)],none⟩,
 ⟨some 41,.mov (.t 44),none⟩,
 ⟨some 45,.ext (.t 41) 0,none⟩,
 ⟨some 46,.ext (.t 41) 1,none⟩,
 ⟨some 9,.mov (.t 45),none⟩,
 ⟨some 10,.mov (.t 46),none⟩])
 (.seq (.reg [⟨some 47,.mov (.t 2),none⟩,
 ⟨some 48,.lits 1 1 [.lit (.int .i64 0)] [(0, 1, (.t 47))],none⟩,
 ⟨some 49,.build [.lit (.slice none 0 0), .lit (.slice none 0 0), .lit (.slice none 0 0)] [(0, 1, (.t 48))],none⟩,
 ⟨some 11,.alloc [.lit (.slice none 0 0), .lit (.slice none 0 0), .lit (.slice none 0 0)],none⟩,
 ⟨none, .store 3 (.t 11) (.t 49),none⟩])
 (.seq (.seq (.reg [⟨some 50,.mov (.t 9),none⟩,
 ⟨some 51,.len .slc (.t 50),none⟩,
 ⟨some 52,.mov (.c (.lit (.int .i64 0))),none⟩])
 (.block 0 (.loop (.seq (.reg [⟨some 53,.ar .lss (.t 52) (.t 51),none⟩])
 (.seq (.cond (.t 53)
 (.skip)
 (.exit 0))
 (.seq (.block 1 (.seq (.reg [⟨some 54,.idxA 1 (.t 50) (.t 52),none⟩,
 ⟨some 55,.load none (.t 54),none⟩,
 ⟨some 13,.mov (.t 55),none⟩])
 (.seq (.reg [⟨some 56,.mov (.t 13),none⟩,
 ⟨some 57,.mov (.t 2),none⟩,
 ⟨some 58,.ar .neq (.t 56) (.t 57),none⟩])
 (.cond (.t 58)
 (.reg [⟨some 59,.fieldA 0 (.t 11),none⟩,
 ⟨some 60,.load none (.t 59),none⟩,
 ⟨some 61,.mov (.t 13),none⟩,
 ⟨some 62,.lits 1 1 [.lit (.int .i64 0)] [(0, 1, (.t 61))],none⟩,
 ⟨some 63,.app 1 8 (.t 60) (.t 62),none⟩,
 ⟨some 64,.fieldA 0 (.t 11),none⟩,
 ⟨none, .store 1 (.t 64) (.t 63),none⟩])
 (.skip)))))
 (.reg [⟨some 65,.ar .add (.t 52) (.c (.lit (.int .i64 1))),none⟩,
 ⟨some 52,.mov (.t 65),none⟩])))))))
 (.seq (.reg [⟨some 66,.load (some 4) (.t 4),none⟩,
 ⟨some 67,.call (.c (.fn (.func 45) [] [])) [(.t 66)],none⟩,
 ⟨some 14,.alloc [.lit (.slice none 0 0), .lit (.slice none 0 0), .lit (.slice none 0 0), .lit (.slice none 0 0)],none⟩,
 ⟨none, .store 4 (.t 14) (.t 67),none⟩])
 (.seq (.seq (.reg [⟨some 68,.fieldA 2 (.t 4),none⟩,
 ⟨some 69,.load none (.t 68),none⟩,
 ⟨some 70,.len .slc (.t 69),none⟩,
 ⟨some 71,.mov (.c (.lit (.int .i64 0))),none⟩])
 (.block 2 (.loop (.seq (.reg [⟨some 72,.ar .lss (.t 71) (.t 70),none⟩])
 (.seq (.cond (.t 72)
 (.skip)
 (.exit 2))
 (.seq (.block 3 (.seq (.reg [⟨some 73,.mov (.t 71),none⟩,
 ⟨some 74,.idxA 4 (.t 69) (.t 71),none⟩,
 ⟨some 75,.load (some 4) (.t 74),none⟩,
 ⟨some 16,.alloc [.lit (.int .i64 0), .lit (.int .i64 0), .lit (.int .i64 0), .lit (.slice none 0 0)],none⟩,
 ⟨some 15,.mov (.t 73),none⟩,
 ⟨none, .store 4 (.t 16) (.t 75),none⟩])
 (.seq (.reg [⟨some 76,.fieldA 3 (.t 16),none⟩,
 ⟨some 77,.load none (.t 76),none⟩,
 ⟨some 78,.len .slc (.t 77),none⟩,
 ⟨some 79,.ar .gtr (.t 78) (.c (.lit (.int .i64 0))),none⟩,
 ⟨some 80,.mov (.t 79),none⟩,
 ⟨some 81,.fieldA 0 (.t 11), (some (80, true))⟩,
 ⟨some 82,.load none (.t 81), (some (80, true))⟩,
 ⟨some 83,.fieldA 2 (.t 16), (some (80, true))⟩,
 ⟨some 84,.load none (.t 83), (some (80, true))⟩,
 ⟨some 85,.call (.c (.fn (.func 12) [] [])) [(.t 82), (.t 84)], (some (80, true))⟩,
 ⟨some 86,.pick (.t 80) (.t 85) (.c (.lit (.bool false))),none⟩])
 (.cond (.t 86)
 (.seq (.regD [(.read 0 1, ⟨some 87,.fieldA 1 (.t 11),none⟩),
  (.read 0 1, ⟨some 88,.load none (.t 87),none⟩),
  (.pure, ⟨some 89,.mov (.t 15),none⟩),
  (.read 0 0, ⟨some 90,.fieldA 3 (.t 16),none⟩),
  (.read 0 0, ⟨some 91,.load none (.t 90),none⟩),
  (.loud true [], ⟨some 92,.call (.c (.fn (.func 46) [] [])) [(.t 91)],none⟩),
  (.pure, ⟨some 93,.build [.lit (.int .i64 0), .lit (.slice none 0 0)] [(0, 1, (.t 89)), (1, 1, (.t 92))],none⟩),
  (.made, ⟨some 94,.lits 2 1 [.lit (.int .i64 0), .lit (.slice none 0 0)] [(0, 2, (.t 93))],none⟩),
  (.loud true [], ⟨some 95,.app 2 32 (.t 88) (.t 94),none⟩),
  (.read 2 2, ⟨some 96,.fieldA 1 (.t 11),none⟩),
  (.loud true [], ⟨none, .store 1 (.t 96) (.t 95),none⟩)])
 (.reg [⟨some 97,.fieldA 2 (.t 14),none⟩,
 ⟨some 98,.load none (.t 97),none⟩,
 ⟨some 99,.mov (.t 15),none⟩,
 ⟨some 100,.idxA 4 (.t 98) (.t 99),none⟩,
 ⟨some 101,.fieldA 3 (.t 100),none⟩,
 ⟨none, .store 1 (.t 101) (.c (.lit (.slice none 0 0))),none⟩]))
 (.skip)))))
 (.reg [⟨some 102,.ar .add (.t 71) (.c (.lit (.int .i64 1))),none⟩,
 ⟨some 71,.mov (.t 102),none⟩])))))))
 (.seq (.reg [⟨some 103,.fieldA 3 (.t 14),none⟩,
 ⟨none, .store 1 (.t 103) (.c (.lit (.slice none 0 0))),none⟩])
 (.seq (.seq (.reg [⟨some 104,.fieldA 3 (.t 4),none⟩,
 ⟨some 105,.load none (.t 104),none⟩,
 ⟨some 106,.len .slc (.t 105),none⟩,
 ⟨some 107,.mov (.c (.lit (.int .i64 0))),none⟩])
 (.block 4 (.loop (.seq (.reg [⟨some 108,.ar .lss (.t 107) (.t 106),none⟩])
 (.seq (.cond (.t 108)
 (.skip)
 (.exit 4))
 (.seq (.block 5 (.seq (.reg [⟨some 109,.mov (.t 107),none⟩,
 ⟨some 110,.idxA 3 (.t 105) (.t 107),none⟩,
 ⟨some 111,.load (some 3) (.t 110),none⟩,
 ⟨some 18,.alloc [.lit (.int .i64 0), .lit (.int .i64 0), .lit (.slice none 0 0)],none⟩,
 ⟨some 17,.mov (.t 109),none⟩,
 ⟨none, .store 3 (.t 18) (.t 111),none⟩])
 (.seq (.reg [⟨some 112,.fieldA 0 (.t 11),none⟩,
 ⟨some 113,.load none (.t 112),none⟩,
 ⟨some 114,.fieldA 0 (.t 18),none⟩,
 ⟨some 115,.load none (.t 114),none⟩,
 ⟨some 116,.call (.c (.fn (.func 12) [] [])) [(.t 113), (.t 115)],none⟩])
 (.cond (.t 116)
 (.regD [(.read 0 1, ⟨some 117,.fieldA 2 (.t 11),none⟩),
  (.read 0 1, ⟨some 118,.load none (.t 117),none⟩),
  (.pure, ⟨some 119,.mov (.t 17),none⟩),
  (.read 0 0, ⟨some 120,.load (some 3) (.t 18),none⟩),
  (.loud true [], ⟨some 121,.call (.c (.fn (.func 47) [] [])) [(.t 120)],none⟩),
  (.pure, ⟨some 122,.build [.lit (.int .i64 0), .lit (.int .i64 0), .lit (.int .i64 0), .lit (.slice none 0 0)] [(0, 1, (.t 119)), (1, 3, (.t 121))],none⟩),
  (.made, ⟨some 123,.lits 4 1 [.lit (.int .i64 0), .lit (.int .i64 0), .lit (.int .i64 0), .lit (.slice none 0 0)] [(0, 4, (.t 122))],none⟩),
  (.loud true [], ⟨some 124,.app 4 48 (.t 118) (.t 123),none⟩),
  (.read 2 2, ⟨some 125,.fieldA 2 (.t 11),none⟩),
  (.loud true [], ⟨none, .store 1 (.t 125) (.t 124),none⟩)])
 (.regD [(.read 0 1, ⟨some 126,.fieldA 3 (.t 14),none⟩),
  (.read 0 1, ⟨some 127,.load none (.t 126),none⟩),
  (.read 0 0, ⟨some 128,.load (some 3) (.t 18),none⟩),
  (.loud true [], ⟨some 129,.call (.c (.fn (.func 47) [] [])) [(.t 128)],none⟩),
  (.made, ⟨some 130,.lits 3 1 [.lit (.int .i64 0), .lit (.int .i64 0), .lit (.slice none 0 0)] [(0, 3, (.t 129))],none⟩),
  (.loud true [], ⟨some 131,.app 3 40 (.t 127) (.t 130),none⟩),
  (.read 2 2, ⟨some 132,.fieldA 3 (.t 14),none⟩),
  (.loud true [], ⟨none, .store 1 (.t 132) (.t 131),none⟩)])))))
 (.reg [⟨some 133,.ar .add (.t 107) (.c (.lit (.int .i64 1))),none⟩,
 ⟨some 107,.mov (.t 133),none⟩])))))))
 (.seq (.regD [(.read 0 0, ⟨some 134,.load (some 3) (.t 11),none⟩),
  (.read 0 1, ⟨some 135,.load (some 4) (.t 14),none⟩),
  (.loud true [], ⟨none, .store 3 (.t 6) (.t 134),none⟩),
  (.loud true [], ⟨none, .store 4 (.t 7) (.t 135),none⟩),
  (.pure, ⟨some 8,.mov (.c (.lit (.int .i64 0))),none⟩)])
 (.ret)))))))))))⟩
def f12 : F := ⟨9, [.tmp 4], none, .seq (.reg [⟨some 4,.mov (.c (.lit (.bool false))),none⟩])
 (.seq (.reg [⟨some 5,.mov (.t 0),none⟩,
 ⟨some 6,.mov (.t 1),none⟩,
 ⟨some 7,.call (.c (.fn (.func 48) [] [])) [(.t 5), (.t 6)],none⟩,
 ⟨some 8,.ar .geq (.t 7) (.c (.lit (.int .i64 0))),none⟩,
 ⟨some 4,.mov (.t 8),none⟩])
 (.ret))⟩
def f13 : F := ⟨111, [.cell 6 (some 4), .tmp 7], none, .seq (.reg [⟨some 3,.box (.t 0),none⟩,
 ⟨some 4,.box (.t 1),none⟩,
 ⟨some 5,.box (.t 2),none⟩,
 ⟨some 6,.alloc [.lit (.slice none 0 0), .lit (.slice none 0 0), .lit (.slice none 0 0), .lit (.slice none 0 0)],none⟩,
 ⟨some 7,.mov (.c (.lit (.int .i64 0))),none⟩])
 (.seq (.block 0 (.seq (.reg [⟨some 15,.load (some 4) (.t 3),none⟩,
 ⟨some 16,.load (some 4) (.t 4),none⟩,
 ⟨some 17,.call (.c (.fn (.func 42) [] [])) [(.t 15), (.t 16)],none⟩,
 ⟨some 18,.ar .neq (.t 17) (.c (.lit (.int .i64 0))),none⟩,
 ⟨some 19,.mov (.t 18),none⟩,
 ⟨some 20,.load (some 3) (.t 5), (some (19, false))⟩,
 ⟨some 21,.call (.c (.fn (.func 49) [] [])) [(.t 20)], (some (19, false))⟩,
 ⟨some 22,.not (.t 21), (some (19, false))⟩,
 ⟨some 23,.pick (.t 19) (.c (.lit (.bool true))) (.t 22),none⟩,
 ⟨some 14,.mov (.t 23),none⟩])
 (.cond (.t 14)
 (.seq (.reg [⟨some 24,.build [.lit (.slice none 0 0), .lit (.slice none 0 0), .lit (.slice none 0 0), .lit (.slice none 0 0)] [],none⟩,
 ⟨none, .store 4 (.t 6) (.t 24),none⟩,
 ⟨some 7,.mov (.c (.lit (.int .i64 2))),none⟩])
 (.ret))
 (.seq (.reg [⟨some 26,.load (some 4) (.t 3),none⟩,
 ⟨some 27,.load (some 4) (.t 4),none⟩,
 ⟨some 28,.load (some 3) (.t 5),none⟩,
 ⟨some 29,.call (.c (.fn (.func 50) [] [])) [(.t 26), (.t 27), (.t 28)],none⟩,
 ⟨some 30,.not (.t 29),none⟩,
 ⟨some 25,.mov (.t 30),none⟩])
 (.cond (.t 25)
 (.seq (.reg [⟨some 31,.build [.lit (.slice none 0 0), .lit (.slice none 0 0), .lit (.slice none 0 0), .lit (.slice none 0 0)] [],none⟩,
 ⟨none, .store 4 (.t 6) (.t 31),none⟩,
 ⟨some 7,.mov (.c (.lit (.int .i64 7))),none⟩])
 (.ret))
 (.skip))))))
 (.seq (.reg [⟨some 32,.load (some 4) (.t 4),none⟩,
 ⟨some 33,.call (.c (.fn (.func 45) [] [])) [(.t 32)],none⟩,
 ⟨some 8,.alloc [.lit (.slice none 0 0), .lit (.slice none 0 0), .lit (.slice none 0 0), .lit (.slice none 0 0)],none⟩,
 ⟨none, .store 4 (.t 8) (.t 33),none⟩])
 (.seq (.seq (.reg [⟨some 34,.fieldA 1 (.t 5),none⟩,
 ⟨some 35,.load none (.t 34),none⟩,
 ⟨some 36,.len .slc (.t 35),none⟩,
 ⟨some 37,.mov (.c (.lit (.int .i64 0))),none⟩])
 (.block 1 (.loop (.seq (.reg [⟨some 38,.ar .lss (.t 37) (.t 36),none⟩])
 (.seq (.cond (.t 38)
 (.skip)
 (.exit 1))
 (.seq (.block 2 (.seq (.reg [⟨some 39,.idxA 2 (.t 35) (.t 37),none⟩,
 ⟨some 40,.load (some 2) (.t 39),none⟩,
 ⟨some 10,.alloc [.lit (.int .i64 0), .lit (.slice none 0 0)],none⟩,
 ⟨none, .store 2 (.t 10) (.t 40),none⟩])
 (.seq (.reg [⟨some 41,.fieldA 2 (.t 8),none⟩,
 ⟨some 42,.load none (.t 41),none⟩,
 ⟨some 43,.fieldA 0 (.t 10),none⟩,
 ⟨some 44,.load none (.t 43),none⟩,
 ⟨some 45,.idxA 4 (.t 42) (.t 44),none⟩,
 ⟨some 11,.mov (.t 45),none⟩])
 (.seq (.seq (.regD [(.read 0 0, ⟨some 46,.fieldA 0 (.t 4),none⟩),
  (.read 0 0, ⟨some 47,.load none (.t 46),none⟩),
  (.pure, ⟨some 48,.mov (.t 11),none⟩),
  (.read 0 0, ⟨some 49,.chk (.t 48),none⟩),
  (.read 0 0, ⟨some 50,.fieldA 2 (.t 49),none⟩),
  (.read 0 0, ⟨some 51,.load none (.t 50),none⟩),
  (.read 0 0, ⟨some 52,.idxA 2 (.t 47) (.t 51),none⟩),
  (.read 0 0, ⟨some 53,.fieldA 1 (.t 52),none⟩),
  (.read 0 0, ⟨some 54,.load none (.t 53),none⟩)])
 (.cond (.t 54)
 (.exit 2)
 (.skip)))
 (.seq (.regD [(.pure, ⟨some 55,.mov (.t 11),none⟩),
  (.read 0 0, ⟨some 56,.fieldA 1 (.t 10),none⟩),
  (.read 0 0, ⟨some 57,.load none (.t 56),none⟩),
  (.loud false [], ⟨some 58,.call (.c (.fn (.func 46) [] [])) [(.t 57)],none⟩),
  (.pure, ⟨some 59,.mov (.t 11),none⟩),
  (.read 0 1, ⟨some 60,.chk (.t 59),none⟩),
  (.read 0 1, ⟨some 61,.fieldA 3 (.t 60),none⟩),
  (.read 0 1, ⟨some 62,.load none (.t 61),none⟩),
  (.loud true [], ⟨some 63,.app 1 24 (.t 58) (.t 62),none⟩),
  (.read 2 2, ⟨some 64,.chk (.t 55),none⟩),
  (.read 2 2, ⟨some 65,.fieldA 3 (.t 64),none⟩),
  (.loud true [], ⟨none, .store 1 (.t 65) (.t 63),none⟩)])
 (.seq (.reg [⟨some 66,.mov (.t 11),none⟩,
 ⟨some 67,.chk (.t 66),none⟩,
 ⟨some 68,.fieldA 3 (.t 67),none⟩,
 ⟨some 69,.load none (.t 68),none⟩,
 ⟨some 70,.len .slc (.t 69),none⟩,
 ⟨some 71,.ar .gtr (.t 70) (.c (.lit (.int .i64 12))),none⟩])
 (.cond (.t 71)
 (.seq (.reg [⟨some 72,.build [.lit (.slice none 0 0), .lit (.slice none 0 0), .lit (.slice none 0 0), .lit (.slice none 0 0)] [],none⟩,
 ⟨none, .store 4 (.t 6) (.t 72),none⟩,
 ⟨some 7,.mov (.c (.lit (.int .i64 3))),none⟩])
 (.ret))
 (.skip))))))))
 (.reg [⟨some 73,.ar .add (.t 37) (.c (.lit (.int .i64 1))),none⟩,
 ⟨some 37,.mov (.t 73),none⟩])))))))
 (.seq (.seq (.reg [⟨some 74,.fieldA 2 (.t 5),none⟩,
 ⟨some 75,.load none (.t 74),none⟩,
 ⟨some 76,.len .slc (.t 75),none⟩,
 ⟨some 77,.mov (.c (.lit (.int .i64 0))),none⟩])
 (.block 3 (.loop (.seq (.reg [⟨some 78,.ar .lss (.t 77) (.t 76),none⟩])
 (.seq (.cond (.t 78)
 (.skip)
 (.exit 3))
 (.seq (.block 4 (.seq (.reg [⟨some 79,.idxA 4 (.t 75) (.t 77),none⟩,
 ⟨some 80,.load (some 4) (.t 79),none⟩,
 ⟨some 13,.alloc [.lit (.int .i64 0), .lit (.int .i64 0), .lit (.int .i64 0), .lit (.slice none 0 0)],none⟩,
 ⟨none, .store 4 (.t 13) (.t 80),none⟩])
 (.seq (.reg [⟨some 81,.fieldA 0 (.t 4),none⟩,
 ⟨some 82,.load none (.t 81),none⟩,
 ⟨some 83,.fieldA 1 (.t 13),none⟩,
 ⟨some 84,.fieldA 0 (.t 83),none⟩,
 ⟨some 85,.load none (.t 84),none⟩,
 ⟨some 86,.idxA 2 (.t 82) (.t 85),none⟩,
 ⟨some 87,.fieldA 1 (.t 86),none⟩,
 ⟨some 88,.load none (.t 87),none⟩,
 ⟨some 89,.not (.t 88),none⟩])
 (.cond (.t 89)
 (.regD [(.read 0 1, ⟨some 90,.fieldA 3 (.t 8),none⟩),
  (.read 0 1, ⟨some 91,.load none (.t 90),none⟩),
  (.read 0 1, ⟨some 92,.fieldA 0 (.t 13),none⟩),
  (.read 0 1, ⟨some 93,.load none (.t 92),none⟩),
  (.read 0 1, ⟨some 94,.fieldA 3 (.t 8),none⟩),
  (.read 0 1, ⟨some 95,.load none (.t 94),none⟩),
  (.read 0 1, ⟨some 96,.len .slc (.t 95),none⟩),
  (.pure, ⟨some 97,.min (.t 93) (.t 96),none⟩),
  (.read 0 0, ⟨some 98,.fieldA 1 (.t 13),none⟩),
  (.read 0 0, ⟨some 99,.load (some 3) (.t 98),none⟩),
  (.loud true [], ⟨some 100,.call (.c (.fn (.func 47) [] [])) [(.t 99)],none⟩),
  (.made, ⟨some 101,.lits 3 1 [.lit (.int .i64 0), .lit (.int .i64 0), .lit (.slice none 0 0)] [(0, 3, (.t 100))],none⟩),
  (.loud true [], ⟨some 102,.call (.c (.fn (.func 51) [] [])) [(.t 91), (.t 97), (.t 101)],none⟩),
  (.read 2 2, ⟨some 103,.fieldA 3 (.t 8),none⟩),
  (.loud true [], ⟨none, .store 1 (.t 103) (.t 102),none⟩)])
 (.skip)))))
 (.reg [⟨some 104,.ar .add (.t 77) (.c (.lit (.int .i64 1))),none⟩,
 ⟨some 77,.mov (.t 104),none⟩])))))))
 (.seq (.seq (.reg [⟨some 105,.fieldA 3 (.t 8),none⟩,
 ⟨some 106,.load none (.t 105),none⟩,
 ⟨some 107,.len .slc (.t 106),none⟩,
 ⟨some 108,.ar .gtr (.t 107) (.c (.lit (.int .i64 40))),none⟩])
 (.cond (.t 108)
 (.seq (.reg [⟨some 109,.build [.lit (.slice none 0 0), .lit (.slice none 0 0), .lit (.slice none 0 0), .lit (.slice none 0 0)] [],none⟩,
 ⟨none, .store 4 (.t 6) (.t 109),none⟩,
 ⟨some 7,.mov (.c (.lit (.int .i64 3))),none⟩])
 (.ret))
 (.skip)))
 (.seq (.reg [⟨some 110,.load (some 4) (.t 8),none⟩,
 ⟨none, .store 4 (.t 6) (.t 110),none⟩,
 ⟨some 7,.mov (.c (.lit (.int .i64 0))),none⟩])
 (.ret)))))))⟩
def f14 : F := ⟨229, [.tmp 4], none, .seq (.reg [⟨some 2,.box (.t 0),none⟩,
 ⟨some 3,.box (.t 1),none⟩,
 ⟨some 4,.mov (.c (.lit (.bool false))),none⟩])
 (.seq (.seq (.reg [⟨some 9,.fieldA 0 (.t 2),none⟩,
 ⟨some 10,.load none (.t 9),none⟩,
 ⟨some 11,.len .slc (.t 10),none⟩,
 ⟨some 12,.fieldA 0 (.t 3),none⟩,
 ⟨some 13,.load none (.t 12),none⟩,
 ⟨some 14,.len .slc (.t 13),none⟩,
 ⟨some 15,.ar .neq (.t 11) (.t 14),none⟩,
 ⟨some 16,.mov (.t 15),none⟩,
 ⟨some 17,.fieldA 1 (.t 2), (some (16, false))⟩,
 ⟨some 18,.load none (.t 17), (some (16, false))⟩,
 ⟨some 19,.len .slc (.t 18), (some (16, false))⟩,
 ⟨some 20,.fieldA 1 (.t 3), (some (16, false))⟩,
 ⟨some 21,.load none (.t 20), (some (16, false))⟩,
 ⟨some 22,.len .slc (.t 21), (some (16, false))⟩,
 ⟨some 23,.ar .neq (.t 19) (.t 22), (some (16, false))⟩,
 ⟨some 24,.pick (.t 16) (.c (.lit (.bool true))) (.t 23),none⟩,
 ⟨some 25,.mov (.t 24),none⟩,
 ⟨some 26,.fieldA 2 (.t 2), (some (25, false))⟩,
 ⟨some 27,.load none (.t 26), (some (25, false))⟩,
 ⟨some 28,.len .slc (.t 27), (some (25, false))⟩,
 ⟨some 29,.fieldA 2 (.t 3), (some (25, false))⟩,
 ⟨some 30,.load none (.t 29), (some (25, false))⟩,
 ⟨some 31,.len .slc (.t 30), (some (25, false))⟩,
 ⟨some 32,.ar .neq (.t 28) (.t 31), (some (25, false))⟩,
 ⟨some 33,.pick (.t 25) (.c (.lit (.bool true))) (.t 32),none⟩,
 ⟨some 34,.mov (.t 33),none⟩,
 ⟨some 35,.fieldA 3 (.t 2), (some (34, false))⟩,
 ⟨some 36,.load none (.t 35), (some (34, false))⟩,
 ⟨some 37,.len .slc (.t 36), (some (34, false))⟩,
 ⟨some 38,.fieldA 3 (.t 3), (some (34, false))⟩,
 ⟨some 39,.load none (.t 38), (some (34, false))⟩,
 ⟨some 40,.len .slc (.t 39), (some (34, false))⟩,
 ⟨some 41,.ar .neq (.t 37) (.t 40), (some (34, false))⟩,
 ⟨some 42,.pick (.t 34) (.c (.lit (.bool true))) (.t 41),none⟩])
 (.cond (.t 42)
 (.seq (.reg [⟨some 4,.mov (.c (.lit (.bool false))),none⟩])
 (.ret))
 (.skip)))
 (.seq (.seq (.reg [⟨some 5,.mov (.c (.lit (.int .i64 0))),none⟩])
 (.block 0 (.loop (.seq (.seq (.reg [⟨some 43,.mov (.t 5),none⟩,
 ⟨some 44,.fieldA 0 (.t 2),none⟩,
 ⟨some 45,.load none (.t 44),none⟩,
 ⟨some 46,.len .slc (.t 45),none⟩,
 ⟨some 47,.ar .lss (.t 43) (.t 46),none⟩])
 (.cond (.t 47)
 (.skip)
 (.exit 0)))
 (.seq (.block 1 (.seq (.regD [(.read 0 0, ⟨some 50,.fieldA 0 (.t 2),none⟩),
  (.read 0 0, ⟨some 51,.load none (.t 50),none⟩),
  (.pure, ⟨some 52,.mov (.t 5),none⟩),
  (.read 0 0, ⟨some 53,.idxA 2 (.t 51) (.t 52),none⟩),
  (.read 0 0, ⟨some 54,.load (some 2) (.t 53),none⟩),
  (.read 0 0, ⟨some 55,.fieldA 0 (.t 3),none⟩),
  (.read 0 0, ⟨some 56,.load none (.t 55),none⟩),
  (.pure, ⟨some 57,.mov (.t 5),none⟩),
  (.read 0 0, ⟨some 58,.idxA 2 (.t 56) (.t 57),none⟩),
  (.read 0 0, ⟨some 59,.load (some 2) (.t 58),none⟩),
  (.pure, ⟨some 60,.eqA true [.int .i64, .bool] (.t 54) (.t 59),none⟩)])
 (.cond (.t 60)
 (.seq (.reg [⟨some 4,.mov (.c (.lit (.bool false))),none⟩])
 (.ret))
 (.skip))))
 (.reg [⟨some 48,.mov (.t 5),none⟩,
 ⟨some 49,.ar .add (.t 48) (.c (.lit (.int .i64 1))),none⟩,
 ⟨some 5,.mov (.t 49),none⟩]))))))
 (.seq (.seq (.reg [⟨some 6,.mov (.c (.lit (.int .i64 0))),none⟩])
 (.block 2 (.loop (.seq (.seq (.reg [⟨some 61,.mov (.t 6),none⟩,
 ⟨some 62,.fieldA 1 (.t 2),none⟩,
 ⟨some 63,.load none (.t 62),none⟩,
 ⟨some 64,.len .slc (.t 63),none⟩,
 ⟨some 65,.ar .lss (.t 61) (.t 64),none⟩])
 (.cond (.t 65)
 (.skip)
 (.exit 2)))
 (.seq (.block 3 (.seq (.regD [(.read 0 0, ⟨some 68,.fieldA 1 (.t 2),none⟩),
  (.read 0 0, ⟨some 69,.load none (.t 68),none⟩),
  (.pure, ⟨some 70,.mov (.t 6),none⟩),
  (.read 0 0, ⟨some 71,.idxA 3 (.t 69) (.t 70),none⟩),
  (.read 0 0, ⟨some 72,.fieldA 0 (.t 71),none⟩),
  (.read 0 0, ⟨some 73,.load none (.t 72),none⟩),
  (.read 0 0, ⟨some 74,.fieldA 1 (.t 3),none⟩),
  (.read 0 0, ⟨some 75,.load none (.t 74),none⟩),
  (.pure, ⟨some 76,.mov (.t 6),none⟩),
  (.read 0 0, ⟨some 77,.idxA 3 (.t 75) (.t 76),none⟩),
  (.read 0 0, ⟨some 78,.fieldA 0 (.t 77),none⟩),
  (.read 0 0, ⟨some 79,.load none (.t 78),none⟩),
  (.pure, ⟨some 80,.ar .neq (.t 73) (.t 79),none⟩),
  (.pure, ⟨some 81,.mov (.t 80),none⟩),
  (.read 0 0, ⟨some 82,.fieldA 1 (.t 2), (some (81, false))⟩),
  (.read 0 0, ⟨some 83,.load none (.t 82), (some (81, false))⟩),
  (.pure, ⟨some 84,.mov (.t 6), (some (81, false))⟩),
  (.read 0 0, ⟨some 85,.idxA 3 (.t 83) (.t 84), (some (81, false))⟩),
  (.read 0 0, ⟨some 86,.fieldA 1 (.t 85), (some (81, false))⟩),
  (.read 0 0, ⟨some 87,.load none (.t 86), (some (81, false))⟩),
  (.read 0 0, ⟨some 88,.fieldA 1 (.t 3), (some (81, false))⟩),
  (.read 0 0, ⟨some 89,.load none (.t 88), (some (81, false))⟩),
  (.pure, ⟨some 90,.mov (.t 6), (some (81, false))⟩),
  (.read 0 0, ⟨some 91,.idxA 3 (.t 89) (.t 90), (some (81, false))⟩),
  (.read 0 0, ⟨some 92,.fieldA 1 (.t 91), (some (81, false))⟩),
  (.read 0 0, ⟨some 93,.load none (.t 92), (some (81, false))⟩),
  (.pure, ⟨some 94,.ar .neq (.t 87) (.t 93), (some (81, false))⟩),
  (.pure, ⟨some 95,.pick (.t 81) (.c (.lit (.bool true))) (.t 94),none⟩),
  (.pure, ⟨some 96,.mov (.t 95),none⟩),
  (.read 0 0, ⟨some 97,.fieldA 1 (.t 2), (some (96, false))⟩),
  (.read 0 0, ⟨some 98,.load none (.t 97), (some (96, false))⟩),
  (.pure, ⟨some 99,.mov (.t 6), (some (96, false))⟩),
  (.read 0 0, ⟨some 100,.idxA 3 (.t 98) (.t 99), (some (96, false))⟩),
  (.read 0 0, ⟨some 101,.fieldA 2 (.t 100), (some (96, false))⟩),
  (.read 0 0, ⟨some 102,.load none (.t 101), (some (96, false))⟩),
  (.read 0 0, ⟨some 103,.fieldA 1 (.t 3), (some (96, false))⟩),
  (.read 0 0, ⟨some 104,.load none (.t 103), (some (96, false))⟩),
  (.pure, ⟨some 105,.mov (.t 6), (some (96, false))⟩),
  (.read 0 0, ⟨some 106,.idxA 3 (.t 104) (.t 105), (some (96, false))⟩),
  (.read 0 0, ⟨some 107,.fieldA 2 (.t 106), (some (96, false))⟩),
  (.read 0 0, ⟨some 108,.load none (.t 107), (some (96, false))⟩),
  (.loud true [], ⟨some 109,.call (.c (.fn (.func 41) [] [])) [(.t 102), (.t 108)], (some (96, false))⟩),
  (.pure, ⟨some 110,.not (.t 109), (some (96, false))⟩),
  (.pure, ⟨some 111,.pick (.t 96) (.c (.lit (.bool true))) (.t 110),none⟩)])
 (.cond (.t 111)
 (.seq (.reg [⟨some 4,.mov (.c (.lit (.bool false))),none⟩])
 (.ret))
 (.skip))))
 (.reg [⟨some 66,.mov (.t 6),none⟩,
 ⟨some 67,.ar .add (.t 66) (.c (.lit (.int .i64 1))),none⟩,
 ⟨some 6,.mov (.t 67),none⟩]))))))
 (.seq (.seq (.reg [⟨some 7,.mov (.c (.lit (.int .i64 0))),none⟩])
 (.block 4 (.loop (.seq (.seq (.reg [⟨some 112,.mov (.t 7),none⟩,
 ⟨some 113,.fieldA 2 (.t 2),none⟩,
 ⟨some 114,.load none (.t 113),none⟩,
 ⟨some 115,.len .slc (.t 114),none⟩,
 ⟨some 116,.ar .lss (.t 112) (.t 115),none⟩])
 (.cond (.t 116)
 (.skip)
 (.exit 4)))
 (.seq (.block 5 (.seq (.regD [(.read 0 0, ⟨some 119,.fieldA 2 (.t 2),none⟩),
  (.read 0 0, ⟨some 120,.load none (.t 119),none⟩),
  (.pure, ⟨some 121,.mov (.t 7),none⟩),
  (.read 0 0, ⟨some 122,.idxA 4 (.t 120) (.t 121),none⟩),
  (.read 0 0, ⟨some 123,.fieldA 0 (.t 122),none⟩),
  (.read 0 0, ⟨some 124,.load none (.t 123),none⟩),
  (.read 0 0, ⟨some 125,.fieldA 2 (.t 3),none⟩),
  (.read 0 0, ⟨some 126,.load none (.t 125),none⟩),
  (.pure, ⟨some 127,.mov (.t 7),none⟩),
  (.read 0 0, ⟨some 128,.idxA 4 (.t 126) (.t 127),none⟩),
  (.read 0 0, ⟨some 129,.fieldA 0 (.t 128),none⟩),
  (.read 0 0, ⟨some 130,.load none (.t 129),none⟩),
  (.pure, ⟨some 131,.ar .neq (.t 124) (.t 130),none⟩),
  (.pure, ⟨some 132,.mov (.t 131),none⟩),
  (.read 0 0, ⟨some 133,.fieldA 2 (.t 2), (some (132, false))⟩),
  (.read 0 0, ⟨some 134,.load none (.t 133), (some (132, false))⟩),
  (.pure, ⟨some 135,.mov (.t 7), (some (132, false))⟩),
  (.read 0 0, ⟨some 136,.idxA 4 (.t 134) (.t 135), (some (132, false))⟩),
  (.read 0 0, ⟨some 137,.fieldA 1 (.t 136), (some (132, false))⟩),
  (.read 0 0, ⟨some 138,.load none (.t 137), (some (132, false))⟩),
  (.read 0 0, ⟨some 139,.fieldA 2 (.t 3), (some (132, false))⟩),
  (.read 0 0, ⟨some 140,.load none (.t 139), (some (132, false))⟩),
  (.pure, ⟨some 141,.mov (.t 7), (some (132, false))⟩),
  (.read 0 0, ⟨some 142,.idxA 4 (.t 140) (.t 141), (some (132, false))⟩),
  (.read 0 0, ⟨some 143,.fieldA 1 (.t 142), (some (132, false))⟩),
  (.read 0 0, ⟨some 144,.load none (.t 143), (some (132, false))⟩),
  (.pure, ⟨some 145,.ar .neq (.t 138) (.t 144), (some (132, false))⟩),
  (.pure, ⟨some 146,.pick (.t 132) (.c (.lit (.bool true))) (.t 145),none⟩),
  (.pure, ⟨some 147,.mov (.t 146),none⟩),
  (.read 0 0, ⟨some 148,.fieldA 2 (.t 2), (some (147, false))⟩),
  (.read 0 0, ⟨some 149,.load none (.t 148), (some (147, false))⟩),
  (.pure, ⟨some 150,.mov (.t 7), (some (147, false))⟩),
  (.read 0 0, ⟨some 151,.idxA 4 (.t 149) (.t 150), (some (147, false))⟩),
  (.read 0 0, ⟨some 152,.fieldA 2 (.t 151), (some (147, false))⟩),
  (.read 0 0, ⟨some 153,.load none (.t 152), (some (147, false))⟩),
  (.read 0 0, ⟨some 154,.fieldA 2 (.t 3), (some (147, false))⟩),
  (.read 0 0, ⟨some 155,.load none (.t 154), (some (147, false))⟩),
  (.pure, ⟨some 156,.mov (.t 7), (some (147, false))⟩),
  (.read 0 0, ⟨some 157,.idxA 4 (.t 155) (.t 156), (some (147, false))⟩),
  (.read 0 0, ⟨some 158,.fieldA 2 (.t 157), (some (147, false))⟩),
  (.read 0 0, ⟨some 159,.load none (.t 158), (some (147, false))⟩),
  (.pure, ⟨some 160,.ar .neq (.t 153) (.t 159), (some (147, false))⟩),
  (.pure, ⟨some 161,.pick (.t 147) (.c (.lit (.bool true))) (.t 160),none⟩),
  (.pure, ⟨some 162,.mov (.t 161),none⟩),
  (.read 0 0, ⟨some 163,.fieldA 2 (.t 2), (some (162, false))⟩),
  (.read 0 0, ⟨some 164,.load none (.t 163), (some (162, false))⟩),
  (.pure, ⟨some 165,.mov (.t 7), (some (162, false))⟩),
  (.read 0 0, ⟨some 166,.idxA 4 (.t 164) (.t 165), (some (162, false))⟩),
  (.read 0 0, ⟨some 167,.fieldA 3 (.t 166), (some (162, false))⟩),
  (.read 0 0, ⟨some 168,.load none (.t 167), (some (162, false))⟩),
  (.read 0 0, ⟨some 169,.fieldA 2 (.t 3), (some (162, false))⟩),
  (.read 0 0, ⟨some 170,.load none (.t 169), (some (162, false))⟩),
  (.pure, ⟨some 171,.mov (.t 7), (some (162, false))⟩),
  (.read 0 0, ⟨some 172,.idxA 4 (.t 170) (.t 171), (some (162, false))⟩),
  (.read 0 0, ⟨some 173,.fieldA 3 (.t 172), (some (162, false))⟩),
  (.read 0 0, ⟨some 174,.load none (.t 173), (some (162, false))⟩),
  (.loud true [], ⟨some 175,.call (.c (.fn (.func 52) [] [])) [(.t 168), (.t 174)], (some (162, false))⟩),
  (.pure, ⟨some 176,.not (.t 175), (some (162, false))⟩),
  (.pure, ⟨some 177,.pick (.t 162) (.c (.lit (.bool true))) (.t 176),none⟩)])
 (.cond (.t 177)
 (.seq (.reg [⟨some 4,.mov (.c (.lit (.bool false))),none⟩])
 (.ret))
 (.skip))))
 (.reg [⟨some 117,.mov (.t 7),none⟩,
 ⟨some 118,.ar .add (.t 117) (.c (.lit (.int .i64 1))),none⟩,
 ⟨some 7,.mov (.t 118),none⟩]))))))
 (.seq (.seq (.reg [⟨some 8,.mov (.c (.lit (.int .i64 0))),none⟩])
 (.block 6 (.loop (.seq (.seq (.reg [⟨some 178,.mov (.t 8),none⟩,
 ⟨some 179,.fieldA 3 (.t 2),none⟩,
 ⟨some 180,.load none (.t 179),none⟩,
 ⟨some 181,.len .slc (.t 180),none⟩,
 ⟨some 182,.ar .lss (.t 178) (.t 181),none⟩])
 (.cond (.t 182)
 (.skip)
 (.exit 6)))
 (.seq (.block 7 (.seq (.regD [(.read 0 0, ⟨some 185,.fieldA 3 (.t 2),none⟩),
  (.read 0 0, ⟨some 186,.load none (.t 185),none⟩),
  (.pure, ⟨some 187,.mov (.t 8),none⟩),
  (.read 0 0, ⟨some 188,.idxA 3 (.t 186) (.t 187),none⟩),
  (.read 0 0, ⟨some 189,.fieldA 0 (.t 188),none⟩),
  (.read 0 0, ⟨some 190,.load none (.t 189),none⟩),
  (.read 0 0, ⟨some 191,.fieldA 3 (.t 3),none⟩),
  (.read 0 0, ⟨some 192,.load none (.t 191),none⟩),
  (.pure, ⟨some 193,.mov (.t 8),none⟩),
  (.read 0 0, ⟨some 194,.idxA 3 (.t 192) (.t 193),none⟩),
  (.read 0 0, ⟨some 195,.fieldA 0 (.t 194),none⟩),
  (.read 0 0, ⟨some 196,.load none (.t 195),none⟩),
  (.pure, ⟨some 197,.ar .neq (.t 190) (.t 196),none⟩),
  (.pure, ⟨some 198,.mov (.t 197),none⟩),
  (.read 0 0, ⟨some 199,.fieldA 3 (.t 2), (some (198, false))⟩),
  (.read 0 0, ⟨some 200,.load none (.t 199), (some (198, false))⟩),
  (.pure, ⟨some 201,.mov (.t 8), (some (198, false))⟩),
  (.read 0 0, ⟨some 202,.idxA 3 (.t 200) (.t 201), (some (198, false))⟩),
  (.read 0 0, ⟨some 203,.fieldA 1 (.t 202), (some (198, false))⟩),
  (.read 0 0, ⟨some 204,.load none (.t 203), (some (198, false))⟩),
  (.read 0 0, ⟨some 205,.fieldA 3 (.t 3), (some (198, false))⟩),
  (.read 0 0, ⟨some 206,.load none (.t 205), (some (198, false))⟩),
  (.pure, ⟨some 207,.mov (.t 8), (some (198, false))⟩),
  (.read 0 0, ⟨some 208,.idxA 3 (.t 206) (.t 207), (some (198, false))⟩),
  (.read 0 0, ⟨some 209,.fieldA 1 (.t 208), (some (198, false))⟩),
  (.read 0 0, ⟨some 210,.load none (.t 209), (some (198, false))⟩),
  (.pure, ⟨some 211,.ar .neq (.t 204) (.t 210), (some (198, false))⟩),
  (.pure, ⟨some 212,.pick (.t 198) (.c (.lit (.bool true))) (.t 211),none⟩),
  (.pure, ⟨some 213,.mov (.t 212),none⟩),
  (.read 0 0, ⟨some 214,.fieldA 3 (.t 2), (some (213, false))⟩),
  (.read 0 0, ⟨some 215,.load none (.t 214), (some (213, false))⟩),
  (.pure, ⟨some 216,.mov (.t 8), (some (213, false))⟩),
  (.read 0 0, ⟨some 217,.idxA 3 (.t 215) (.t 216), (some (213, false))⟩),
  (.read 0 0, ⟨some 218,.fieldA 2 (.t 217), (some (213, false))⟩),
  (.read 0 0, ⟨some 219,.load none (.t 218), (some (213, false))⟩),
  (.read 0 0, ⟨some 220,.fieldA 3 (.t 3), (some (213, false))⟩),
  (.read 0 0, ⟨some 221,.load none (.t 220), (some (213, false))⟩),
  (.pure, ⟨some 222,.mov (.t 8), (some (213, false))⟩),
  (.read 0 0, ⟨some 223,.idxA 3 (.t 221) (.t 222), (some (213, false))⟩),
  (.read 0 0, ⟨some 224,.fieldA 2 (.t 223), (some (213, false))⟩),
  (.read 0 0, ⟨some 225,.load none (.t 224), (some (213, false))⟩),
  (.loud true [], ⟨some 226,.call (.c (.fn (.func 41) [] [])) [(.t 219), (.t 225)], (some (213, false))⟩),
  (.pure, ⟨some 227,.not (.t 226), (some (213, false))⟩),
  (.pure, ⟨some 228,.pick (.t 213) (.c (.lit (.bool true))) (.t 227),none⟩)])
 (.cond (.t 228)
 (.seq (.reg [⟨some 4,.mov (.c (.lit (.bool false))),none⟩])
 (.ret))
 (.skip))))
 (.reg [⟨some 183,.mov (.t 8),none⟩,
 ⟨some 184,.ar .add (.t 183) (.c (.lit (.int .i64 1))),none⟩,
 ⟨some 8,.mov (.t 184),none⟩]))))))
 (.seq (.reg [⟨some 4,.mov (.c (.lit (.bool true))),none⟩])
 (.ret)))))))⟩
def f15 : F := ⟨74, [.tmp 2], none, .seq (.reg [⟨some 1,.box (.t 0),none⟩,
 ⟨some 2,.mov (.c (.lit (.bool false))),none⟩])
 (.seq (.seq (.reg [⟨some 6,.fieldA 0 (.t 1),none⟩,
 ⟨some 7,.load none (.t 6),none⟩,
 ⟨some 8,.len .slc (.t 7),none⟩,
 ⟨some 9,.ar .gtr (.t 8) (.c (.lit (.int .i64 70))),none⟩,
 ⟨some 10,.mov (.t 9),none⟩,
 ⟨some 11,.fieldA 1 (.t 1), (some (10, false))⟩,
 ⟨some 12,.load none (.t 11), (some (10, false))⟩,
 ⟨some 13,.len .slc (.t 12), (some (10, false))⟩,
 ⟨some 14,.ar .gtr (.t 13) (.c (.lit (.int .i64 70))), (some (10, false))⟩,
 ⟨some 15,.pick (.t 10) (.c (.lit (.bool true))) (.t 14),none⟩,
 ⟨some 16,.mov (.t 15),none⟩,
 ⟨some 17,.fieldA 2 (.t 1), (some (16, false))⟩,
 ⟨some 18,.load none (.t 17), (some (16, false))⟩,
 ⟨some 19,.len .slc (.t 18), (some (16, false))⟩,
 ⟨some 20,.ar .gtr (.t 19) (.c (.lit (.int .i64 70))), (some (16, false))⟩,
 ⟨some 21,.pick (.t 16) (.c (.lit (.bool true))) (.t 20),none⟩])
 (.cond (.t 21)
 (.seq (.reg [⟨some 2,.mov (.c (.lit (.bool true))),none⟩])
 (.ret))
 (.skip)))
 (.seq (.seq (.reg [⟨some 3,.mov (.c (.lit (.int .i64 0))),none⟩])
 (.block 0 (.loop (.seq (.seq (.reg [⟨some 22,.mov (.t 3),none⟩,
 ⟨some 23,.fieldA 1 (.t 1),none⟩,
 ⟨some 24,.load none (.t 23),none⟩,
 ⟨some 25,.len .slc (.t 24),none⟩,
 ⟨some 26,.ar .lss (.t 22) (.t 25),none⟩])
 (.cond (.t 26)
 (.skip)
 (.exit 0)))
 (.seq (.block 1 (.seq (.seq (.reg [⟨some 29,.fieldA 1 (.t 1),none⟩,
 ⟨some 30,.load none (.t 29),none⟩,
 ⟨some 31,.mov (.t 3),none⟩,
 ⟨some 32,.idxA 2 (.t 30) (.t 31),none⟩,
 ⟨some 33,.fieldA 1 (.t 32),none⟩,
 ⟨some 34,.load none (.t 33),none⟩,
 ⟨some 35,.len .slc (.t 34),none⟩,
 ⟨some 36,.ar .gtr (.t 35) (.c (.lit (.int .i64 20))),none⟩])
 (.cond (.t 36)
 (.seq (.reg [⟨some 2,.mov (.c (.lit (.bool true))),none⟩])
 (.ret))
 (.skip)))
 (.seq (.reg [⟨some 4,.mov (.c (.lit (.int .i64 0))),none⟩])
 (.block 2 (.loop (.seq (.seq (.reg [⟨some 37,.mov (.t 4),none⟩,
 ⟨some 38,.fieldA 1 (.t 1),none⟩,
 ⟨some 39,.load none (.t 38),none⟩,
 ⟨some 40,.mov (.t 3),none⟩,
 ⟨some 41,.idxA 2 (.t 39) (.t 40),none⟩,
 ⟨some 42,.fieldA 1 (.t 41),none⟩,
 ⟨some 43,.load none (.t 42),none⟩,
 ⟨some 44,.len .slc (.t 43),none⟩,
 ⟨some 45,.ar .lss (.t 37) (.t 44),none⟩])
 (.cond (.t 45)
 (.skip)
 (.exit 2)))
 (.seq (.block 3 (.seq (.reg [⟨some 48,.fieldA 1 (.t 1),none⟩,
 ⟨some 49,.load none (.t 48),none⟩,
 ⟨some 50,.mov (.t 3),none⟩,
 ⟨some 51,.idxA 2 (.t 49) (.t 50),none⟩,
 ⟨some 52,.fieldA 1 (.t 51),none⟩,
 ⟨some 53,.load none (.t 52),none⟩,
 ⟨some 54,.mov (.t 4),none⟩,
 ⟨some 55,.idxA 1 (.t 53) (.t 54),none⟩,
 ⟨some 56,.fieldA 0 (.t 55),none⟩,
 ⟨some 57,.load none (.t 56),none⟩,
 ⟨some 58,.call (.c (.fn (.func 16) [] [])) [(.t 57)],none⟩])
 (.cond (.t 58)
 (.seq (.reg [⟨some 2,.mov (.c (.lit (.bool true))),none⟩])
 (.ret))
 (.skip))))
 (.reg [⟨some 46,.mov (.t 4),none⟩,
 ⟨some 47,.ar .add (.t 46) (.c (.lit (.int .i64 1))),none⟩,
 ⟨some 4,.mov (.t 47),none⟩]))))))))
 (.reg [⟨some 27,.mov (.t 3),none⟩,
 ⟨some 28,.ar .add (.t 27) (.c (.lit (.int .i64 1))),none⟩,
 ⟨some 3,.mov (.t 28),none⟩]))))))
 (.seq (.seq (.reg [⟨some 5,.mov (.c (.lit (.int .i64 0))),none⟩])
 (.block 4 (.loop (.seq (.seq (.reg [⟨some 59,.mov (.t 5),none⟩,
 ⟨some 60,.fieldA 2 (.t 1),none⟩,
 ⟨some 61,.load none (.t 60),none⟩,
 ⟨some 62,.len .slc (.t 61),none⟩,
 ⟨some 63,.ar .lss (.t 59) (.t 62),none⟩])
 (.cond (.t 63)
 (.skip)
 (.exit 4)))
 (.seq (.block 5 (.seq (.reg [⟨some 66,.fieldA 2 (.t 1),none⟩,
 ⟨some 67,.load none (.t 66),none⟩,
 ⟨some 68,.mov (.t 5),none⟩,
 ⟨some 69,.idxA 4 (.t 67) (.t 68),none⟩,
 ⟨some 70,.fieldA 1 (.t 69),none⟩,
 ⟨some 71,.fieldA 2 (.t 70),none⟩,
 ⟨some 72,.load none (.t 71),none⟩,
 ⟨some 73,.call (.c (.fn (.func 16) [] [])) [(.t 72)],none⟩])
 (.cond (.t 73)
 (.seq (.reg [⟨some 2,.mov (.c (.lit (.bool true))),none⟩])
 (.ret))
 (.skip))))
 (.reg [⟨some 64,.mov (.t 5),none⟩,
 ⟨some 65,.ar .add (.t 64) (.c (.lit (.int .i64 1))),none⟩,
 ⟨some 5,.mov (.t 65),none⟩]))))))
 (.seq (.reg [⟨some 2,.mov (.c (.lit (.bool false))),none⟩])
 (.ret)))))⟩
def f16 : F := ⟨6, [.tmp 2], none, .seq (.reg [⟨some 2,.mov (.c (.lit (.bool false))),none⟩])
 (.seq (.reg [⟨some 3,.mov (.t 0),none⟩,
 ⟨some 4,.len .slc (.t 3),none⟩,
 ⟨some 5,.ar .gtr (.t 4) (.c (.lit (.int .i64 1000))),none⟩,
 ⟨some 2,.mov (.t 5),none⟩])
 (.ret))⟩
def f17 : F := ⟨14, [.tmp 2, .tmp 3], none, .seq (.reg [⟨some 1,.box (.t 0),none⟩,
 ⟨some 2,.mov (.c (.lit (.string ⟨#[]⟩))),none⟩,
 ⟨some 3,.mov (.c (.lit (.int .i64 0))),none⟩])
 (.seq (.seq (.reg [⟨some 5,.load (some 3) (.t 1),none⟩,
 ⟨some 6,.call (.c (.fn (.func 49) [] [])) [(.t 5)],none⟩,
 ⟨some 7,.not (.t 6),none⟩])
 (.cond (.t 7)
 (.seq (.reg [⟨some 2,.mov (.c (.lit (.string ⟨#[]⟩))),none⟩,
 ⟨some 3,.mov (.c (.lit (.int .i64 2))),none⟩])
 (.ret))
 (.skip)))
 (.seq (.reg [⟨some 8,.load (some 3) (.t 1),none⟩,
 ⟨some 9,.call (.c (.fn (.func 53) [] [])) [(.t 8)],none⟩,
 ⟨some 4,.mov (.t 9),none⟩])
 (.seq (.seq (.reg [⟨some 10,.mov (.t 4),none⟩,
 ⟨some 11,.len .str (.t 10),none⟩,
 ⟨some 12,.ar .gtr (.t 11) (.c (.lit (.int .i64 80000))),none⟩])
 (.cond (.t 12)
 (.seq (.reg [⟨some 2,.mov (.c (.lit (.string ⟨#[]⟩))),none⟩,
 ⟨some 3,.mov (.c (.lit (.int .i64 3))),none⟩])
 (.ret))
 (.skip)))
 (.seq (.reg [⟨some 13,.mov (.t 4),none⟩,
 ⟨some 2,.mov (.t 13),none⟩,
 ⟨some 3,.mov (.c (.lit (.int .i64 0))),none⟩])
 (.ret)))))⟩
def f18 : F := ⟨9, [.tmp 2, .tmp 3], none, .seq (.reg [⟨some 1,.box (.t 0),none⟩,
 ⟨some 2,.mov (.c (.lit (.string ⟨#[]⟩))),none⟩,
 ⟨some 3,.mov (.c (.lit (.int .i64 0))),none⟩])
 (.seq (.seq (.reg [⟨some 4,.load (some 2) (.t 1),none⟩,
 ⟨some 5,.call (.c (.fn (.func 54) [] [])) [(.t 4)],none⟩,
 ⟨some 6,.not (.t 5),none⟩])
 (.cond (.t 6)
 (.seq (.reg [⟨some 2,.mov (.c (.lit (.string ⟨#[]⟩))),none⟩,
 ⟨some 3,.mov (.c (.lit (.int .i64 2))),none⟩])
 (.ret))
 (.skip)))
 (.seq (.reg [⟨some 7,.load (some 2) (.t 1),none⟩,
 ⟨some 8,.call (.c (.fn (.func 55) [] [])) [(.t 7)],none⟩,
 ⟨some 2,.mov (.t 8),none⟩,
 ⟨some 3,.mov (.c (.lit (.int .i64 0))),none⟩])
 (.ret)))⟩
def f19 : F := ⟨25, [.cell 2 (some 3), .tmp 3], none, .seq (.reg [⟨some 1,.box (.t 0),none⟩,
 ⟨some 2,.alloc [.lit (.slice none 0 0), .lit (.slice none 0 0), .lit (.slice none 0 0)],none⟩,
 ⟨some 3,.mov (.c (.lit (.int .i64 0))),none⟩])
 (.seq (.seq (.reg [⟨some 5,.load none (.t 1),none⟩,
 ⟨some 6,.len .str (.t 5),none⟩,
 ⟨some 7,.ar .gtr (.t 6) (.c (.lit (.int .i64 80000))),none⟩])
 (.cond (.t 7)
 (.seq (.reg [⟨some 8,.build [.lit (.slice none 0 0), .lit (.slice none 0 0), .lit (.slice none 0 0)] [],none⟩,
 ⟨none, .store 3 (.t 2) (.t 8),none⟩,
 ⟨some 3,.mov (.c (.lit (.int .i64 3))),none⟩])
 (.ret))
 (.skip)))
 (.seq (.reg [⟨some 4,.alloc [.lit (.slice none 0 0), .lit (.slice none 0 0), .lit (.slice none 0 0)],none⟩])
 (.seq (.seq (.regD [(.pure, ⟨some 9,.func (.func 57) [] [(.t 1), (.t 4)],none⟩),
  (.loud true [], ⟨some 10,.call (.c (.fn (.func 56) [] [])) [(.t 9)],none⟩),
  (.pure, ⟨some 11,.not (.t 10),none⟩),
  (.pure, ⟨some 12,.mov (.t 11),none⟩),
  (.read 1 1, ⟨some 13,.load (some 3) (.t 4), (some (12, false))⟩),
  (.loud true [], ⟨some 14,.call (.c (.fn (.func 49) [] [])) [(.t 13)], (some (12, false))⟩),
  (.pure, ⟨some 15,.not (.t 14), (some (12, false))⟩),
  (.pure, ⟨some 16,.pick (.t 12) (.c (.lit (.bool true))) (.t 15),none⟩),
  (.pure, ⟨some 17,.mov (.t 16),none⟩),
  (.read 2 2, ⟨some 18,.load (some 3) (.t 4), (some (17, false))⟩),
  (.loud false [], ⟨some 19,.call (.c (.fn (.func 53) [] [])) [(.t 18)], (some (17, false))⟩),
  (.read 2 3, ⟨some 20,.load none (.t 1), (some (17, false))⟩),
  (.pure, ⟨some 21,.ar .neq (.t 19) (.t 20), (some (17, false))⟩),
  (.pure, ⟨some 22,.pick (.t 17) (.c (.lit (.bool true))) (.t 21),none⟩)])
 (.cond (.t 22)
 (.seq (.reg [⟨some 23,.build [.lit (.slice none 0 0), .lit (.slice none 0 0), .lit (.slice none 0 0)] [],none⟩,
 ⟨none, .store 3 (.t 2) (.t 23),none⟩,
 ⟨some 3,.mov (.c (.lit (.int .i64 4))),none⟩])
 (.ret))
 (.skip)))
 (.seq (.reg [⟨some 24,.load (some 3) (.t 4),none⟩,
 ⟨none, .store 3 (.t 2) (.t 24),none⟩,
 ⟨some 3,.mov (.c (.lit (.int .i64 0))),none⟩])
 (.ret)))))⟩
def f20 : F := ⟨27, [.cell 2 (some 2), .tmp 3], none, .seq (.reg [⟨some 1,.box (.t 0),none⟩,
 ⟨some 2,.alloc [.lit (.int .i64 0), .lit (.slice none 0 0)],none⟩,
 ⟨some 3,.mov (.c (.lit (.int .i64 0))),none⟩])
 (.seq (.seq (.reg [⟨some 6,.load none (.t 1),none⟩,
 ⟨some 7,.len .str (.t 6),none⟩,
 ⟨some 8,.ar .gtr (.t 7) (.c (.lit (.int .i64 80000))),none⟩])
 (.cond (.t 8)
 (.seq (.reg [⟨some 9,.build [.lit (.int .i64 0), .lit (.slice none 0 0)] [],none⟩,
 ⟨none, .store 2 (.t 2) (.t 9),none⟩,
 ⟨some 3,.mov (.c (.lit (.int .i64 3))),none⟩])
 (.ret))
 (.skip)))
 (.seq (.reg [⟨some 4,.alloc [.lit (.int .i64 0), .lit (.slice none 0 0)],none⟩])
 (.seq (.reg [⟨some 10,.func (.func 60) [] [(.t 1), (.t 4)],none⟩,
 ⟨some 5,.mov (.t 10),none⟩])
 (.seq (.seq (.regD [(.pure, ⟨some 11,.mov (.t 5),none⟩),
  (.loud true [], ⟨some 12,.call (.c (.fn (.func 56) [] [])) [(.t 11)],none⟩),
  (.pure, ⟨some 13,.not (.t 12),none⟩),
  (.pure, ⟨some 14,.mov (.t 13),none⟩),
  (.read 1 1, ⟨some 15,.load (some 2) (.t 4), (some (14, false))⟩),
  (.loud true [], ⟨some 16,.call (.c (.fn (.func 54) [] [])) [(.t 15)], (some (14, false))⟩),
  (.pure, ⟨some 17,.not (.t 16), (some (14, false))⟩),
  (.pure, ⟨some 18,.pick (.t 14) (.c (.lit (.bool true))) (.t 17),none⟩),
  (.pure, ⟨some 19,.mov (.t 18),none⟩),
  (.read 2 2, ⟨some 20,.load (some 2) (.t 4), (some (19, false))⟩),
  (.loud false [], ⟨some 21,.call (.c (.fn (.func 55) [] [])) [(.t 20)], (some (19, false))⟩),
  (.read 2 3, ⟨some 22,.load none (.t 1), (some (19, false))⟩),
  (.pure, ⟨some 23,.ar .neq (.t 21) (.t 22), (some (19, false))⟩),
  (.pure, ⟨some 24,.pick (.t 19) (.c (.lit (.bool true))) (.t 23),none⟩)])
 (.cond (.t 24)
 (.seq (.reg [⟨some 25,.build [.lit (.int .i64 0), .lit (.slice none 0 0)] [],none⟩,
 ⟨none, .store 2 (.t 2) (.t 25),none⟩,
 ⟨some 3,.mov (.c (.lit (.int .i64 4))),none⟩])
 (.ret))
 (.skip)))
 (.seq (.reg [⟨some 26,.load (some 2) (.t 4),none⟩,
 ⟨none, .store 2 (.t 2) (.t 26),none⟩,
 ⟨some 3,.mov (.c (.lit (.int .i64 0))),none⟩])
 (.ret))))))⟩
def f21 : F := ⟨15, [.tmp 2, .tmp 3], none, .seq (.reg [⟨some 2,.mov (.c (.lit (.slice none 0 0))),none⟩,
 ⟨some 3,.mov (.c (.lit (.int .i64 0))),none⟩])
 (.seq (.reg [⟨some 8,.mov (.t 0),none⟩,
 ⟨some 9,.call (.c (.fn (.func 63) [] [])) [(.t 8)],none⟩,
 ⟨some 7,.mov (.t 9),none⟩,
 ⟨some 10,.ext (.t 7) 0,none⟩,
 ⟨some 11,.ext (.t 7) 1,none⟩,
 ⟨some 12,.ext (.t 7) 2,none⟩,
 ⟨some 4,.mov (.t 10),none⟩,
 ⟨some 5,.mov (.t 11),none⟩,
 ⟨some 6,.mov (.t 12),none⟩])
 (.seq (.reg [⟨some 13,.mov (.t 4),none⟩,
 ⟨some 14,.mov (.t 6),none⟩,
 ⟨some 2,.mov (.t 13),none⟩,
 ⟨some 3,.mov (.t 14),none⟩])
 (.ret)))⟩
def f22 : F := ⟨91, [.tmp 4, .tmp 5], none, .seq (.reg [⟨some 4,.mov (.c (.lit (.string ⟨#[]⟩))),none⟩,
 ⟨some 5,.mov (.c (.lit (.int .i64 0))),none⟩])
 (.seq (.seq (.reg [⟨some 16,.mov (.t 0),none⟩,
 ⟨some 17,.len .str (.t 16),none⟩,
 ⟨some 18,.ar .gtr (.t 17) (.c (.lit (.int .i64 80000))),none⟩,
 ⟨some 19,.mov (.t 18),none⟩,
 ⟨some 20,.mov (.t 1), (some (19, false))⟩,
 ⟨some 21,.len .slc (.t 20), (some (19, false))⟩,
 ⟨some 22,.ar .gtr (.t 21) (.c (.lit (.int .i64 100))), (some (19, false))⟩,
 ⟨some 23,.pick (.t 19) (.c (.lit (.bool true))) (.t 22),none⟩])
 (.cond (.t 23)
 (.seq (.reg [⟨some 4,.mov (.c (.lit (.string ⟨#[]⟩))),none⟩,
 ⟨some 5,.mov (.c (.lit (.int .i64 3))),none⟩])
 (.ret))
 (.skip)))
 (.seq (.reg [⟨some 24,.makeM,none⟩,
 ⟨some 6,.alloc [.lit (.map none)],none⟩,
 ⟨none, .store 1 (.t 6) (.t 24),none⟩])
 (.seq (.seq (.reg [⟨some 25,.mov (.t 1),none⟩,
 ⟨some 26,.len .slc (.t 25),none⟩,
 ⟨some 27,.mov (.c (.lit (.int .i64 0))),none⟩])
 (.block 0 (.loop (.seq (.reg [⟨some 28,.ar .lss (.t 27) (.t 26),none⟩])
 (.seq (.cond (.t 28)
 (.skip)
 (.exit 0))
 (.seq (.block 1 (.seq (.reg [⟨some 29,.idxA 4 (.t 25) (.t 27),none⟩,
 ⟨some 30,.load (some 4) (.t 29),none⟩,
 ⟨some 8,.alloc [.lit (.int .i64 0), .lit (.int .i64 0), .lit (.int .i64 0), .lit (.int .i64 0)],none⟩,
 ⟨none, .store 4 (.t 8) (.t 30),none⟩])
 (.seq (.seq (.reg [⟨some 32,.load none (.t 6),none⟩,
 ⟨some 33,.fieldA 0 (.t 8),none⟩,
 ⟨some 34,.load (some 2) (.t 33),none⟩,
 ⟨some 35,.look (.many [.int .i64, .int .i64]) (.agg [.lit (.int .i64 0), .lit (.int .i64 0)]) true (.t 32) (.t 34),none⟩,
 ⟨some 31,.mov (.t 35),none⟩,
 ⟨some 36,.ext (.t 31) 0,none⟩,
 ⟨some 37,.ext (.t 31) 1,none⟩,
 ⟨some 9,.alloc [.lit (.int .i64 0), .lit (.int .i64 0)],none⟩,
 ⟨none, .store 2 (.t 9) (.t 36),none⟩,
 ⟨some 10,.mov (.t 37),none⟩])
 (.seq (.reg [⟨some 38,.mov (.t 10),none⟩,
 ⟨some 39,.mov (.t 38),none⟩,
 ⟨some 40,.fieldA 0 (.t 8), (some (39, false))⟩,
 ⟨some 41,.load (some 2) (.t 40), (some (39, false))⟩,
 ⟨some 42,.call (.c (.fn (.func 64) [] [])) [(.t 41)], (some (39, false))⟩,
 ⟨some 43,.not (.t 42), (some (39, false))⟩,
 ⟨some 44,.pick (.t 39) (.c (.lit (.bool true))) (.t 43),none⟩,
 ⟨some 45,.mov (.t 44),none⟩,
 ⟨some 46,.fieldA 2 (.t 8), (some (45, false))⟩,
 ⟨some 47,.load (some 2) (.t 46), (some (45, false))⟩,
 ⟨some 48,.call (.c (.fn (.func 64) [] [])) [(.t 47)], (some (45, false))⟩,
 ⟨some 49,.not (.t 48), (some (45, false))⟩,
 ⟨some 50,.pick (.t 45) (.c (.lit (.bool true))) (.t 49),none⟩,
 ⟨some 51,.mov (.t 50),none⟩,
 ⟨some 52,.fieldA 0 (.t 8), (some (51, false))⟩,
 ⟨some 53,.fieldA 0 (.t 52), (some (51, false))⟩,
 ⟨some 54,.load none (.t 53), (some (51, false))⟩,
 ⟨some 55,.fieldA 2 (.t 8), (some (51, false))⟩,
 ⟨some 56,.fieldA 0 (.t 55), (some (51, false))⟩,
 ⟨some 57,.load none (.t 56), (some (51, false))⟩,
 ⟨some 58,.ar .neq (.t 54) (.t 57), (some (51, false))⟩,
 ⟨some 59,.pick (.t 51) (.c (.lit (.bool true))) (.t 58),none⟩])
 (.cond (.t 59)
 (.seq (.reg [⟨some 4,.mov (.c (.lit (.string ⟨#[]⟩))),none⟩,
 ⟨some 5,.mov (.c (.lit (.int .i64 2))),none⟩])
 (.ret))
 (.skip))))
 (.reg [⟨some 60,.load none (.t 6),none⟩,
 ⟨some 61,.fieldA 0 (.t 8),none⟩,
 ⟨some 62,.load (some 2) (.t 61),none⟩,
 ⟨some 63,.fieldA 2 (.t 8),none⟩,
 ⟨some 64,.load (some 2) (.t 63),none⟩,
 ⟨none, .upd (.many [.int .i64, .int .i64]) (.t 60) (.t 62) (.t 64),none⟩]))))
 (.reg [⟨some 65,.ar .add (.t 27) (.c (.lit (.int .i64 1))),none⟩,
 ⟨some 27,.mov (.t 65),none⟩])))))))
 (.seq (.reg [⟨some 67,.mov (.t 0),none⟩,
 ⟨some 68,.call (.c (.fn (.func 63) [] [])) [(.t 67)],none⟩,
 ⟨some 66,.mov (.t 68),none⟩,
 ⟨some 69,.ext (.t 66) 0,none⟩,
 ⟨some 70,.ext (.t 66) 1,none⟩,
 ⟨some 71,.ext (.t 66) 2,none⟩,
 ⟨some 11,.mov (.t 69),none⟩,
 ⟨some 12,.mov (.t 70),none⟩,
 ⟨some 13,.mov (.t 71),none⟩])
 (.seq (.seq (.reg [⟨some 72,.mov (.t 13),none⟩,
 ⟨some 73,.ar .neq (.t 72) (.c (.lit (.int .i64 0))),none⟩])
 (.cond (.t 73)
 (.seq (.reg [⟨some 74,.mov (.t 13),none⟩,
 ⟨some 4,.mov (.c (.lit (.string ⟨#[]⟩))),none⟩,
 ⟨some 5,.mov (.t 74),none⟩])
 (.ret))
 (.skip)))
 (.seq (.reg [⟨some 75,.makeM,none⟩,
 ⟨some 14,.alloc [.lit (.map none)],none⟩,
 ⟨none, .store 1 (.t 14) (.t 75),none⟩])
 (.seq (.reg [⟨some 76,.mov (.t 11),none⟩,
 ⟨some 77,.func (.func 66) [] [(.t 6), (.t 14)],none⟩,
 ⟨some 78,.call (.c (.fn (.func 65) [] [])) [(.t 76), (.t 77)],none⟩,
 ⟨some 15,.mov (.t 78),none⟩])
 (.seq (.seq (.reg [⟨some 79,.load none (.t 14),none⟩,
 ⟨some 80,.len .map (.t 79),none⟩,
 ⟨some 81,.mov (.t 15),none⟩,
 ⟨some 82,.len .slc (.t 81),none⟩,
 ⟨some 83,.ar .lss (.t 80) (.t 82),none⟩])
 (.cond (.t 83)
 (.seq (.reg [⟨some 4,.mov (.c (.lit (.string ⟨#[]⟩))),none⟩,
 ⟨some 5,.mov (.c (.lit (.int .i64 7))),none⟩])
 (.ret))
 (.skip)))
 (.seq (.reg [⟨some 84,.mov (.t 0),none⟩,
 ⟨some 85,.idxS (.t 84) (.c (.lit (.int .i64 0))),none⟩,
 ⟨some 86,.mov (.t 15),none⟩,
 ⟨some 87,.call (.c (.fn (.func 68) [] [])) [(.t 85), (.t 86)],none⟩,
 ⟨some 88,.mov (.t 12),none⟩,
 ⟨some 89,.app 1 1 (.t 87) (.t 88),none⟩,
 ⟨some 90,.call (.c (.fn (.func 67) [] [])) [(.t 89)],none⟩,
 ⟨some 4,.mov (.t 90),none⟩,
 ⟨some 5,.mov (.c (.lit (.int .i64 0))),none⟩])
 (.ret))))))))))⟩
def f23 : F := ⟨9, [.tmp 4], none, .seq (.reg [⟨some 3,.box (.t 1),none⟩,
 ⟨some 4,.mov (.c (.lit (.bool false))),none⟩])
 (.seq (.reg [⟨some 5,.mov (.t 0),none⟩,
 ⟨some 6,.load (some 2) (.t 3),none⟩,
 ⟨some 7,.call (.c (.fn (.func 69) [] [])) [(.t 5), (.t 6)],none⟩,
 ⟨some 8,.ar .geq (.t 7) (.c (.lit (.int .i64 0))),none⟩,
 ⟨some 4,.mov (.t 8),none⟩])
 (.ret))⟩
def f24 : F := ⟨105, [.cell 4 (some 3)], none, .seq (.reg [⟨some 2,.box (.t 0),none⟩,
 ⟨some 3,.box (.t 1),none⟩,
 ⟨some 4,.alloc [.lit (.slice none 0 0), .lit (.slice none 0 0), .lit (.slice none 0 0)],none⟩])
 (.seq (.reg [⟨some 17,.func (.func 70) [] [(.t 3)],none⟩,
 ⟨some 5,.mov (.t 17),none⟩])
 (.seq (.reg [⟨some 18,.func (.func 71) [] [(.t 3)],none⟩,
 ⟨some 6,.mov (.t 18),none⟩])
 (.seq (.reg [⟨some 7,.alloc [.lit (.slice none 0 0), .lit (.slice none 0 0), .lit (.slice none 0 0)],none⟩])
 (.seq (.seq (.reg [⟨some 19,.fieldA 0 (.t 2),none⟩,
 ⟨some 20,.load none (.t 19),none⟩,
 ⟨some 21,.len .slc (.t 20),none⟩,
 ⟨some 22,.mov (.c (.lit (.int .i64 0))),none⟩])
 (.block 0 (.loop (.seq (.reg [⟨some 23,.ar .lss (.t 22) (.t 21),none⟩])
 (.seq (.cond (.t 23)
 (.skip)
 (.exit 0))
 (.seq (.block 1 (.seq (.reg [⟨some 24,.idxA 1 (.t 20) (.t 22),none⟩,
 ⟨some 25,.load none (.t 24),none⟩,
 ⟨some 9,.mov (.t 25),none⟩])
 (.regD [(.read 0 1, ⟨some 26,.fieldA 0 (.t 7),none⟩),
  (.read 0 1, ⟨some 27,.load none (.t 26),none⟩),
  (.pure, ⟨some 28,.mov (.t 5),none⟩),
  (.pure, ⟨some 29,.mov (.t 9),none⟩),
  (.loud true [], ⟨some 30,.call (.t 28) [(.t 29)],none⟩),
  (.made, ⟨some 31,.lits 1 1 [.lit (.int .i64 0)] [(0, 1, (.t 30))],none⟩),
  (.loud true [], ⟨some 32,.app 1 8 (.t 27) (.t 31),none⟩),
  (.read 2 2, ⟨some 33,.fieldA 0 (.t 7),none⟩),
  (.loud true [], ⟨none, .store 1 (.t 33) (.t 32),none⟩)])))
 (.reg [⟨some 34,.ar .add (.t 22) (.c (.lit (.int .i64 1))),none⟩,
 ⟨some 22,.mov (.t 34),none⟩])))))))
 (.seq (.seq (.reg [⟨some 35,.fieldA 1 (.t 2),none⟩,
 ⟨some 36,.load none (.t 35),none⟩,
 ⟨some 37,.len .slc (.t 36),none⟩,
 ⟨some 38,.mov (.c (.lit (.int .i64 0))),none⟩])
 (.block 2 (.loop (.seq (.reg [⟨some 39,.ar .lss (.t 38) (.t 37),none⟩])
 (.seq (.cond (.t 39)
 (.skip)
 (.exit 2))
 (.seq (.block 3 (.seq (.reg [⟨some 40,.idxA 2 (.t 36) (.t 38),none⟩,
 ⟨some 41,.load (some 2) (.t 40),none⟩,
 ⟨some 11,.alloc [.lit (.int .i64 0), .lit (.slice none 0 0)],none⟩,
 ⟨none, .store 2 (.t 11) (.t 41),none⟩])
 (.seq (.regD [(.read 0 0, ⟨some 42,.fieldA 0 (.t 11),none⟩),
  (.read 0 0, ⟨some 43,.load none (.t 42),none⟩),
  (.loud false [], ⟨some 44,.call (.c (.fn (.func 39) [] [])) [(.c (.lit (.int .i64 3))), (.t 43)],none⟩),
  (.read 0 1, ⟨some 45,.load none (.t 3),none⟩),
  (.loud false [], ⟨some 46,.call (.c (.fn (.func 25) [] [])) [(.t 44), (.t 45)],none⟩),
  (.pure, ⟨some 47,.field 1 none (.t 46),none⟩),
  (.pure, ⟨some 48,.build [.lit (.int .i64 0), .lit (.slice none 0 0)] [(0, 1, (.t 47))],none⟩),
  (.made, ⟨some 12,.alloc [.lit (.int .i64 0), .lit (.slice none 0 0)],none⟩),
  (.loud true [], ⟨none, .store 2 (.t 12) (.t 48),none⟩)])
 (.seq (.seq (.reg [⟨some 49,.fieldA 1 (.t 11),none⟩,
 ⟨some 50,.load none (.t 49),none⟩,
 ⟨some 51,.len .slc (.t 50),none⟩,
 ⟨some 52,.mov (.c (.lit (.int .i64 0))),none⟩])
 (.block 4 (.loop (.seq (.reg [⟨some 53,.ar .lss (.t 52) (.t 51),none⟩])
 (.seq (.cond (.t 53)
 (.skip)
 (.exit 4))
 (.seq (.block 5 (.seq (.reg [⟨some 54,.idxA 1 (.t 50) (.t 52),none⟩,
 ⟨some 55,.load (some 1) (.t 54),none⟩,
 ⟨some 14,.alloc [.lit (.slice none 0 0)],none⟩,
 ⟨none, .store 1 (.t 14) (.t 55),none⟩])
 (.regD [(.read 0 1, ⟨some 56,.fieldA 1 (.t 12),none⟩),
  (.read 0 1, ⟨some 57,.load none (.t 56),none⟩),
  (.pure, ⟨some 58,.mov (.t 6),none⟩),
  (.read 0 0, ⟨some 59,.fieldA 0 (.t 14),none⟩),
  (.read 0 0, ⟨some 60,.load none (.t 59),none⟩),
  (.loud true [], ⟨some 61,.call (.t 58) [(.t 60)],none⟩),
  (.pure, ⟨some 62,.build [.lit (.slice none 0 0)] [(0, 1, (.t 61))],none⟩),
  (.made, ⟨some 63,.lits 1 1 [.lit (.slice none 0 0)] [(0, 1, (.t 62))],none⟩),
  (.loud true [], ⟨some 64,.app 1 24 (.t 57) (.t 63),none⟩),
  (.read 2 2, ⟨some 65,.fieldA 1 (.t 12),none⟩),
  (.loud true [], ⟨none, .store 1 (.t 65) (.t 64),none⟩)])))
 (.reg [⟨some 66,.ar .add (.t 52) (.c (.lit (.int .i64 1))),none⟩,
 ⟨some 52,.mov (.t 66),none⟩])))))))
 (.reg [⟨some 67,.fieldA 1 (.t 7),none⟩,
 ⟨some 68,.load none (.t 67),none⟩,
 ⟨some 69,.load (some 2) (.t 12),none⟩,
 ⟨some 70,.lits 2 1 [.lit (.int .i64 0), .lit (.slice none 0 0)] [(0, 2, (.t 69))],none⟩,
 ⟨some 71,.app 2 32 (.t 68) (.t 70),none⟩,
 ⟨some 72,.fieldA 1 (.t 7),none⟩,
 ⟨none, .store 1 (.t 72) (.t 71),none⟩])))))
 (.reg [⟨some 73,.ar .add (.t 38) (.c (.lit (.int .i64 1))),none⟩,
 ⟨some 38,.mov (.t 73),none⟩])))))))
 (.seq (.seq (.reg [⟨some 74,.fieldA 2 (.t 2),none⟩,
 ⟨some 75,.load none (.t 74),none⟩,
 ⟨some 76,.len .slc (.t 75),none⟩,
 ⟨some 77,.mov (.c (.lit (.int .i64 0))),none⟩])
 (.block 6 (.loop (.seq (.reg [⟨some 78,.ar .lss (.t 77) (.t 76),none⟩])
 (.seq (.cond (.t 78)
 (.skip)
 (.exit 6))
 (.seq (.block 7 (.seq (.reg [⟨some 79,.idxA 4 (.t 75) (.t 77),none⟩,
 ⟨some 80,.load (some 4) (.t 79),none⟩,
 ⟨some 16,.alloc [.lit (.int .i64 0), .lit (.int .i64 0), .lit (.int .i64 0), .lit (.slice none 0 0)],none⟩,
 ⟨none, .store 4 (.t 16) (.t 80),none⟩])
 (.regD [(.read 0 2, ⟨some 81,.fieldA 2 (.t 7),none⟩),
  (.read 0 2, ⟨some 82,.load none (.t 81),none⟩),
  (.read 0 2, ⟨some 83,.fieldA 0 (.t 16),none⟩),
  (.read 0 2, ⟨some 84,.load none (.t 83),none⟩),
  (.pure, ⟨some 85,.mov (.t 5),none⟩),
  (.read 0 0, ⟨some 86,.fieldA 1 (.t 16),none⟩),
  (.read 0 0, ⟨some 87,.fieldA 0 (.t 86),none⟩),
  (.read 0 0, ⟨some 88,.load none (.t 87),none⟩),
  (.loud false [], ⟨some 89,.call (.t 85) [(.t 88)],none⟩),
  (.read 0 2, ⟨some 90,.fieldA 1 (.t 16),none⟩),
  (.read 0 2, ⟨some 91,.fieldA 1 (.t 90),none⟩),
  (.read 0 2, ⟨some 92,.load none (.t 91),none⟩),
  (.pure, ⟨some 93,.mov (.t 6),none⟩),
  (.read 0 1, ⟨some 94,.fieldA 1 (.t 16),none⟩),
  (.read 0 1, ⟨some 95,.fieldA 2 (.t 94),none⟩),
  (.read 0 1, ⟨some 96,.load none (.t 95),none⟩),
  (.loud true [], ⟨some 97,.call (.t 93) [(.t 96)],none⟩),
  (.pure, ⟨some 98,.build [.lit (.int .i64 0), .lit (.int .i64 0), .lit (.slice none 0 0)] [(0, 1, (.t 89)), (1, 1, (.t 92)), (2, 1, (.t 97))],none⟩),
  (.pure, ⟨some 99,.build [.lit (.int .i64 0), .lit (.int .i64 0), .lit (.int .i64 0), .lit (.slice none 0 0)] [(0, 1, (.t 84)), (1, 3, (.t 98))],none⟩),
  (.made, ⟨some 100,.lits 4 1 [.lit (.int .i64 0), .lit (.int .i64 0), .lit (.int .i64 0), .lit (.slice none 0 0)] [(0, 4, (.t 99))],none⟩),
  (.loud true [], ⟨some 101,.app 4 48 (.t 82) (.t 100),none⟩),
  (.read 3 3, ⟨some 102,.fieldA 2 (.t 7),none⟩),
  (.loud true [], ⟨none, .store 1 (.t 102) (.t 101),none⟩)])))
 (.reg [⟨some 103,.ar .add (.t 77) (.c (.lit (.int .i64 1))),none⟩,
 ⟨some 77,.mov (.t 103),none⟩])))))))
 (.seq (.reg [⟨some 104,.load (some 3) (.t 7),none⟩,
 ⟨none, .store 3 (.t 4) (.t 104),none⟩])
 (.ret))))))))⟩
def f25 : F := ⟨21, [.cell 4 (some 2)], none, .seq (.reg [⟨some 2,.box (.t 0),none⟩,
 ⟨some 4,.alloc [.lit (.int .i64 0), .lit (.int .i64 0)],none⟩])
 (.seq (.seq (.reg [⟨some 7,.mov (.t 1),none⟩,
 ⟨some 8,.len .slc (.t 7),none⟩,
 ⟨some 9,.mov (.c (.lit (.int .i64 0))),none⟩])
 (.block 0 (.loop (.seq (.reg [⟨some 10,.ar .lss (.t 9) (.t 8),none⟩])
 (.seq (.cond (.t 10)
 (.skip)
 (.exit 0))
 (.seq (.block 1 (.seq (.reg [⟨some 11,.idxA 4 (.t 7) (.t 9),none⟩,
 ⟨some 12,.load (some 4) (.t 11),none⟩,
 ⟨some 6,.alloc [.lit (.int .i64 0), .lit (.int .i64 0), .lit (.int .i64 0), .lit (.int .i64 0)],none⟩,
 ⟨none, .store 4 (.t 6) (.t 12),none⟩])
 (.seq (.reg [⟨some 13,.fieldA 0 (.t 6),none⟩,
 ⟨some 14,.load (some 2) (.t 13),none⟩,
 ⟨some 15,.load (some 2) (.t 2),none⟩,
 ⟨some 16,.eqA false [.int .i64, .int .i64] (.t 14) (.t 15),none⟩])
 (.cond (.t 16)
 (.seq (.reg [⟨some 17,.fieldA 2 (.t 6),none⟩,
 ⟨some 18,.load (some 2) (.t 17),none⟩,
 ⟨none, .store 2 (.t 4) (.t 18),none⟩])
 (.ret))
 (.skip)))))
 (.reg [⟨some 19,.ar .add (.t 9) (.c (.lit (.int .i64 1))),none⟩,
 ⟨some 9,.mov (.t 19),none⟩])))))))
 (.seq (.reg [⟨some 20,.load (some 2) (.t 2),none⟩,
 ⟨none, .store 2 (.t 4) (.t 20),none⟩])
 (.ret)))⟩
def f36 : F := ⟨36, [.cell 0 (some 4)], none, .seq (.reg [⟨some 0,.alloc [.lit (.slice none 0 0), .lit (.slice none 0 0), .lit (.slice none 0 0), .lit (.int .i64 0)],none⟩])
 (.seq (.reg [⟨some 2,.build [.lit (.int .i64 0), .lit (.int .i64 0)] [(1, 1, (.c (.lit (.int .i64 1))))],none⟩,
 ⟨some 3,.build [.lit (.int .i64 0), .lit (.int .i64 0)] [],none⟩,
 ⟨some 4,.lits 2 2 [.lit (.int .i64 0), .lit (.int .i64 0), .lit (.int .i64 0), .lit (.int .i64 0)] [(0, 2, (.t 2)), (2, 2, (.t 3))],none⟩,
 ⟨some 5,.build [.lit (.int .i64 0), .lit (.int .i64 0)] [(1, 1, (.c (.lit (.int .i64 2))))],none⟩,
 ⟨some 6,.lits 2 1 [.lit (.int .i64 0), .lit (.int .i64 0)] [(0, 2, (.t 5))],none⟩,
 ⟨some 7,.lits 1 2 [.lit (.int .i64 0), .lit (.int .i64 0)] [(0, 1, (.c (.lit (.int .i64 0)))), (1, 1, (.c (.lit (.int .i64 1))))],none⟩,
 ⟨some 8,.build [.lit (.int .i64 0), .lit (.slice none 0 0), .lit (.int .i64 0)] [(1, 1, (.t 7)), (2, 1, (.c (.lit (.int .i64 1))))],none⟩,
 ⟨some 9,.lits 3 1 [.lit (.int .i64 0), .lit (.slice none 0 0), .lit (.int .i64 0)] [(0, 3, (.t 8))],none⟩,
 ⟨some 10,.build [.lit (.slice none 0 0), .lit (.slice none 0 0), .lit (.slice none 0 0)] [(0, 1, (.t 4)), (1, 1, (.t 6)), (2, 1, (.t 9))],none⟩,
 ⟨some 1,.alloc [.lit (.slice none 0 0), .lit (.slice none 0 0), .lit (.slice none 0 0)],none⟩,
 ⟨none, .store 3 (.t 1) (.t 10),none⟩])
 (.seq (.regD [(.made, ⟨some 11,.lits 1 1 [.lit (.string ⟨#[]⟩)] [(0, 1, (.c (.lit (.string ⟨#[111, 117, 116]⟩))))],none⟩),
  (.read 0 4, ⟨some 12,.load (some 3) (.t 1),none⟩),
  (.made, ⟨some 13,.lits 3 1 [.lit (.slice none 0 0), .lit (.slice none 0 0), .lit (.slice none 0 0)] [(0, 3, (.t 12))],none⟩),
  (.made, ⟨some 14,.lits 1 1 [.lit (.int .i64 0)] [(0, 1, (.c (.lit (.int .i64 3))))],none⟩),
  (.pure, ⟨some 15,.build [.lit (.int .i64 0), .lit (.int .i64 0), .lit (.slice none 0 0), .lit (.slice none 0 0)] [(0, 1, (.c (.lit (.int .i64 4)))), (3, 1, (.t 14))],none⟩),
  (.loud false [11, 13, 14], ⟨some 16,.call (.c (.fn (.func 92) [] [])) [(.c (.lit (.int .i64 4)))],none⟩),
  (.pure, ⟨some 17,.build [.lit (.int .i64 0), .lit (.int .i64 0), .lit (.slice none 0 0), .lit (.slice none 0 0)] [(0, 1, (.c (.lit (.int .i64 2)))), (1, 1, (.c (.lit (.int .i64 0)))), (2, 1, (.t 16))],none⟩),
  (.pure, ⟨some 18,.build [.lit (.int .i64 0), .lit (.int .i64 0), .lit (.slice none 0 0), .lit (.slice none 0 0)] [(0, 1, (.c (.lit (.int .i64 7))))],none⟩),
  (.made, ⟨some 19,.lits 1 2 [.lit (.int .i64 0), .lit (.int .i64 0)] [(0, 1, (.c (.lit (.int .i64 4)))), (1, 1, (.c (.lit (.int .i64 5))))],none⟩),
  (.pure, ⟨some 20,.build [.lit (.int .i64 0), .lit (.int .i64 0), .lit (.slice none 0 0), .lit (.slice none 0 0)] [(0, 1, (.c (.lit (.int .i64 3)))), (3, 1, (.t 19))],none⟩),
  (.loud false [11, 13, 14, 19], ⟨some 21,.call (.c (.fn (.func 93) [] [])) [(.c (.lit (.int .i64 1)))],none⟩),
  (.pure, ⟨some 22,.build [.lit (.int .i64 0), .lit (.int .i64 0), .lit (.slice none 0 0), .lit (.slice none 0 0)] [(0, 1, (.c (.lit (.int .i64 2)))), (1, 1, (.c (.lit (.int .i64 1)))), (2, 1, (.t 21))],none⟩),
  (.made, ⟨some 23,.lits 1 2 [.lit (.int .i64 0), .lit (.int .i64 0)] [(0, 1, (.c (.lit (.int .i64 6)))), (1, 1, (.c (.lit (.int .i64 7))))],none⟩),
  (.pure, ⟨some 24,.build [.lit (.int .i64 0), .lit (.int .i64 0), .lit (.slice none 0 0), .lit (.slice none 0 0)] [(0, 1, (.c (.lit (.int .i64 3)))), (3, 1, (.t 23))],none⟩),
  (.loud false [11, 13, 14, 19, 23], ⟨some 25,.call (.c (.fn (.func 93) [] [])) [(.c (.lit (.int .i64 2)))],none⟩),
  (.pure, ⟨some 26,.build [.lit (.int .i64 0), .lit (.int .i64 0), .lit (.slice none 0 0), .lit (.slice none 0 0)] [(0, 1, (.c (.lit (.int .i64 2)))), (1, 1, (.c (.lit (.int .i64 1)))), (2, 1, (.t 25))],none⟩),
  (.made, ⟨some 27,.lits 1 2 [.lit (.int .i64 0), .lit (.int .i64 0)] [(0, 1, (.c (.lit (.int .i64 8)))), (1, 1, (.c (.lit (.int .i64 9))))],none⟩),
  (.pure, ⟨some 28,.build [.lit (.int .i64 0), .lit (.int .i64 0), .lit (.slice none 0 0), .lit (.slice none 0 0)] [(0, 1, (.c (.lit (.int .i64 3)))), (3, 1, (.t 27))],none⟩),
  (.pure, ⟨some 29,.build [.lit (.int .i64 0), .lit (.int .i64 0), .lit (.slice none 0 0), .lit (.slice none 0 0)] [(0, 1, (.c (.lit (.int .i64 2)))), (1, 1, (.c (.lit (.int .i64 2))))],none⟩),
  (.made, ⟨some 30,.lits 1 1 [.lit (.int .i64 0)] [(0, 1, (.c (.lit (.int .i64 10))))],none⟩),
  (.pure, ⟨some 31,.build [.lit (.int .i64 0), .lit (.int .i64 0), .lit (.slice none 0 0), .lit (.slice none 0 0)] [(0, 1, (.c (.lit (.int .i64 8)))), (1, 1, (.c (.lit (.int .i64 3)))), (3, 1, (.t 30))],none⟩),
  (.loud true [11, 13, 14, 19, 23, 27, 30], ⟨some 32,.call (.c (.fn (.func 93) [] [])) [(.c (.lit (.int .i64 3)))],none⟩),
  (.pure, ⟨some 33,.build [.lit (.int .i64 0), .lit (.int .i64 0), .lit (.slice none 0 0), .lit (.slice none 0 0)] [(0, 1, (.c (.lit (.int .i64 2)))), (1, 1, (.c (.lit (.int .i64 1)))), (2, 1, (.t 32))],none⟩),
  (.made, ⟨some 34,.lits 4 11 [.lit (.int .i64 0), .lit (.int .i64 0), .lit (.slice none 0 0), .lit (.slice none 0 0), .lit (.int .i64 0), .lit (.int .i64 0), .lit (.slice none 0 0), .lit (.slice none 0 0), .lit (.int .i64 0), .lit (.int .i64 0), .lit (.slice none 0 0), .lit (.slice none 0 0), .lit (.int .i64 0), .lit (.int .i64 0), .lit (.slice none 0 0), .lit (.slice none 0 0), .lit (.int .i64 0), .lit (.int .i64 0), .lit (.slice none 0 0), .lit (.slice none 0 0), .lit (.int .i64 0), .lit (.int .i64 0), .lit (.slice none 0 0), .lit (.slice none 0 0), .lit (.int .i64 0), .lit (.int .i64 0), .lit (.slice none 0 0), .lit (.slice none 0 0), .lit (.int .i64 0), .lit (.int .i64 0), .lit (.slice none 0 0), .lit (.slice none 0 0), .lit (.int .i64 0), .lit (.int .i64 0), .lit (.slice none 0 0), .lit (.slice none 0 0), .lit (.int .i64 0), .lit (.int .i64 0), .lit (.slice none 0 0), .lit (.slice none 0 0), .lit (.int .i64 0), .lit (.int .i64 0), .lit (.slice none 0 0), .lit (.slice none 0 0)] [(0, 4, (.t 15)), (4, 4, (.t 17)), (8, 4, (.t 18)), (12, 4, (.t 20)), (16, 4, (.t 22)), (20, 4, (.t 24)), (24, 4, (.t 26)), (28, 4, (.t 28)), (32, 4, (.t 29)), (36, 4, (.t 31)), (40, 4, (.t 33))],none⟩),
  (.pure, ⟨some 35,.build [.lit (.slice none 0 0), .lit (.slice none 0 0), .lit (.slice none 0 0), .lit (.int .i64 0)] [(0, 1, (.t 11)), (2, 1, (.t 13)), (1, 1, (.t 34))],none⟩),
  (.loud true [], ⟨none, .store 4 (.t 0) (.t 35),none⟩)])
 (.ret)))⟩
def f37 : F := ⟨39, [.cell 2 (some 4), .tmp 3, .tmp 4], none, .seq (.reg [⟨some 1,.box (.t 0),none⟩,
 ⟨some 2,.alloc [.lit (.slice none 0 0), .lit (.slice none 0 0), .lit (.slice none 0 0), .lit (.slice none 0 0)],none⟩,
 ⟨some 3,.mov (.c (.lit (.slice none 0 0))),none⟩,
 ⟨some 4,.mov (.c (.lit (.int .i64 0))),none⟩])
 (.seq (.reg [⟨some 8,.load (some 4) (.t 1),none⟩,
 ⟨some 9,.build [.lit (.slice none 0 0), .lit (.slice none 0 0), .lit (.slice none 0 0), .lit (.int .i64 0), .lit (.slice none 0 0), .lit (.slice none 0 0), .lit (.slice none 0 0), .lit (.slice none 0 0), .lit (.slice none 0 0), .lit (.int .i64 0), .lit (.bool false)] [(0, 4, (.t 8))],none⟩,
 ⟨some 10,.box (.t 9),none⟩,
 ⟨some 5,.mov (.t 10),none⟩])
 (.seq (.reg [⟨some 11,.mov (.t 5),none⟩,
 ⟨some 12,.build [.lit (.int .i64 0), .lit (.bool false)] [(0, 1, (.c (.lit (.int .i64 (-1)))))],none⟩,
 ⟨some 13,.lits 2 1 [.lit (.int .i64 0), .lit (.bool false)] [(0, 2, (.t 12))],none⟩,
 ⟨some 14,.chk (.t 11),none⟩,
 ⟨some 15,.fieldA 4 (.t 14),none⟩,
 ⟨some 16,.fieldA 0 (.t 15),none⟩,
 ⟨none, .store 1 (.t 16) (.t 13),none⟩])
 (.seq (.reg [⟨some 6,.mov (.c (.lit (.slice none 0 0))),none⟩])
 (.seq (.seq (.reg [⟨some 7,.mov (.c (.lit (.int .i64 0))),none⟩])
 (.block 0 (.loop (.seq (.seq (.reg [⟨some 17,.mov (.t 7),none⟩,
 ⟨some 18,.fieldA 0 (.t 1),none⟩,
 ⟨some 19,.load none (.t 18),none⟩,
 ⟨some 20,.len .slc (.t 19),none⟩,
 ⟨some 21,.ar .lss (.t 17) (.t 20),none⟩])
 (.cond (.t 21)
 (.skip)
 (.exit 0)))
 (.seq (.block 1 (.reg [⟨some 24,.mov (.t 6),none⟩,
 ⟨some 25,.mov (.t 7),none⟩,
 ⟨some 26,.build [.lit (.int .i64 0), .lit (.int .i64 0)] [(0, 1, (.c (.lit (.int .i64 2)))), (1, 1, (.t 25))],none⟩,
 ⟨some 27,.lits 2 1 [.lit (.int .i64 0), .lit (.int .i64 0)] [(0, 2, (.t 26))],none⟩,
 ⟨some 28,.app 2 16 (.t 24) (.t 27),none⟩,
 ⟨some 6,.mov (.t 28),none⟩]))
 (.reg [⟨some 22,.mov (.t 7),none⟩,
 ⟨some 23,.ar .add (.t 22) (.c (.lit (.int .i64 1))),none⟩,
 ⟨some 7,.mov (.t 23),none⟩]))))))
 (.seq (.reg [⟨some 29,.mov (.t 5),none⟩,
 ⟨some 30,.fieldA 3 (.t 1),none⟩,
 ⟨some 31,.load none (.t 30),none⟩,
 ⟨some 32,.mov (.t 6),none⟩,
 ⟨some 33,.call (.c (.fn (.func 94) [] [])) [(.t 29), (.t 31), (.c (.lit (.int .i64 0))), (.t 32)],none⟩])
 (.seq (.reg [⟨some 34,.mov (.t 5),none⟩,
 ⟨some 35,.call (.c (.fn (.func 95) [] [])) [(.t 34)],none⟩,
 ⟨some 36,.ext (.t 35) 0,none⟩,
 ⟨some 37,.ext (.t 35) 1,none⟩,
 ⟨some 38,.ext (.t 35) 2,none⟩,
 ⟨none, .store 4 (.t 2) (.t 36),none⟩,
 ⟨some 3,.mov (.t 37),none⟩,
 ⟨some 4,.mov (.t 38),none⟩])
 (.ret)))))))⟩
def f38 : F := ⟨5, [.cell 0 (some 2)], none, .seq (.reg [⟨some 0,.alloc [.lit (.int .i64 0), .lit (.slice none 0 0)],none⟩])
 (.seq (.reg [⟨some 1,.call (.c (.fn (.func 39) [] [])) [(.c (.lit (.int .i64 1))), (.c (.lit (.int .i64 1)))],none⟩,
 ⟨some 2,.call (.c (.fn (.func 39) [] [])) [(.c (.lit (.int .i64 3))), (.c (.lit (.int .i64 0)))],none⟩,
 ⟨some 3,.lits 2 2 [.lit (.int .i64 0), .lit (.int .i64 0), .lit (.int .i64 0), .lit (.int .i64 0)] [(0, 2, (.t 1)), (2, 2, (.t 2))],none⟩,
 ⟨some 4,.build [.lit (.int .i64 0), .lit (.slice none 0 0)] [(1, 1, (.t 3))],none⟩,
 ⟨none, .store 2 (.t 0) (.t 4),none⟩])
 (.ret))⟩
def f39 : F := ⟨8, [.cell 4 (some 2)], none, .seq (.reg [⟨some 4,.alloc [.lit (.int .i64 0), .lit (.int .i64 0)],none⟩])
 (.seq (.reg [⟨some 5,.mov (.t 0),none⟩,
 ⟨some 6,.mov (.t 1),none⟩,
 ⟨some 7,.build [.lit (.int .i64 0), .lit (.int .i64 0)] [(0, 1, (.t 5)), (1, 1, (.t 6))],none⟩,
 ⟨none, .store 2 (.t 4) (.t 7),none⟩])
 (.ret))⟩
def f40 : F := ⟨17, [.tmp 4], none, .seq (.reg [⟨some 2,.box (.t 0),none⟩,
 ⟨some 3,.box (.t 1),none⟩,
 ⟨some 4,.mov (.c (.lit (.bool false))),none⟩])
 (.seq (.reg [⟨some 5,.fieldA 0 (.t 2),none⟩,
 ⟨some 6,.load none (.t 5),none⟩,
 ⟨some 7,.fieldA 0 (.t 3),none⟩,
 ⟨some 8,.load none (.t 7),none⟩,
 ⟨some 9,.ar .eql (.t 6) (.t 8),none⟩,
 ⟨some 10,.mov (.t 9),none⟩,
 ⟨some 11,.fieldA 1 (.t 2), (some (10, true))⟩,
 ⟨some 12,.load none (.t 11), (some (10, true))⟩,
 ⟨some 13,.fieldA 1 (.t 3), (some (10, true))⟩,
 ⟨some 14,.load none (.t 13), (some (10, true))⟩,
 ⟨some 15,.call (.c (.fn (.func 41) [] [])) [(.t 12), (.t 14)], (some (10, true))⟩,
 ⟨some 16,.pick (.t 10) (.t 15) (.c (.lit (.bool false))),none⟩,
 ⟨some 4,.mov (.t 16),none⟩])
 (.ret))⟩
def f41 : F := ⟨26, [.tmp 4], none, .seq (.reg [⟨some 4,.mov (.c (.lit (.bool false))),none⟩])
 (.seq (.seq (.reg [⟨some 6,.mov (.t 0),none⟩,
 ⟨some 7,.len .slc (.t 6),none⟩,
 ⟨some 8,.mov (.t 1),none⟩,
 ⟨some 9,.len .slc (.t 8),none⟩,
 ⟨some 10,.ar .neq (.t 7) (.t 9),none⟩])
 (.cond (.t 10)
 (.seq (.reg [⟨some 4,.mov (.c (.lit (.bool false))),none⟩])
 (.ret))
 (.skip)))
 (.seq (.seq (.reg [⟨some 5,.mov (.c (.lit (.int .i64 0))),none⟩])
 (.block 0 (.loop (.seq (.seq (.reg [⟨some 11,.mov (.t 5),none⟩,
 ⟨some 12,.mov (.t 0),none⟩,
 ⟨some 13,.len .slc (.t 12),none⟩,
 ⟨some 14,.ar .lss (.t 11) (.t 13),none⟩])
 (.cond (.t 14)
 (.skip)
 (.exit 0)))
 (.seq (.block 1 (.seq (.regD [(.pure, ⟨some 17,.mov (.t 0),none⟩),
  (.pure, ⟨some 18,.mov (.t 5),none⟩),
  (.read 0 0, ⟨some 19,.idxA 2 (.t 17) (.t 18),none⟩),
  (.read 0 0, ⟨some 20,.load (some 2) (.t 19),none⟩),
  (.pure, ⟨some 21,.mov (.t 1),none⟩),
  (.pure, ⟨some 22,.mov (.t 5),none⟩),
  (.read 0 0, ⟨some 23,.idxA 2 (.t 21) (.t 22),none⟩),
  (.read 0 0, ⟨some 24,.load (some 2) (.t 23),none⟩),
  (.pure, ⟨some 25,.eqA true [.int .i64, .int .i64] (.t 20) (.t 24),none⟩)])
 (.cond (.t 25)
 (.seq (.reg [⟨some 4,.mov (.c (.lit (.bool false))),none⟩])
 (.ret))
 (.skip))))
 (.reg [⟨some 15,.mov (.t 5),none⟩,
 ⟨some 16,.ar .add (.t 15) (.c (.lit (.int .i64 1))),none⟩,
 ⟨some 5,.mov (.t 16),none⟩]))))))
 (.seq (.reg [⟨some 4,.mov (.c (.lit (.bool true))),none⟩])
 (.ret))))⟩
def f42 : F := ⟨8, [.cell 4 none], none, .seq (.reg [⟨some 2,.box (.t 0),none⟩,
 ⟨some 3,.box (.t 1),none⟩,
 ⟨some 4,.alloc [.lit (.int .i64 0)],none⟩])
 (.seq (.reg [⟨none, .defer (.c (.fn (.func 96) [] [])) [(.t 4)],none⟩])
 (.seq (.reg [⟨some 5,.load (some 4) (.t 2),none⟩,
 ⟨some 6,.load (some 4) (.t 3),none⟩,
 ⟨some 7,.call (.c (.fn (.func 97) [] [])) [(.t 5), (.t 6)],none⟩])
 (.seq (.reg [⟨none, .store 1 (.t 4) (.c (.lit (.int .i64 0))),none⟩])
 (.ret))))⟩
def f43 : F := ⟨12, [.tmp 4], none, .seq (.reg [⟨some 4,.mov (.c (.lit (.bool false))),none⟩])
 (.seq (.reg [⟨some 5,.mov (.t 0),none⟩,
 ⟨some 6,.ar .geq (.t 5) (.c (.lit (.int .i64 0))),none⟩,
 ⟨some 7,.mov (.t 6),none⟩,
 ⟨some 8,.mov (.t 0), (some (7, true))⟩,
 ⟨some 9,.mov (.t 1), (some (7, true))⟩,
 ⟨some 10,.ar .lss (.t 8) (.t 9), (some (7, true))⟩,
 ⟨some 11,.pick (.t 7) (.t 10) (.c (.lit (.bool false))),none⟩,
 ⟨some 4,.mov (.t 11),none⟩])
 (.ret))⟩
def f44 : F := ⟨37, [.tmp 4, .cell 5 none], none, .seq (.reg [⟨some 2,.box (.t 0),none⟩,
 ⟨some 4,.mov (.c (.lit (.slice none 0 0))),none⟩,
 ⟨some 5,.alloc [.lit (.int .i64 0)],none⟩])
 (.seq (.reg [⟨none, .defer (.c (.fn (.func 96) [] [])) [(.t 5)],none⟩])
 (.seq (.reg [⟨some 7,.fieldA 0 (.t 2),none⟩,
 ⟨some 8,.load none (.t 7),none⟩,
 ⟨some 9,.call (.c (.fn (.func 98) [] [])) [(.t 8)],none⟩])
 (.seq (.reg [⟨some 10,.mov (.t 1),none⟩,
 ⟨some 11,.ar .geq (.t 10) (.c (.lit (.int .i64 0))),none⟩,
 ⟨some 12,.mov (.t 11),none⟩,
 ⟨some 13,.mov (.t 1), (some (12, true))⟩,
 ⟨some 14,.fieldA 0 (.t 2), (some (12, true))⟩,
 ⟨some 15,.load none (.t 14), (some (12, true))⟩,
 ⟨some 16,.len .slc (.t 15), (some (12, true))⟩,
 ⟨some 17,.ar .lss (.t 13) (.t 16), (some (12, true))⟩,
 ⟨some 18,.pick (.t 12) (.t 17) (.c (.lit (.bool false))),none⟩,
 ⟨some 19,.call (.c (.fn (.func 99) [] [])) [(.t 18)],none⟩])
 (.seq (.seq (.reg [⟨some 20,.fieldA 0 (.t 2),none⟩,
 ⟨some 21,.load none (.t 20),none⟩,
 ⟨some 22,.len .slc (.t 21),none⟩,
 ⟨some 23,.mov (.c (.lit (.int .i64 0))),none⟩])
 (.block 0 (.loop (.seq (.reg [⟨some 24,.ar .lss (.t 23) (.t 22),none⟩])
 (.seq (.cond (.t 24)
 (.skip)
 (.exit 0))
 (.seq (.block 1 (.seq (.reg [⟨some 25,.mov (.t 23),none⟩,
 ⟨some 6,.mov (.t 25),none⟩])
 (.seq (.reg [⟨some 26,.fieldA 0 (.t 2),none⟩,
 ⟨some 27,.load none (.t 26),none⟩,
 ⟨some 28,.mov (.t 6),none⟩,
 ⟨some 29,.mov (.t 1),none⟩,
 ⟨some 30,.call (.c (.fn (.func 100) [] [])) [(.t 27), (.t 28), (.t 29)],none⟩])
 (.cond (.t 30)
 (.reg [⟨some 31,.mov (.t 4),none⟩,
 ⟨some 32,.mov (.t 6),none⟩,
 ⟨some 33,.lits 1 1 [.lit (.int .i64 0)] [(0, 1, (.t 32))],none⟩,
 ⟨some 34,.app 1 8 (.t 31) (.t 33),none⟩,
 ⟨some 4,.mov (.t 34),none⟩])
 (.skip)))))
 (.reg [⟨some 35,.ar .add (.t 23) (.c (.lit (.int .i64 1))),none⟩,
 ⟨some 23,.mov (.t 35),none⟩])))))))
 (.seq (.reg [⟨some 36,.mov (.t 4),none⟩,
 ⟨some 4,.mov (.t 36),none⟩,
 ⟨none, .store 1 (.t 5) (.c (.lit (.int .i64 0))),none⟩])
 (.ret))))))⟩
def f45 : F := ⟨16, [.cell 2 (some 4)], none, .seq (.reg [⟨some 1,.box (.t 0),none⟩,
 ⟨some 2,.alloc [.lit (.slice none 0 0), .lit (.slice none 0 0), .lit (.slice none 0 0), .lit (.slice none 0 0)],none⟩])
 (.seq (.regD [(.read 0 0, ⟨some 3,.fieldA 0 (.t 1),none⟩),
  (.read 0 0, ⟨some 4,.load none (.t 3),none⟩),
  (.loud false [], ⟨some 5,.call (.c (.fn (.func 101) [] [])) [(.t 4)],none⟩),
  (.read 0 1, ⟨some 6,.fieldA 1 (.t 1),none⟩),
  (.read 0 1, ⟨some 7,.load none (.t 6),none⟩),
  (.loud false [], ⟨some 8,.call (.c (.fn (.func 102) [] [])) [(.t 7), (.c (.fn (.func 103) [] []))],none⟩),
  (.read 0 2, ⟨some 9,.fieldA 2 (.t 1),none⟩),
  (.read 0 2, ⟨some 10,.load none (.t 9),none⟩),
  (.loud false [], ⟨some 11,.call (.c (.fn (.func 105) [] [])) [(.t 10), (.c (.fn (.func 106) [] []))],none⟩),
  (.read 0 3, ⟨some 12,.fieldA 3 (.t 1),none⟩),
  (.read 0 3, ⟨some 13,.load none (.t 12),none⟩),
  (.loud true [], ⟨some 14,.call (.c (.fn (.func 107) [] [])) [(.t 13), (.c (.fn (.func 47) [] []))],none⟩),
  (.pure, ⟨some 15,.build [.lit (.slice none 0 0), .lit (.slice none 0 0), .lit (.slice none 0 0), .lit (.slice none 0 0)] [(0, 1, (.t 5)), (1, 1, (.t 8)), (2, 1, (.t 11)), (3, 1, (.t 14))],none⟩),
  (.loud true [], ⟨none, .store 4 (.t 2) (.t 15),none⟩)])
 (.ret))⟩
def f46 : F := ⟨5, [.tmp 2], none, .seq (.reg [⟨some 2,.mov (.c (.lit (.slice none 0 0))),none⟩])
 (.seq (.reg [⟨some 3,.mov (.t 0),none⟩,
 ⟨some 4,.call (.c (.fn (.func 108) [] [])) [(.t 3), (.c (.fn (.func 109) [] []))],none⟩,
 ⟨some 2,.mov (.t 4),none⟩])
 (.ret))⟩
def f47 : F := ⟨11, [.cell 2 (some 3)], none, .seq (.reg [⟨some 1,.box (.t 0),none⟩,
 ⟨some 2,.alloc [.lit (.int .i64 0), .lit (.int .i64 0), .lit (.slice none 0 0)],none⟩])
 (.seq (.regD [(.read 0 1, ⟨some 3,.fieldA 0 (.t 1),none⟩),
  (.read 0 1, ⟨some 4,.load none (.t 3),none⟩),
  (.read 0 1, ⟨some 5,.fieldA 1 (.t 1),none⟩),
  (.read 0 1, ⟨some 6,.load none (.t 5),none⟩),
  (.read 0 0, ⟨some 7,.fieldA 2 (.t 1),none⟩),
  (.read 0 0, ⟨some 8,.load none (.t 7),none⟩),
  (.loud true [], ⟨some 9,.call (.c (.fn (.func 104) [] [])) [(.t 8)],none⟩),
  (.pure, ⟨some 10,.build [.lit (.int .i64 0), .lit (.int .i64 0), .lit (.slice none 0 0)] [(0, 1, (.t 4)), (1, 1, (.t 6)), (2, 1, (.t 9))],none⟩),
  (.loud true [], ⟨none, .store 3 (.t 2) (.t 10),none⟩)])
 (.ret))⟩
def f48 : F := ⟨19, [.tmp 4], none, .seq (.reg [⟨some 4,.mov (.c (.lit (.int .i64 0))),none⟩])
 (.seq (.seq (.reg [⟨some 6,.mov (.t 0),none⟩,
 ⟨some 7,.len .slc (.t 6),none⟩,
 ⟨some 8,.mov (.c (.lit (.int .i64 0))),none⟩])
 (.block 0 (.loop (.seq (.reg [⟨some 9,.ar .lss (.t 8) (.t 7),none⟩])
 (.seq (.cond (.t 9)
 (.skip)
 (.exit 0))
 (.seq (.block 1 (.seq (.reg [⟨some 10,.mov (.t 8),none⟩,
 ⟨some 5,.mov (.t 10),none⟩])
 (.seq (.reg [⟨some 11,.mov (.t 1),none⟩,
 ⟨some 12,.mov (.t 0),none⟩,
 ⟨some 13,.mov (.t 5),none⟩,
 ⟨some 14,.idxA 1 (.t 12) (.t 13),none⟩,
 ⟨some 15,.load none (.t 14),none⟩,
 ⟨some 16,.ar .eql (.t 11) (.t 15),none⟩])
 (.cond (.t 16)
 (.seq (.reg [⟨some 17,.mov (.t 5),none⟩,
 ⟨some 4,.mov (.t 17),none⟩])
 (.ret))
 (.skip)))))
 (.reg [⟨some 18,.ar .add (.t 8) (.c (.lit (.int .i64 1))),none⟩,
 ⟨some 8,.mov (.t 18),none⟩])))))))
 (.seq (.reg [⟨some 4,.mov (.c (.lit (.int .i64 (-1)))),none⟩])
 (.ret)))⟩
def f49 : F := ⟨54, [.tmp 2], none, .seq (.reg [⟨some 1,.box (.t 0),none⟩,
 ⟨some 2,.mov (.c (.lit (.bool false))),none⟩])
 (.seq (.seq (.reg [⟨some 6,.fieldA 0 (.t 1),none⟩,
 ⟨some 7,.load none (.t 6),none⟩,
 ⟨some 8,.len .slc (.t 7),none⟩,
 ⟨some 9,.ar .lss (.t 8) (.c (.lit (.int .i64 1))),none⟩,
 ⟨some 10,.mov (.t 9),none⟩,
 ⟨some 11,.fieldA 0 (.t 1), (some (10, false))⟩,
 ⟨some 12,.load none (.t 11), (some (10, false))⟩,
 ⟨some 13,.len .slc (.t 12), (some (10, false))⟩,
 ⟨some 14,.ar .gtr (.t 13) (.c (.lit (.int .i64 24))), (some (10, false))⟩,
 ⟨some 15,.pick (.t 10) (.c (.lit (.bool true))) (.t 14),none⟩,
 ⟨some 16,.mov (.t 15),none⟩,
 ⟨some 17,.fieldA 1 (.t 1), (some (16, false))⟩,
 ⟨some 18,.load none (.t 17), (some (16, false))⟩,
 ⟨some 19,.len .slc (.t 18), (some (16, false))⟩,
 ⟨some 20,.ar .gtr (.t 19) (.c (.lit (.int .i64 60))), (some (16, false))⟩,
 ⟨some 21,.pick (.t 16) (.c (.lit (.bool true))) (.t 20),none⟩,
 ⟨some 22,.mov (.t 21),none⟩,
 ⟨some 23,.fieldA 2 (.t 1), (some (22, false))⟩,
 ⟨some 24,.load none (.t 23), (some (22, false))⟩,
 ⟨some 25,.len .slc (.t 24), (some (22, false))⟩,
 ⟨some 26,.ar .gtr (.t 25) (.c (.lit (.int .i64 40))), (some (22, false))⟩,
 ⟨some 27,.pick (.t 22) (.c (.lit (.bool true))) (.t 26),none⟩])
 (.cond (.t 27)
 (.seq (.reg [⟨some 2,.mov (.c (.lit (.bool false))),none⟩])
 (.ret))
 (.skip)))
 (.seq (.seq (.reg [⟨some 28,.fieldA 0 (.t 1),none⟩,
 ⟨some 29,.load none (.t 28),none⟩,
 ⟨some 30,.call (.c (.fn (.func 110) [] [])) [(.t 29)],none⟩,
 ⟨some 31,.not (.t 30),none⟩,
 ⟨some 32,.mov (.t 31),none⟩,
 ⟨some 33,.fieldA 0 (.t 1), (some (32, false))⟩,
 ⟨some 34,.load none (.t 33), (some (32, false))⟩,
 ⟨some 35,.call (.c (.fn (.func 111) [] [])) [(.t 34), (.c (.fn (.func 112) [] []))], (some (32, false))⟩,
 ⟨some 36,.not (.t 35), (some (32, false))⟩,
 ⟨some 37,.pick (.t 32) (.c (.lit (.bool true))) (.t 36),none⟩])
 (.cond (.t 37)
 (.seq (.reg [⟨some 2,.mov (.c (.lit (.bool false))),none⟩])
 (.ret))
 (.skip)))
 (.seq (.seq (.reg [⟨some 38,.fieldA 1 (.t 1),none⟩,
 ⟨some 39,.load none (.t 38),none⟩,
 ⟨some 40,.call (.c (.fn (.func 113) [] [])) [(.t 39), (.c (.fn (.func 114) [] []))],none⟩,
 ⟨some 41,.call (.c (.fn (.func 110) [] [])) [(.t 40)],none⟩,
 ⟨some 42,.not (.t 41),none⟩])
 (.cond (.t 42)
 (.seq (.reg [⟨some 2,.mov (.c (.lit (.bool false))),none⟩])
 (.ret))
 (.skip)))
 (.seq (.reg [⟨some 3,.mov (.c (.fn (.func 115) [] [])),none⟩])
 (.seq (.reg [⟨some 4,.alloc [.lit (.int .i64 0)],none⟩,
 ⟨none, .store 1 (.t 4) (.c (.lit (.int .i64 (-1)))),none⟩])
 (.seq (.reg [⟨some 43,.func (.func 118) [] [(.t 4), (.t 1)],none⟩,
 ⟨some 5,.mov (.t 43),none⟩])
 (.seq (.reg [⟨some 44,.fieldA 1 (.t 1),none⟩,
 ⟨some 45,.load none (.t 44),none⟩,
 ⟨some 46,.mov (.t 3),none⟩,
 ⟨some 47,.call (.c (.fn (.func 121) [] [])) [(.t 45), (.t 46)],none⟩,
 ⟨some 48,.mov (.t 47),none⟩,
 ⟨some 49,.fieldA 2 (.t 1), (some (48, true))⟩,
 ⟨some 50,.load none (.t 49), (some (48, true))⟩,
 ⟨some 51,.mov (.t 5), (some (48, true))⟩,
 ⟨some 52,.call (.c (.fn (.func 122) [] [])) [(.t 50), (.t 51)], (some (48, true))⟩,
 ⟨some 53,.pick (.t 48) (.t 52) (.c (.lit (.bool false))),none⟩,
 ⟨some 2,.mov (.t 53),none⟩])
 (.ret))))))))⟩
def f50 : F := ⟨36, [.tmp 6], none, .seq (.reg [⟨some 3,.box (.t 0),none⟩,
 ⟨some 4,.box (.t 1),none⟩,
 ⟨some 5,.box (.t 2),none⟩,
 ⟨some 6,.mov (.c (.lit (.bool false))),none⟩])
 (.seq (.reg [⟨some 12,.func (.func 123) [] [(.t 3), (.t 4)],none⟩,
 ⟨some 7,.alloc [.lit (.nilFunc)],none⟩,
 ⟨none, .store 1 (.t 7) (.t 12),none⟩])
 (.seq (.reg [⟨some 13,.func (.func 124) [] [(.t 4), (.t 5), (.t 3), (.t 7)],none⟩,
 ⟨some 8,.mov (.t 13),none⟩])
 (.seq (.reg [⟨some 15,.load (some 4) (.t 3),none⟩,
 ⟨some 16,.call (.c (.fn (.func 126) [] [])) [(.t 15)],none⟩,
 ⟨some 14,.mov (.t 16),none⟩,
 ⟨some 17,.ext (.t 14) 0,none⟩,
 ⟨some 18,.ext (.t 14) 1,none⟩,
 ⟨some 9,.alloc [.lit (.slice none 0 0)],none⟩,
 ⟨none, .store 1 (.t 9) (.t 17),none⟩,
 ⟨some 10,.mov (.t 18),none⟩])
 (.seq (.reg [⟨some 19,.func (.func 127) [] [(.t 3), (.t 9), (.t 7)],none⟩,
 ⟨some 11,.mov (.t 19),none⟩])
 (.seq (.reg [⟨some 20,.fieldA 0 (.t 5),none⟩,
 ⟨some 21,.load none (.t 20),none⟩,
 ⟨some 22,.func (.func 128) [] [(.t 4)],none⟩,
 ⟨some 23,.call (.c (.fn (.func 111) [] [])) [(.t 21), (.t 22)],none⟩,
 ⟨some 24,.mov (.t 23),none⟩,
 ⟨some 25,.fieldA 1 (.t 5), (some (24, true))⟩,
 ⟨some 26,.load none (.t 25), (some (24, true))⟩,
 ⟨some 27,.mov (.t 8), (some (24, true))⟩,
 ⟨some 28,.call (.c (.fn (.func 121) [] [])) [(.t 26), (.t 27)], (some (24, true))⟩,
 ⟨some 29,.pick (.t 24) (.t 28) (.c (.lit (.bool false))),none⟩,
 ⟨some 30,.mov (.t 29),none⟩,
 ⟨some 31,.fieldA 2 (.t 5), (some (30, true))⟩,
 ⟨some 32,.load none (.t 31), (some (30, true))⟩,
 ⟨some 33,.mov (.t 11), (some (30, true))⟩,
 ⟨some 34,.call (.c (.fn (.func 122) [] [])) [(.t 32), (.t 33)], (some (30, true))⟩,
 ⟨some 35,.pick (.t 30) (.t 34) (.c (.lit (.bool false))),none⟩,
 ⟨some 6,.mov (.t 35),none⟩])
 (.ret))))))⟩
def f52 : F := ⟨29, [.tmp 4], none, .seq (.reg [⟨some 4,.mov (.c (.lit (.bool false))),none⟩])
 (.seq (.seq (.reg [⟨some 6,.mov (.t 0),none⟩,
 ⟨some 7,.len .slc (.t 6),none⟩,
 ⟨some 8,.mov (.t 1),none⟩,
 ⟨some 9,.len .slc (.t 8),none⟩,
 ⟨some 10,.ar .neq (.t 7) (.t 9),none⟩])
 (.cond (.t 10)
 (.seq (.reg [⟨some 4,.mov (.c (.lit (.bool false))),none⟩])
 (.ret))
 (.skip)))
 (.seq (.seq (.reg [⟨some 5,.mov (.c (.lit (.int .i64 0))),none⟩])
 (.block 0 (.loop (.seq (.seq (.reg [⟨some 11,.mov (.t 5),none⟩,
 ⟨some 12,.mov (.t 0),none⟩,
 ⟨some 13,.len .slc (.t 12),none⟩,
 ⟨some 14,.ar .lss (.t 11) (.t 13),none⟩])
 (.cond (.t 14)
 (.skip)
 (.exit 0)))
 (.seq (.block 1 (.seq (.regD [(.pure, ⟨some 17,.mov (.t 0),none⟩),
  (.pure, ⟨some 18,.mov (.t 5),none⟩),
  (.read 0 0, ⟨some 19,.idxA 1 (.t 17) (.t 18),none⟩),
  (.read 0 0, ⟨some 20,.fieldA 0 (.t 19),none⟩),
  (.read 0 0, ⟨some 21,.load none (.t 20),none⟩),
  (.pure, ⟨some 22,.mov (.t 1),none⟩),
  (.pure, ⟨some 23,.mov (.t 5),none⟩),
  (.read 0 0, ⟨some 24,.idxA 1 (.t 22) (.t 23),none⟩),
  (.read 0 0, ⟨some 25,.fieldA 0 (.t 24),none⟩),
  (.read 0 0, ⟨some 26,.load none (.t 25),none⟩),
  (.loud true [], ⟨some 27,.call (.c (.fn (.func 41) [] [])) [(.t 21), (.t 26)],none⟩),
  (.pure, ⟨some 28,.not (.t 27),none⟩)])
 (.cond (.t 28)
 (.seq (.reg [⟨some 4,.mov (.c (.lit (.bool false))),none⟩])
 (.ret))
 (.skip))))
 (.reg [⟨some 15,.mov (.t 5),none⟩,
 ⟨some 16,.ar .add (.t 15) (.c (.lit (.int .i64 1))),none⟩,
 ⟨some 5,.mov (.t 16),none⟩]))))))
 (.seq (.reg [⟨some 4,.mov (.c (.lit (.bool true))),none⟩])
 (.ret))))⟩
def f53 : F := ⟨97, [.tmp 2], none, .seq (.reg [⟨some 1,.box (.t 0),none⟩,
 ⟨some 2,.mov (.c (.lit (.string ⟨#[]⟩))),none⟩])
 (.seq (.reg [⟨some 12,.call (.c (.fn (.func 131) [] [])) [],none⟩,
 ⟨some 3,.mov (.t 12),none⟩])
 (.seq (.reg [⟨some 13,.mov (.t 3),none⟩,
 ⟨some 14,.fieldA 0 (.t 1),none⟩,
 ⟨some 15,.load none (.t 14),none⟩,
 ⟨some 16,.len .slc (.t 15),none⟩,
 ⟨some 17,.call (.c (.fn (.func 132) [] [])) [(.t 13), (.t 16)],none⟩])
 (.seq (.seq (.reg [⟨some 18,.fieldA 0 (.t 1),none⟩,
 ⟨some 19,.load none (.t 18),none⟩,
 ⟨some 20,.len .slc (.t 19),none⟩,
 ⟨some 21,.mov (.c (.lit (.int .i64 0))),none⟩])
 (.block 0 (.loop (.seq (.reg [⟨some 22,.ar .lss (.t 21) (.t 20),none⟩])
 (.seq (.cond (.t 22)
 (.skip)
 (.exit 0))
 (.seq (.block 1 (.seq (.reg [⟨some 23,.idxA 1 (.t 19) (.t 21),none⟩,
 ⟨some 24,.load none (.t 23),none⟩,
 ⟨some 5,.mov (.t 24),none⟩])
 (.reg [⟨some 25,.mov (.t 3),none⟩,
 ⟨some 26,.mov (.t 5),none⟩,
 ⟨some 27,.call (.c (.fn (.func 133) [] [])) [(.t 25), (.t 26)],none⟩])))
 (.reg [⟨some 28,.ar .add (.t 21) (.c (.lit (.int .i64 1))),none⟩,
 ⟨some 21,.mov (.t 28),none⟩])))))))
 (.seq (.reg [⟨some 29,.mov (.t 3),none⟩,
 ⟨some 30,.fieldA 1 (.t 1),none⟩,
 ⟨some 31,.load none (.t 30),none⟩,
 ⟨some 32,.len .slc (.t 31),none⟩,
 ⟨some 33,.call (.c (.fn (.func 132) [] [])) [(.t 29), (.t 32)],none⟩])
 (.seq (.seq (.reg [⟨some 34,.fieldA 1 (.t 1),none⟩,
 ⟨some 35,.load none (.t 34),none⟩,
 ⟨some 36,.len .slc (.t 35),none⟩,
 ⟨some 37,.mov (.c (.lit (.int .i64 0))),none⟩])
 (.block 2 (.loop (.seq (.reg [⟨some 38,.ar .lss (.t 37) (.t 36),none⟩])
 (.seq (.cond (.t 38)
 (.skip)
 (.exit 2))
 (.seq (.block 3 (.seq (.reg [⟨some 39,.idxA 2 (.t 35) (.t 37),none⟩,
 ⟨some 40,.load (some 2) (.t 39),none⟩,
 ⟨some 7,.alloc [.lit (.int .i64 0), .lit (.slice none 0 0)],none⟩,
 ⟨none, .store 2 (.t 7) (.t 40),none⟩])
 (.seq (.reg [⟨some 41,.mov (.t 3),none⟩,
 ⟨some 42,.fieldA 0 (.t 7),none⟩,
 ⟨some 43,.load none (.t 42),none⟩,
 ⟨some 44,.call (.c (.fn (.func 134) [] [])) [(.t 41), (.t 43)],none⟩])
 (.seq (.reg [⟨some 45,.mov (.t 3),none⟩,
 ⟨some 46,.fieldA 1 (.t 7),none⟩,
 ⟨some 47,.load none (.t 46),none⟩,
 ⟨some 48,.len .slc (.t 47),none⟩,
 ⟨some 49,.call (.c (.fn (.func 132) [] [])) [(.t 45), (.t 48)],none⟩])
 (.seq (.reg [⟨some 50,.fieldA 1 (.t 7),none⟩,
 ⟨some 51,.load none (.t 50),none⟩,
 ⟨some 52,.len .slc (.t 51),none⟩,
 ⟨some 53,.mov (.c (.lit (.int .i64 0))),none⟩])
 (.block 4 (.loop (.seq (.reg [⟨some 54,.ar .lss (.t 53) (.t 52),none⟩])
 (.seq (.cond (.t 54)
 (.skip)
 (.exit 4))
 (.seq (.block 5 (.seq (.reg [⟨some 55,.idxA 1 (.t 51) (.t 53),none⟩,
 ⟨some 56,.load (some 1) (.t 55),none⟩,
 ⟨some 9,.alloc [.lit (.slice none 0 0)],none⟩,
 ⟨none, .store 1 (.t 9) (.t 56),none⟩])
 (.reg [⟨some 57,.mov (.t 3),none⟩,
 ⟨some 58,.fieldA 0 (.t 9),none⟩,
 ⟨some 59,.load none (.t 58),none⟩,
 ⟨some 60,.call (.c (.fn (.func 135) [] [])) [(.t 57), (.t 59)],none⟩])))
 (.reg [⟨some 61,.ar .add (.t 53) (.c (.lit (.int .i64 1))),none⟩,
 ⟨some 53,.mov (.t 61),none⟩])))))))))))
 (.reg [⟨some 62,.ar .add (.t 37) (.c (.lit (.int .i64 1))),none⟩,
 ⟨some 37,.mov (.t 62),none⟩])))))))
 (.seq (.reg [⟨some 63,.mov (.t 3),none⟩,
 ⟨some 64,.fieldA 2 (.t 1),none⟩,
 ⟨some 65,.load none (.t 64),none⟩,
 ⟨some 66,.len .slc (.t 65),none⟩,
 ⟨some 67,.call (.c (.fn (.func 132) [] [])) [(.t 63), (.t 66)],none⟩])
 (.seq (.seq (.reg [⟨some 68,.fieldA 2 (.t 1),none⟩,
 ⟨some 69,.load none (.t 68),none⟩,
 ⟨some 70,.len .slc (.t 69),none⟩,
 ⟨some 71,.mov (.c (.lit (.int .i64 0))),none⟩])
 (.block 6 (.loop (.seq (.reg [⟨some 72,.ar .lss (.t 71) (.t 70),none⟩])
 (.seq (.cond (.t 72)
 (.skip)
 (.exit 6))
 (.seq (.block 7 (.seq (.reg [⟨some 73,.idxA 4 (.t 69) (.t 71),none⟩,
 ⟨some 74,.load (some 4) (.t 73),none⟩,
 ⟨some 11,.alloc [.lit (.int .i64 0), .lit (.int .i64 0), .lit (.int .i64 0), .lit (.slice none 0 0)],none⟩,
 ⟨none, .store 4 (.t 11) (.t 74),none⟩])
 (.seq (.reg [⟨some 75,.mov (.t 3),none⟩,
 ⟨some 76,.fieldA 0 (.t 11),none⟩,
 ⟨some 77,.load none (.t 76),none⟩,
 ⟨some 78,.call (.c (.fn (.func 132) [] [])) [(.t 75), (.t 77)],none⟩])
 (.seq (.reg [⟨some 79,.mov (.t 3),none⟩,
 ⟨some 80,.fieldA 1 (.t 11),none⟩,
 ⟨some 81,.fieldA 0 (.t 80),none⟩,
 ⟨some 82,.load none (.t 81),none⟩,
 ⟨some 83,.call (.c (.fn (.func 133) [] [])) [(.t 79), (.t 82)],none⟩])
 (.seq (.reg [⟨some 84,.mov (.t 3),none⟩,
 ⟨some 85,.fieldA 1 (.t 11),none⟩,
 ⟨some 86,.fieldA 1 (.t 85),none⟩,
 ⟨some 87,.load none (.t 86),none⟩,
 ⟨some 88,.call (.c (.fn (.func 132) [] [])) [(.t 84), (.t 87)],none⟩])
 (.reg [⟨some 89,.mov (.t 3),none⟩,
 ⟨some 90,.fieldA 1 (.t 11),none⟩,
 ⟨some 91,.fieldA 2 (.t 90),none⟩,
 ⟨some 92,.load none (.t 91),none⟩,
 ⟨some 93,.call (.c (.fn (.func 135) [] [])) [(.t 89), (.t 92)],none⟩]))))))
 (.reg [⟨some 94,.ar .add (.t 71) (.c (.lit (.int .i64 1))),none⟩,
 ⟨some 71,.mov (.t 94),none⟩])))))))
 (.seq (.reg [⟨some 95,.mov (.t 3),none⟩,
 ⟨some 96,.call (.c (.fn (.func 136) [] [])) [(.t 95), (.c (.lit (.int .u8 80)))],none⟩,
 ⟨some 2,.mov (.t 96),none⟩])
 (.ret)))))))))⟩
def f54 : F := ⟨12, [.tmp 2], none, .seq (.reg [⟨some 1,.box (.t 0),none⟩,
 ⟨some 2,.mov (.c (.lit (.bool false))),none⟩])
 (.seq (.reg [⟨some 3,.fieldA 0 (.t 1),none⟩,
 ⟨some 4,.load none (.t 3),none⟩,
 ⟨some 5,.call (.c (.fn (.func 43) [] [])) [(.t 4), (.c (.lit (.int .i64 60)))],none⟩,
 ⟨some 6,.mov (.t 5),none⟩,
 ⟨some 7,.fieldA 1 (.t 1), (some (6, true))⟩,
 ⟨some 8,.load none (.t 7), (some (6, true))⟩,
 ⟨some 9,.build [.lit (.slice none 0 0)] [(0, 1, (.t 8))], (some (6, true))⟩,
 ⟨some 10,.call (.c (.fn (.func 117) [] [])) [(.t 9)], (some (6, true))⟩,
 ⟨some 11,.pick (.t 6) (.t 10) (.c (.lit (.bool false))),none⟩,
 ⟨some 2,.mov (.t 11),none⟩])
 (.ret))⟩
def f55 : F := ⟨15, [.tmp 2], none, .seq (.reg [⟨some 1,.box (.t 0),none⟩,
 ⟨some 2,.mov (.c (.lit (.string ⟨#[]⟩))),none⟩])
 (.seq (.reg [⟨some 4,.call (.c (.fn (.func 131) [] [])) [],none⟩,
 ⟨some 3,.mov (.t 4),none⟩])
 (.seq (.reg [⟨some 5,.mov (.t 3),none⟩,
 ⟨some 6,.fieldA 0 (.t 1),none⟩,
 ⟨some 7,.load none (.t 6),none⟩,
 ⟨some 8,.call (.c (.fn (.func 134) [] [])) [(.t 5), (.t 7)],none⟩])
 (.seq (.reg [⟨some 9,.mov (.t 3),none⟩,
 ⟨some 10,.fieldA 1 (.t 1),none⟩,
 ⟨some 11,.load none (.t 10),none⟩,
 ⟨some 12,.call (.c (.fn (.func 135) [] [])) [(.t 9), (.t 11)],none⟩])
 (.seq (.reg [⟨some 13,.mov (.t 3),none⟩,
 ⟨some 14,.call (.c (.fn (.func 136) [] [])) [(.t 13), (.c (.lit (.int .u8 77)))],none⟩,
 ⟨some 2,.mov (.t 14),none⟩])
 (.ret)))))⟩
def f56 : F := ⟨6, [.cell 2 none], none, .seq (.reg [⟨some 2,.alloc [.lit (.bool false)],none⟩])
 (.seq (.reg [⟨some 3,.func (.func 137) [] [(.t 2)],none⟩,
 ⟨none, .defer (.t 3) [],none⟩])
 (.seq (.reg [⟨some 4,.mov (.t 0),none⟩,
 ⟨some 5,.call (.t 4) [],none⟩])
 (.seq (.reg [⟨none, .store 1 (.t 2) (.c (.lit (.bool true))),none⟩])
 (.ret))))⟩
def f57 : F := ⟨5, [], none, .reg [⟨some 2,.load none (.t 0),none⟩,
 ⟨some 3,.call (.c (.fn (.func 58) [] [])) [(.t 2), (.c (.lit (.int .u8 80)))],none⟩,
 ⟨some 4,.call (.c (.fn (.func 59) [] [])) [(.t 3)],none⟩,
 ⟨none, .store 3 (.t 1) (.t 4),none⟩]⟩
def f58 : F := ⟨63, [.tmp 4], none, .seq (.reg [⟨some 4,.mov (.c (.lit (.pointer none))),none⟩])
 (.seq (.reg [⟨some 9,.mov (.t 0),none⟩,
 ⟨some 10,.len .str (.t 9),none⟩,
 ⟨some 11,.ar .sub (.t 10) (.c (.lit (.int .i64 2))),none⟩,
 ⟨some 5,.mov (.t 11),none⟩])
 (.seq (.seq (.regD [(.pure, ⟨some 12,.mov (.t 5),none⟩),
  (.pure, ⟨some 13,.ar .lss (.t 12) (.c (.lit (.int .i64 1))),none⟩),
  (.pure, ⟨some 14,.mov (.t 13),none⟩),
  (.pure, ⟨some 15,.mov (.t 0), (some (14, false))⟩),
  (.pure, ⟨some 16,.idxS (.t 15) (.c (.lit (.int .i64 0))), (some (14, false))⟩),
  (.pure, ⟨some 17,.mov (.t 1), (some (14, false))⟩),
  (.pure, ⟨some 18,.ar .neq (.t 16) (.t 17), (some (14, false))⟩),
  (.pure, ⟨some 19,.pick (.t 14) (.c (.lit (.bool true))) (.t 18),none⟩),
  (.pure, ⟨some 20,.mov (.t 19),none⟩),
  (.pure, ⟨some 21,.mov (.t 0), (some (20, false))⟩),
  (.pure, ⟨some 22,.mov (.t 5), (some (20, false))⟩),
  (.pure, ⟨some 23,.sliceS (.t 21) none (some (.t 22)), (some (20, false))⟩),
  (.made, ⟨some 24,.strb (.t 23), (some (20, false))⟩),
  (.loud false [], ⟨some 25,.call (.c (.fn (.func 138) [] [])) [(.t 24)], (some (20, false))⟩),
  (.read 1 1, ⟨some 26,.bstr (.t 25), (some (20, false))⟩),
  (.pure, ⟨some 27,.mov (.t 0), (some (20, false))⟩),
  (.pure, ⟨some 28,.mov (.t 5), (some (20, false))⟩),
  (.pure, ⟨some 29,.sliceS (.t 27) (some (.t 28)) none, (some (20, false))⟩),
  (.pure, ⟨some 30,.ar .neq (.t 26) (.t 29), (some (20, false))⟩),
  (.pure, ⟨some 31,.pick (.t 20) (.c (.lit (.bool true))) (.t 30),none⟩)])
 (.cond (.t 31)
 (.reg [⟨some 32,.build [] [],none⟩,
 ⟨some 33,.iface 228 (.t 32),none⟩,
 ⟨none, .panic (.t 33),none⟩])
 (.skip)))
 (.seq (.reg [⟨some 34,.mov (.t 0),none⟩,
 ⟨some 35,.mov (.t 5),none⟩,
 ⟨some 36,.sliceS (.t 34) (some (.c (.lit (.int .i64 1)))) (some (.t 35)),none⟩,
 ⟨some 37,.build [.lit (.slice none 0 0), .lit (.map none), .lit (.string ⟨#[]⟩)] [(2, 1, (.t 36))],none⟩,
 ⟨some 38,.box (.t 37),none⟩,
 ⟨some 6,.mov (.t 38),none⟩])
 (.seq (.seq (.reg [⟨some 39,.mov (.t 6),none⟩,
 ⟨some 40,.call (.c (.fn (.func 139) [] [])) [(.t 39)],none⟩,
 ⟨some 41,.mov (.c (.lit (.int .i64 0))),none⟩])
 (.block 0 (.loop (.seq (.reg [⟨some 42,.ar .lss (.t 41) (.t 40),none⟩])
 (.seq (.cond (.t 42)
 (.skip)
 (.exit 0))
 (.seq (.block 1 (.seq (.reg [⟨some 43,.mov (.t 6),none⟩,
 ⟨some 44,.call (.c (.fn (.func 140) [] [])) [(.t 43)],none⟩,
 ⟨some 7,.mov (.t 44),none⟩])
 (.seq (.reg [⟨some 45,.mov (.t 6),none⟩,
 ⟨some 46,.call (.c (.fn (.func 140) [] [])) [(.t 45)],none⟩,
 ⟨some 8,.mov (.t 46),none⟩])
 (.reg [⟨some 47,.mov (.t 6),none⟩,
 ⟨some 48,.mov (.t 6),none⟩,
 ⟨some 49,.chk (.t 48),none⟩,
 ⟨some 50,.fieldA 0 (.t 49),none⟩,
 ⟨some 51,.fieldA 0 (.t 50),none⟩,
 ⟨some 52,.load none (.t 51),none⟩,
 ⟨some 53,.mov (.t 7),none⟩,
 ⟨some 54,.mov (.t 8),none⟩,
 ⟨some 55,.build [.lit (.int .i64 0), .lit (.int .i64 0)] [(0, 1, (.t 53)), (1, 1, (.t 54))],none⟩,
 ⟨some 56,.lits 2 1 [.lit (.int .i64 0), .lit (.int .i64 0)] [(0, 2, (.t 55))],none⟩,
 ⟨some 57,.app 2 16 (.t 52) (.t 56),none⟩,
 ⟨some 58,.chk (.t 47),none⟩,
 ⟨some 59,.fieldA 0 (.t 58),none⟩,
 ⟨some 60,.fieldA 0 (.t 59),none⟩,
 ⟨none, .store 1 (.t 60) (.t 57),none⟩]))))
 (.reg [⟨some 61,.ar .add (.t 41) (.c (.lit (.int .i64 1))),none⟩,
 ⟨some 41,.mov (.t 61),none⟩])))))))
 (.seq (.reg [⟨some 62,.mov (.t 6),none⟩,
 ⟨some 4,.mov (.t 62),none⟩])
 (.ret))))))⟩
def f59 : F := ⟨72, [.cell 2 (some 3)], none, .seq (.reg [⟨some 2,.alloc [.lit (.slice none 0 0), .lit (.slice none 0 0), .lit (.slice none 0 0)],none⟩])
 (.seq (.reg [⟨some 3,.alloc [.lit (.slice none 0 0), .lit (.slice none 0 0), .lit (.slice none 0 0)],none⟩])
 (.seq (.seq (.reg [⟨some 6,.mov (.t 0),none⟩,
 ⟨some 7,.call (.c (.fn (.func 139) [] [])) [(.t 6)],none⟩,
 ⟨some 8,.mov (.c (.lit (.int .i64 0))),none⟩])
 (.block 0 (.loop (.seq (.reg [⟨some 9,.ar .lss (.t 8) (.t 7),none⟩])
 (.seq (.cond (.t 9)
 (.skip)
 (.exit 0))
 (.seq (.block 1 (.regD [(.read 0 1, ⟨some 10,.fieldA 0 (.t 3),none⟩),
  (.read 0 1, ⟨some 11,.load none (.t 10),none⟩),
  (.pure, ⟨some 12,.mov (.t 0),none⟩),
  (.loud true [], ⟨some 13,.call (.c (.fn (.func 61) [] [])) [(.t 12), (.c (.lit (.int .i64 4)))],none⟩),
  (.made, ⟨some 14,.lits 1 1 [.lit (.int .i64 0)] [(0, 1, (.t 13))],none⟩),
  (.loud true [], ⟨some 15,.app 1 8 (.t 11) (.t 14),none⟩),
  (.read 2 2, ⟨some 16,.fieldA 0 (.t 3),none⟩),
  (.loud true [], ⟨none, .store 1 (.t 16) (.t 15),none⟩)]))
 (.reg [⟨some 17,.ar .add (.t 8) (.c (.lit (.int .i64 1))),none⟩,
 ⟨some 8,.mov (.t 17),none⟩])))))))
 (.seq (.seq (.reg [⟨some 18,.mov (.t 0),none⟩,
 ⟨some 19,.call (.c (.fn (.func 139) [] [])) [(.t 18)],none⟩,
 ⟨some 20,.mov (.c (.lit (.int .i64 0))),none⟩])
 (.block 2 (.loop (.seq (.reg [⟨some 21,.ar .lss (.t 20) (.t 19),none⟩])
 (.seq (.cond (.t 21)
 (.skip)
 (.exit 2))
 (.seq (.block 3 (.seq (.reg [⟨some 22,.mov (.t 0),none⟩,
 ⟨some 23,.call (.c (.fn (.func 61) [] [])) [(.t 22), (.c (.lit (.int .i64 3)))],none⟩,
 ⟨some 24,.build [.lit (.int .i64 0), .lit (.slice none 0 0)] [(0, 1, (.t 23))],none⟩,
 ⟨some 4,.alloc [.lit (.int .i64 0), .lit (.slice none 0 0)],none⟩,
 ⟨none, .store 2 (.t 4) (.t 24),none⟩])
 (.seq (.seq (.reg [⟨some 25,.mov (.t 0),none⟩,
 ⟨some 26,.call (.c (.fn (.func 139) [] [])) [(.t 25)],none⟩,
 ⟨some 27,.mov (.c (.lit (.int .i64 0))),none⟩])
 (.block 4 (.loop (.seq (.reg [⟨some 28,.ar .lss (.t 27) (.t 26),none⟩])
 (.seq (.cond (.t 28)
 (.skip)
 (.exit 4))
 (.seq (.block 5 (.regD [(.read 0 1, ⟨some 29,.fieldA 1 (.t 4),none⟩),
  (.read 0 1, ⟨some 30,.load none (.t 29),none⟩),
  (.pure, ⟨some 31,.mov (.t 0),none⟩),
  (.loud true [], ⟨some 32,.call (.c (.fn (.func 62) [] [])) [(.t 31)],none⟩),
  (.pure, ⟨some 33,.build [.lit (.slice none 0 0)] [(0, 1, (.t 32))],none⟩),
  (.made, ⟨some 34,.lits 1 1 [.lit (.slice none 0 0)] [(0, 1, (.t 33))],none⟩),
  (.loud true [], ⟨some 35,.app 1 24 (.t 30) (.t 34),none⟩),
  (.read 2 2, ⟨some 36,.fieldA 1 (.t 4),none⟩),
  (.loud true [], ⟨none, .store 1 (.t 36) (.t 35),none⟩)]))
 (.reg [⟨some 37,.ar .add (.t 27) (.c (.lit (.int .i64 1))),none⟩,
 ⟨some 27,.mov (.t 37),none⟩])))))))
 (.reg [⟨some 38,.fieldA 1 (.t 3),none⟩,
 ⟨some 39,.load none (.t 38),none⟩,
 ⟨some 40,.load (some 2) (.t 4),none⟩,
 ⟨some 41,.lits 2 1 [.lit (.int .i64 0), .lit (.slice none 0 0)] [(0, 2, (.t 40))],none⟩,
 ⟨some 42,.app 2 32 (.t 39) (.t 41),none⟩,
 ⟨some 43,.fieldA 1 (.t 3),none⟩,
 ⟨none, .store 1 (.t 43) (.t 42),none⟩]))))
 (.reg [⟨some 44,.ar .add (.t 20) (.c (.lit (.int .i64 1))),none⟩,
 ⟨some 20,.mov (.t 44),none⟩])))))))
 (.seq (.seq (.reg [⟨some 45,.mov (.t 0),none⟩,
 ⟨some 46,.call (.c (.fn (.func 139) [] [])) [(.t 45)],none⟩,
 ⟨some 47,.mov (.c (.lit (.int .i64 0))),none⟩])
 (.block 6 (.loop (.seq (.reg [⟨some 48,.ar .lss (.t 47) (.t 46),none⟩])
 (.seq (.cond (.t 48)
 (.skip)
 (.exit 6))
 (.seq (.block 7 (.seq (.reg [⟨some 5,.alloc [.lit (.int .i64 0), .lit (.int .i64 0), .lit (.int .i64 0), .lit (.slice none 0 0)],none⟩])
 (.seq (.reg [⟨some 49,.mov (.t 0),none⟩,
 ⟨some 50,.call (.c (.fn (.func 140) [] [])) [(.t 49)],none⟩,
 ⟨some 51,.fieldA 0 (.t 5),none⟩,
 ⟨none, .store 1 (.t 51) (.t 50),none⟩])
 (.seq (.reg [⟨some 52,.mov (.t 0),none⟩,
 ⟨some 53,.call (.c (.fn (.func 61) [] [])) [(.t 52), (.c (.lit (.int .i64 4)))],none⟩,
 ⟨some 54,.fieldA 1 (.t 5),none⟩,
 ⟨some 55,.fieldA 0 (.t 54),none⟩,
 ⟨none, .store 1 (.t 55) (.t 53),none⟩])
 (.seq (.reg [⟨some 56,.mov (.t 0),none⟩,
 ⟨some 57,.call (.c (.fn (.func 140) [] [])) [(.t 56)],none⟩,
 ⟨some 58,.fieldA 1 (.t 5),none⟩,
 ⟨some 59,.fieldA 1 (.t 58),none⟩,
 ⟨none, .store 1 (.t 59) (.t 57),none⟩])
 (.seq (.reg [⟨some 60,.mov (.t 0),none⟩,
 ⟨some 61,.call (.c (.fn (.func 62) [] [])) [(.t 60)],none⟩,
 ⟨some 62,.fieldA 1 (.t 5),none⟩,
 ⟨some 63,.fieldA 2 (.t 62),none⟩,
 ⟨none, .store 1 (.t 63) (.t 61),none⟩])
 (.reg [⟨some 64,.fieldA 2 (.t 3),none⟩,
 ⟨some 65,.load none (.t 64),none⟩,
 ⟨some 66,.load (some 4) (.t 5),none⟩,
 ⟨some 67,.lits 4 1 [.lit (.int .i64 0), .lit (.int .i64 0), .lit (.int .i64 0), .lit (.slice none 0 0)] [(0, 4, (.t 66))],none⟩,
 ⟨some 68,.app 4 48 (.t 65) (.t 67),none⟩,
 ⟨some 69,.fieldA 2 (.t 3),none⟩,
 ⟨none, .store 1 (.t 69) (.t 68),none⟩])))))))
 (.reg [⟨some 70,.ar .add (.t 47) (.c (.lit (.int .i64 1))),none⟩,
 ⟨some 47,.mov (.t 70),none⟩])))))))
 (.seq (.reg [⟨some 71,.load (some 3) (.t 3),none⟩,
 ⟨none, .store 3 (.t 2) (.t 71),none⟩])
 (.ret))))))⟩
def f60 : F := ⟨11, [], none, .seq (.reg [⟨some 3,.load none (.t 0),none⟩,
 ⟨some 4,.call (.c (.fn (.func 58) [] [])) [(.t 3), (.c (.lit (.int .u8 77)))],none⟩,
 ⟨some 2,.mov (.t 4),none⟩])
 (.seq (.reg [⟨some 5,.mov (.t 2),none⟩,
 ⟨some 6,.call (.c (.fn (.func 61) [] [])) [(.t 5), (.c (.lit (.int .i64 3)))],none⟩,
 ⟨some 7,.fieldA 0 (.t 1),none⟩,
 ⟨none, .store 1 (.t 7) (.t 6),none⟩])
 (.reg [⟨some 8,.mov (.t 2),none⟩,
 ⟨some 9,.call (.c (.fn (.func 62) [] [])) [(.t 8)],none⟩,
 ⟨some 10,.fieldA 1 (.t 1),none⟩,
 ⟨none, .store 1 (.t 10) (.t 9),none⟩]))⟩
def f61 : F := ⟨18, [.tmp 4], none, .seq (.reg [⟨some 4,.mov (.c (.lit (.int .i64 0))),none⟩])
 (.seq (.reg [⟨some 6,.mov (.t 0),none⟩,
 ⟨some 7,.mov (.t 0),none⟩,
 ⟨some 8,.call (.c (.fn (.func 140) [] [])) [(.t 7)],none⟩,
 ⟨some 9,.call (.c (.fn (.func 141) [] [])) [(.t 6), (.t 8)],none⟩,
 ⟨some 5,.alloc [.lit (.int .i64 0), .lit (.int .i64 0)],none⟩,
 ⟨none, .store 2 (.t 5) (.t 9),none⟩])
 (.seq (.seq (.reg [⟨some 10,.fieldA 0 (.t 5),none⟩,
 ⟨some 11,.load none (.t 10),none⟩,
 ⟨some 12,.mov (.t 1),none⟩,
 ⟨some 13,.ar .neq (.t 11) (.t 12),none⟩])
 (.cond (.t 13)
 (.reg [⟨some 14,.build [] [],none⟩,
 ⟨some 15,.iface 228 (.t 14),none⟩,
 ⟨none, .panic (.t 15),none⟩])
 (.skip)))
 (.seq (.reg [⟨some 16,.fieldA 1 (.t 5),none⟩,
 ⟨some 17,.load none (.t 16),none⟩,
 ⟨some 4,.mov (.t 17),none⟩])
 (.ret))))⟩
def f62 : F := ⟨42, [.tmp 2], none, .seq (.reg [⟨some 2,.mov (.c (.lit (.slice none 0 0))),none⟩])
 (.seq (.reg [⟨some 3,.mov (.c (.lit (.slice none 0 0))),none⟩])
 (.seq (.seq (.reg [⟨some 5,.mov (.t 0),none⟩,
 ⟨some 6,.call (.c (.fn (.func 139) [] [])) [(.t 5)],none⟩,
 ⟨some 7,.mov (.c (.lit (.int .i64 0))),none⟩])
 (.block 0 (.loop (.seq (.reg [⟨some 8,.ar .lss (.t 7) (.t 6),none⟩])
 (.seq (.cond (.t 8)
 (.skip)
 (.exit 0))
 (.seq (.block 1 (.seq (.reg [⟨some 9,.mov (.t 0),none⟩,
 ⟨some 10,.call (.c (.fn (.func 140) [] [])) [(.t 9)],none⟩,
 ⟨some 4,.mov (.t 10),none⟩])
 (.block 2 (.seq (.reg [⟨some 20,.mov (.t 4),none⟩,
 ⟨some 21,.ar .and (.t 20) (.c (.lit (.int .i64 1))),none⟩,
 ⟨some 22,.ar .eql (.t 21) (.c (.lit (.int .i64 1))),none⟩,
 ⟨some 19,.mov (.t 22),none⟩])
 (.cond (.t 19)
 (.reg [⟨some 23,.mov (.t 3),none⟩,
 ⟨some 24,.mov (.t 0),none⟩,
 ⟨some 25,.mov (.t 4),none⟩,
 ⟨some 26,.ar .shr (.t 25) (.c (.lit (.int .u64 1))),none⟩,
 ⟨some 27,.call (.c (.fn (.func 141) [] [])) [(.t 24), (.t 26)],none⟩,
 ⟨some 28,.lits 2 1 [.lit (.int .i64 0), .lit (.int .i64 0)] [(0, 2, (.t 27))],none⟩,
 ⟨some 29,.app 2 16 (.t 23) (.t 28),none⟩,
 ⟨some 3,.mov (.t 29),none⟩])
 (.seq (.reg [⟨some 31,.mov (.t 4),none⟩,
 ⟨some 32,.ar .and (.t 31) (.c (.lit (.int .i64 2))),none⟩,
 ⟨some 33,.ar .eql (.t 32) (.c (.lit (.int .i64 0))),none⟩,
 ⟨some 30,.mov (.t 33),none⟩])
 (.cond (.t 30)
 (.reg [⟨some 34,.mov (.t 3),none⟩,
 ⟨some 35,.mov (.t 4),none⟩,
 ⟨some 36,.ar .shr (.t 35) (.c (.lit (.int .u64 2))),none⟩,
 ⟨some 37,.build [.lit (.int .i64 0), .lit (.int .i64 0)] [(0, 1, (.c (.lit (.int .i64 1)))), (1, 1, (.t 36))],none⟩,
 ⟨some 38,.lits 2 1 [.lit (.int .i64 0), .lit (.int .i64 0)] [(0, 2, (.t 37))],none⟩,
 ⟨some 39,.app 2 16 (.t 34) (.t 38),none⟩,
 ⟨some 3,.mov (.t 39),none⟩])
 (.reg [⟨some 11,.mov (.t 3),none⟩,
 ⟨some 12,.mov (.t 4),none⟩,
 ⟨some 13,.ar .shr (.t 12) (.c (.lit (.int .u64 2))),none⟩,
 ⟨some 14,.neg (.t 13),none⟩,
 ⟨some 15,.ar .sub (.t 14) (.c (.lit (.int .i64 1))),none⟩,
 ⟨some 16,.build [.lit (.int .i64 0), .lit (.int .i64 0)] [(0, 1, (.c (.lit (.int .i64 1)))), (1, 1, (.t 15))],none⟩,
 ⟨some 17,.lits 2 1 [.lit (.int .i64 0), .lit (.int .i64 0)] [(0, 2, (.t 16))],none⟩,
 ⟨some 18,.app 2 16 (.t 11) (.t 17),none⟩,
 ⟨some 3,.mov (.t 18),none⟩]))))))))
 (.reg [⟨some 40,.ar .add (.t 7) (.c (.lit (.int .i64 1))),none⟩,
 ⟨some 7,.mov (.t 40),none⟩])))))))
 (.seq (.reg [⟨some 41,.mov (.t 3),none⟩,
 ⟨some 2,.mov (.t 41),none⟩])
 (.ret))))⟩
def f63 : F := ⟨40, [.tmp 2, .tmp 3, .tmp 4], none, .seq (.reg [⟨some 2,.mov (.c (.lit (.slice none 0 0))),none⟩,
 ⟨some 3,.mov (.c (.lit (.string ⟨#[]⟩))),none⟩,
 ⟨some 4,.mov (.c (.lit (.int .i64 0))),none⟩])
 (.seq (.seq (.reg [⟨some 10,.mov (.t 0),none⟩,
 ⟨some 11,.len .str (.t 10),none⟩,
 ⟨some 12,.ar .gtr (.t 11) (.c (.lit (.int .i64 80000))),none⟩])
 (.cond (.t 12)
 (.seq (.reg [⟨some 2,.mov (.c (.lit (.slice none 0 0))),none⟩,
 ⟨some 3,.mov (.c (.lit (.string ⟨#[]⟩))),none⟩,
 ⟨some 4,.mov (.c (.lit (.int .i64 3))),none⟩])
 (.ret))
 (.skip)))
 (.seq (.seq (.reg [⟨some 14,.mov (.t 0),none⟩,
 ⟨some 15,.call (.c (.fn (.func 19) [] [])) [(.t 14)],none⟩,
 ⟨some 13,.mov (.t 15),none⟩,
 ⟨some 16,.ext (.t 13) 0,none⟩,
 ⟨some 17,.ext (.t 13) 1,none⟩,
 ⟨some 5,.alloc [.lit (.slice none 0 0), .lit (.slice none 0 0), .lit (.slice none 0 0)],none⟩,
 ⟨none, .store 3 (.t 5) (.t 16),none⟩,
 ⟨some 6,.mov (.t 17),none⟩])
 (.seq (.reg [⟨some 18,.mov (.t 6),none⟩,
 ⟨some 19,.ar .neq (.t 18) (.c (.lit (.int .i64 0))),none⟩])
 (.cond (.t 19)
 (.seq (.reg [⟨some 21,.mov (.t 0),none⟩,
 ⟨some 22,.call (.c (.fn (.func 20) [] [])) [(.t 21)],none⟩,
 ⟨some 20,.mov (.t 22),none⟩,
 ⟨some 23,.ext (.t 20) 0,none⟩,
 ⟨some 24,.ext (.t 20) 1,none⟩,
 ⟨some 7,.alloc [.lit (.int .i64 0), .lit (.slice none 0 0)],none⟩,
 ⟨none, .store 2 (.t 7) (.t 23),none⟩,
 ⟨some 8,.mov (.t 24),none⟩])
 (.seq (.reg [⟨some 25,.mov (.t 8),none⟩,
 ⟨some 26,.ar .neq (.t 25) (.c (.lit (.int .i64 0))),none⟩])
 (.cond (.t 26)
 (.seq (.reg [⟨some 2,.mov (.c (.lit (.slice none 0 0))),none⟩,
 ⟨some 3,.mov (.c (.lit (.string ⟨#[]⟩))),none⟩,
 ⟨some 4,.mov (.c (.lit (.int .i64 4))),none⟩])
 (.ret))
 (.skip))))
 (.skip))))
 (.seq (.reg [⟨some 27,.mov (.t 0),none⟩,
 ⟨some 28,.mov (.t 0),none⟩,
 ⟨some 29,.idxS (.t 28) (.c (.lit (.int .i64 0))),none⟩,
 ⟨some 30,.call (.c (.fn (.func 58) [] [])) [(.t 27), (.t 29)],none⟩,
 ⟨some 9,.mov (.t 30),none⟩])
 (.seq (.regD [(.pure, ⟨some 31,.mov (.t 9),none⟩),
  (.read 0 0, ⟨some 32,.chk (.t 31),none⟩),
  (.read 0 0, ⟨some 33,.fieldA 0 (.t 32),none⟩),
  (.read 0 0, ⟨some 34,.fieldA 0 (.t 33),none⟩),
  (.read 0 0, ⟨some 35,.load none (.t 34),none⟩),
  (.pure, ⟨some 36,.mov (.t 9),none⟩),
  (.read 0 0, ⟨some 37,.chk (.t 36),none⟩),
  (.read 0 0, ⟨some 38,.fieldA 2 (.t 37),none⟩),
  (.read 0 0, ⟨some 39,.load none (.t 38),none⟩),
  (.pure, ⟨some 2,.mov (.t 35),none⟩),
  (.pure, ⟨some 3,.mov (.t 39),none⟩),
  (.pure, ⟨some 4,.mov (.c (.lit (.int .i64 0))),none⟩)])
 (.ret)))))⟩
def f64 : F := ⟨23, [.tmp 2], none, .seq (.reg [⟨some 1,.box (.t 0),none⟩,
 ⟨some 2,.mov (.c (.lit (.bool false))),none⟩])
 (.seq (.seq (.reg [⟨some 3,.fieldA 0 (.t 1),none⟩,
 ⟨some 4,.load none (.t 3),none⟩])
 (.block 0 (.seq (.reg [⟨some 6,.ar .eql (.t 4) (.c (.lit (.int .i64 2))),none⟩,
 ⟨some 5,.mov (.t 6),none⟩])
 (.cond (.t 5)
 (.seq (.reg [⟨some 7,.fieldA 1 (.t 1),none⟩,
 ⟨some 8,.load none (.t 7),none⟩,
 ⟨some 9,.call (.c (.fn (.func 43) [] [])) [(.t 8), (.c (.lit (.int .i64 12)))],none⟩,
 ⟨some 2,.mov (.t 9),none⟩])
 (.ret))
 (.seq (.reg [⟨some 11,.ar .eql (.t 4) (.c (.lit (.int .i64 3))),none⟩,
 ⟨some 10,.mov (.t 11),none⟩])
 (.cond (.t 10)
 (.seq (.reg [⟨some 12,.fieldA 1 (.t 1),none⟩,
 ⟨some 13,.load none (.t 12),none⟩,
 ⟨some 14,.call (.c (.fn (.func 43) [] [])) [(.t 13), (.c (.lit (.int .i64 60)))],none⟩,
 ⟨some 2,.mov (.t 14),none⟩])
 (.ret))
 (.skip)))))))
 (.seq (.reg [⟨some 15,.fieldA 0 (.t 1),none⟩,
 ⟨some 16,.load none (.t 15),none⟩,
 ⟨some 17,.ar .eql (.t 16) (.c (.lit (.int .i64 4))),none⟩,
 ⟨some 18,.mov (.t 17),none⟩,
 ⟨some 19,.fieldA 1 (.t 1), (some (18, true))⟩,
 ⟨some 20,.load none (.t 19), (some (18, true))⟩,
 ⟨some 21,.call (.c (.fn (.func 43) [] [])) [(.t 20), (.c (.lit (.int .i64 24)))], (some (18, true))⟩,
 ⟨some 22,.pick (.t 18) (.t 21) (.c (.lit (.bool false))),none⟩,
 ⟨some 2,.mov (.t 22),none⟩])
 (.ret)))⟩
def f65 : F := ⟨22, [.tmp 4], none, .seq (.reg [⟨some 4,.mov (.c (.lit (.slice none 0 0))),none⟩])
 (.seq (.reg [⟨some 5,.mov (.c (.lit (.slice none 0 0))),none⟩])
 (.seq (.seq (.reg [⟨some 8,.mov (.t 0),none⟩,
 ⟨some 9,.len .slc (.t 8),none⟩,
 ⟨some 10,.mov (.c (.lit (.int .i64 0))),none⟩])
 (.block 0 (.loop (.seq (.reg [⟨some 11,.ar .lss (.t 10) (.t 9),none⟩])
 (.seq (.cond (.t 11)
 (.skip)
 (.exit 0))
 (.seq (.block 1 (.seq (.reg [⟨some 12,.idxA 2 (.t 8) (.t 10),none⟩,
 ⟨some 13,.load (some 2) (.t 12),none⟩,
 ⟨some 7,.alloc [.lit (.int .i64 0), .lit (.int .i64 0)],none⟩,
 ⟨none, .store 2 (.t 7) (.t 13),none⟩])
 (.reg [⟨some 14,.mov (.t 5),none⟩,
 ⟨some 15,.mov (.t 1),none⟩,
 ⟨some 16,.load (some 2) (.t 7),none⟩,
 ⟨some 17,.call (.t 15) [(.t 16)],none⟩,
 ⟨some 18,.lits 2 1 [.lit (.int .i64 0), .lit (.int .i64 0)] [(0, 2, (.t 17))],none⟩,
 ⟨some 19,.app 2 16 (.t 14) (.t 18),none⟩,
 ⟨some 5,.mov (.t 19),none⟩])))
 (.reg [⟨some 20,.ar .add (.t 10) (.c (.lit (.int .i64 1))),none⟩,
 ⟨some 10,.mov (.t 20),none⟩])))))))
 (.seq (.reg [⟨some 21,.mov (.t 5),none⟩,
 ⟨some 4,.mov (.t 21),none⟩])
 (.ret))))⟩
def f66 : F := ⟨18, [.cell 4 (some 2)], none, .seq (.reg [⟨some 3,.box (.t 0),none⟩,
 ⟨some 4,.alloc [.lit (.int .i64 0), .lit (.int .i64 0)],none⟩])
 (.seq (.seq (.reg [⟨some 8,.load none (.t 1),none⟩,
 ⟨some 9,.load (some 2) (.t 3),none⟩,
 ⟨some 10,.look (.many [.int .i64, .int .i64]) (.agg [.lit (.int .i64 0), .lit (.int .i64 0)]) true (.t 8) (.t 9),none⟩,
 ⟨some 7,.mov (.t 10),none⟩,
 ⟨some 11,.ext (.t 7) 0,none⟩,
 ⟨some 12,.ext (.t 7) 1,none⟩,
 ⟨some 5,.alloc [.lit (.int .i64 0), .lit (.int .i64 0)],none⟩,
 ⟨none, .store 2 (.t 5) (.t 11),none⟩,
 ⟨some 6,.mov (.t 12),none⟩])
 (.seq (.reg [⟨some 13,.mov (.t 6),none⟩])
 (.cond (.t 13)
 (.reg [⟨some 14,.load (some 2) (.t 5),none⟩,
 ⟨none, .store 2 (.t 3) (.t 14),none⟩])
 (.skip))))
 (.seq (.reg [⟨some 15,.load none (.t 2),none⟩,
 ⟨some 16,.load (some 2) (.t 3),none⟩,
 ⟨none, .upd (.many [.int .i64, .int .i64]) (.t 15) (.t 16) (.c (.lit (.bool true))),none⟩])
 (.seq (.reg [⟨some 17,.load (some 2) (.t 3),none⟩,
 ⟨none, .store 2 (.t 4) (.t 17),none⟩])
 (.ret))))⟩
def f67 : F := ⟨8, [.tmp 2], none, .seq (.reg [⟨some 2,.mov (.c (.lit (.string ⟨#[]⟩))),none⟩])
 (.seq (.reg [⟨some 3,.mov (.t 0),none⟩,
 ⟨some 4,.mov (.t 0),none⟩,
 ⟨some 5,.call (.c (.fn (.func 138) [] [])) [(.t 4)],none⟩,
 ⟨some 6,.app 1 1 (.t 3) (.t 5),none⟩,
 ⟨some 7,.bstr (.t 6),none⟩,
 ⟨some 2,.mov (.t 7),none⟩])
 (.ret))⟩
def f68 : F := ⟨28, [.tmp 4], none, .seq (.reg [⟨some 4,.mov (.c (.lit (.slice none 0 0))),none⟩])
 (.seq (.reg [⟨some 8,.mov (.t 0),none⟩,
 ⟨some 9,.lits 1 1 [.lit (.int .u8 0)] [(0, 1, (.t 8))],none⟩,
 ⟨some 10,.mov (.t 1),none⟩,
 ⟨some 11,.len .slc (.t 10),none⟩,
 ⟨some 12,.call (.c (.fn (.func 142) [] [])) [(.t 9), (.t 11)],none⟩,
 ⟨some 5,.mov (.t 12),none⟩])
 (.seq (.seq (.reg [⟨some 13,.mov (.t 1),none⟩,
 ⟨some 14,.len .slc (.t 13),none⟩,
 ⟨some 15,.mov (.c (.lit (.int .i64 0))),none⟩])
 (.block 0 (.loop (.seq (.reg [⟨some 16,.ar .lss (.t 15) (.t 14),none⟩])
 (.seq (.cond (.t 16)
 (.skip)
 (.exit 0))
 (.seq (.block 1 (.seq (.reg [⟨some 17,.idxA 2 (.t 13) (.t 15),none⟩,
 ⟨some 18,.load (some 2) (.t 17),none⟩,
 ⟨some 7,.alloc [.lit (.int .i64 0), .lit (.int .i64 0)],none⟩,
 ⟨none, .store 2 (.t 7) (.t 18),none⟩])
 (.regD [(.pure, ⟨some 19,.mov (.t 5),none⟩),
  (.read 0 0, ⟨some 20,.fieldA 0 (.t 7),none⟩),
  (.read 0 0, ⟨some 21,.load none (.t 20),none⟩),
  (.loud false [], ⟨some 22,.call (.c (.fn (.func 142) [] [])) [(.t 19), (.t 21)],none⟩),
  (.read 0 1, ⟨some 23,.fieldA 1 (.t 7),none⟩),
  (.read 0 1, ⟨some 24,.load none (.t 23),none⟩),
  (.loud true [], ⟨some 25,.call (.c (.fn (.func 142) [] [])) [(.t 22), (.t 24)],none⟩),
  (.pure, ⟨some 5,.mov (.t 25),none⟩)])))
 (.reg [⟨some 26,.ar .add (.t 15) (.c (.lit (.int .i64 1))),none⟩,
 ⟨some 15,.mov (.t 26),none⟩])))))))
 (.seq (.reg [⟨some 27,.mov (.t 5),none⟩,
 ⟨some 4,.mov (.t 27),none⟩])
 (.ret))))⟩
def f69 : F := ⟨19, [.tmp 4], none, .seq (.reg [⟨some 3,.box (.t 1),none⟩,
 ⟨some 4,.mov (.c (.lit (.int .i64 0))),none⟩])
 (.seq (.seq (.reg [⟨some 6,.mov (.t 0),none⟩,
 ⟨some 7,.len .slc (.t 6),none⟩,
 ⟨some 8,.mov (.c (.lit (.int .i64 0))),none⟩])
 (.block 0 (.loop (.seq (.reg [⟨some 9,.ar .lss (.t 8) (.t 7),none⟩])
 (.seq (.cond (.t 9)
 (.skip)
 (.exit 0))
 (.seq (.block 1 (.seq (.reg [⟨some 10,.mov (.t 8),none⟩,
 ⟨some 5,.mov (.t 10),none⟩])
 (.seq (.regD [(.read 0 0, ⟨some 11,.load (some 2) (.t 3),none⟩),
  (.pure, ⟨some 12,.mov (.t 0),none⟩),
  (.pure, ⟨some 13,.mov (.t 5),none⟩),
  (.read 0 0, ⟨some 14,.idxA 2 (.t 12) (.t 13),none⟩),
  (.read 0 0, ⟨some 15,.load (some 2) (.t 14),none⟩),
  (.pure, ⟨some 16,.eqA false [.int .i64, .int .i64] (.t 11) (.t 15),none⟩)])
 (.cond (.t 16)
 (.seq (.reg [⟨some 17,.mov (.t 5),none⟩,
 ⟨some 4,.mov (.t 17),none⟩])
 (.ret))
 (.skip)))))
 (.reg [⟨some 18,.ar .add (.t 8) (.c (.lit (.int .i64 1))),none⟩,
 ⟨some 8,.mov (.t 18),none⟩])))))))
 (.seq (.reg [⟨some 4,.mov (.c (.lit (.int .i64 (-1)))),none⟩])
 (.ret)))⟩
def f70 : F := ⟨9, [.tmp 3], none, .seq (.reg [⟨some 3,.mov (.c (.lit (.int .i64 0))),none⟩])
 (.seq (.regD [(.pure, ⟨some 4,.mov (.t 0),none⟩),
  (.loud false [], ⟨some 5,.call (.c (.fn (.func 39) [] [])) [(.c (.lit (.int .i64 4))), (.t 4)],none⟩),
  (.read 0 1, ⟨some 6,.load none (.t 1),none⟩),
  (.loud true [], ⟨some 7,.call (.c (.fn (.func 25) [] [])) [(.t 5), (.t 6)],none⟩),
  (.pure, ⟨some 8,.field 1 none (.t 7),none⟩),
  (.pure, ⟨some 3,.mov (.t 8),none⟩)])
 (.ret))⟩
def f71 : F := ⟨21, [.tmp 3], none, .seq (.reg [⟨some 3,.mov (.c (.lit (.slice none 0 0))),none⟩])
 (.seq (.reg [⟨some 4,.mov (.c (.lit (.slice none 0 0))),none⟩])
 (.seq (.seq (.reg [⟨some 7,.mov (.t 0),none⟩,
 ⟨some 8,.len .slc (.t 7),none⟩,
 ⟨some 9,.mov (.c (.lit (.int .i64 0))),none⟩])
 (.block 0 (.loop (.seq (.reg [⟨some 10,.ar .lss (.t 9) (.t 8),none⟩])
 (.seq (.cond (.t 10)
 (.skip)
 (.exit 0))
 (.seq (.block 1 (.seq (.reg [⟨some 11,.idxA 2 (.t 7) (.t 9),none⟩,
 ⟨some 12,.load (some 2) (.t 11),none⟩,
 ⟨some 6,.alloc [.lit (.int .i64 0), .lit (.int .i64 0)],none⟩,
 ⟨none, .store 2 (.t 6) (.t 12),none⟩])
 (.reg [⟨some 13,.mov (.t 4),none⟩,
 ⟨some 14,.load (some 2) (.t 6),none⟩,
 ⟨some 15,.load none (.t 1),none⟩,
 ⟨some 16,.call (.c (.fn (.func 25) [] [])) [(.t 14), (.t 15)],none⟩,
 ⟨some 17,.lits 2 1 [.lit (.int .i64 0), .lit (.int .i64 0)] [(0, 2, (.t 16))],none⟩,
 ⟨some 18,.app 2 16 (.t 13) (.t 17),none⟩,
 ⟨some 4,.mov (.t 18),none⟩])))
 (.reg [⟨some 19,.ar .add (.t 9) (.c (.lit (.int .i64 1))),none⟩,
 ⟨some 9,.mov (.t 19),none⟩])))))))
 (.seq (.reg [⟨some 20,.mov (.t 4),none⟩,
 ⟨some 3,.mov (.t 20),none⟩])
 (.ret))))⟩
def f92 : F := ⟨6, [.tmp 2], none, .seq (.reg [⟨some 2,.mov (.c (.lit (.slice none 0 0))),none⟩])
 (.seq (.reg [⟨some 3,.mov (.t 0),none⟩,
 ⟨some 4,.build [.lit (.int .i64 0), .lit (.int .i64 0), .lit (.slice none 0 0)] [(0, 1, (.c (.lit (.int .i64 2)))), (1, 1, (.t 3))],none⟩,
 ⟨some 5,.lits 3 1 [.lit (.int .i64 0), .lit (.int .i64 0), .lit (.slice none 0 0)] [(0, 3, (.t 4))],none⟩,
 ⟨some 2,.mov (.t 5),none⟩])
 (.ret))⟩
def f93 : F := ⟨6, [.tmp 2], none, .seq (.reg [⟨some 2,.mov (.c (.lit (.slice none 0 0))),none⟩])
 (.seq (.reg [⟨some 3,.mov (.t 0),none⟩,
 ⟨some 4,.build [.lit (.int .i64 0), .lit (.int .i64 0), .lit (.slice none 0 0)] [(0, 1, (.c (.lit (.int .i64 1)))), (1, 1, (.t 3))],none⟩,
 ⟨some 5,.lits 3 1 [.lit (.int .i64 0), .lit (.int .i64 0), .lit (.slice none 0 0)] [(0, 3, (.t 4))],none⟩,
 ⟨some 2,.mov (.t 5),none⟩])
 (.ret))⟩
def f94 : F := ⟨138, [], none, .seq (.reg [⟨some 9,.mov (.t 0),none⟩,
 ⟨some 10,.chk (.t 9),none⟩,
 ⟨some 11,.fieldA 9 (.t 10),none⟩,
 ⟨some 12,.load none (.t 11),none⟩,
 ⟨some 13,.ar .add (.t 12) (.c (.lit (.int .i64 1))),none⟩,
 ⟨some 14,.chk (.t 9),none⟩,
 ⟨some 15,.fieldA 9 (.t 14),none⟩,
 ⟨none, .store 1 (.t 15) (.t 13),none⟩])
 (.seq (.reg [⟨some 16,.mov (.t 0),none⟩,
 ⟨some 17,.mov (.t 0),none⟩,
 ⟨some 18,.chk (.t 17),none⟩,
 ⟨some 19,.fieldA 10 (.t 18),none⟩,
 ⟨some 20,.load none (.t 19),none⟩,
 ⟨some 21,.mov (.t 20),none⟩,
 ⟨some 22,.mov (.t 0), (some (21, false))⟩,
 ⟨some 23,.chk (.t 22), (some (21, false))⟩,
 ⟨some 24,.fieldA 9 (.t 23), (some (21, false))⟩,
 ⟨some 25,.load none (.t 24), (some (21, false))⟩,
 ⟨some 26,.ar .gtr (.t 25) (.c (.lit (.int .i64 400))), (some (21, false))⟩,
 ⟨some 27,.pick (.t 21) (.c (.lit (.bool true))) (.t 26),none⟩,
 ⟨some 28,.chk (.t 16),none⟩,
 ⟨some 29,.fieldA 10 (.t 28),none⟩,
 ⟨none, .store 1 (.t 29) (.t 27),none⟩])
 (.seq (.seq (.reg [⟨some 30,.mov (.t 0),none⟩,
 ⟨some 31,.chk (.t 30),none⟩,
 ⟨some 32,.fieldA 10 (.t 31),none⟩,
 ⟨some 33,.load none (.t 32),none⟩])
 (.cond (.t 33)
 (.ret)
 (.skip)))
 (.seq (.reg [⟨some 34,.mov (.t 0),none⟩,
 ⟨some 35,.chk (.t 34),none⟩,
 ⟨some 36,.fieldA 0 (.t 35),none⟩,
 ⟨some 37,.fieldA 1 (.t 36),none⟩,
 ⟨some 38,.load none (.t 37),none⟩,
 ⟨some 39,.mov (.t 1),none⟩,
 ⟨some 40,.idxA 4 (.t 38) (.t 39),none⟩,
 ⟨some 41,.load (some 4) (.t 40),none⟩,
 ⟨some 8,.alloc [.lit (.int .i64 0), .lit (.int .i64 0), .lit (.slice none 0 0), .lit (.slice none 0 0)],none⟩,
 ⟨none, .store 4 (.t 8) (.t 41),none⟩])
 (.seq (.reg [⟨some 42,.fieldA 0 (.t 8),none⟩,
 ⟨some 43,.load none (.t 42),none⟩])
 (.block 0 (.seq (.reg [⟨some 45,.ar .eql (.t 43) (.c (.lit (.int .i64 2))),none⟩,
 ⟨some 44,.mov (.t 45),none⟩])
 (.cond (.t 44)
 (.reg [⟨some 46,.mov (.t 0),none⟩,
 ⟨some 47,.load (some 4) (.t 8),none⟩,
 ⟨some 48,.mov (.t 2),none⟩,
 ⟨some 49,.mov (.t 3),none⟩,
 ⟨some 50,.call (.c (.fn (.func 156) [] [])) [(.t 46), (.t 47), (.t 48), (.t 49)],none⟩])
 (.seq (.reg [⟨some 52,.ar .eql (.t 43) (.c (.lit (.int .i64 3))),none⟩,
 ⟨some 51,.mov (.t 52),none⟩])
 (.cond (.t 51)
 (.seq (.reg [⟨some 53,.mov (.t 0),none⟩,
 ⟨some 54,.fieldA 3 (.t 8),none⟩,
 ⟨some 55,.load none (.t 54),none⟩,
 ⟨some 56,.idxA 1 (.t 55) (.c (.lit (.int .i64 0))),none⟩,
 ⟨some 57,.load none (.t 56),none⟩,
 ⟨some 58,.mov (.t 2),none⟩,
 ⟨some 59,.mov (.t 3),none⟩,
 ⟨some 60,.call (.c (.fn (.func 94) [] [])) [(.t 53), (.t 57), (.t 58), (.t 59)],none⟩])
 (.reg [⟨some 61,.mov (.t 0),none⟩,
 ⟨some 62,.fieldA 3 (.t 8),none⟩,
 ⟨some 63,.load none (.t 62),none⟩,
 ⟨some 64,.idxA 1 (.t 63) (.c (.lit (.int .i64 1))),none⟩,
 ⟨some 65,.load none (.t 64),none⟩,
 ⟨some 66,.mov (.t 2),none⟩,
 ⟨some 67,.mov (.t 3),none⟩,
 ⟨some 68,.call (.c (.fn (.func 94) [] [])) [(.t 61), (.t 65), (.t 66), (.t 67)],none⟩]))
 (.seq (.reg [⟨some 70,.ar .eql (.t 43) (.c (.lit (.int .i64 4))),none⟩,
 ⟨some 69,.mov (.t 70),none⟩])
 (.cond (.t 69)
 (.reg [⟨some 71,.mov (.t 0),none⟩,
 ⟨some 72,.load (some 4) (.t 8),none⟩,
 ⟨some 73,.mov (.t 2),none⟩,
 ⟨some 74,.mov (.t 3),none⟩,
 ⟨some 75,.call (.c (.fn (.func 157) [] [])) [(.t 71), (.t 72), (.t 73), (.t 74)],none⟩])
 (.seq (.reg [⟨some 77,.ar .eql (.t 43) (.c (.lit (.int .i64 5))),none⟩,
 ⟨some 76,.mov (.t 77),none⟩])
 (.cond (.t 76)
 (.seq (.reg [⟨some 78,.fieldA 2 (.t 8),none⟩,
 ⟨some 79,.load none (.t 78),none⟩,
 ⟨some 80,.idxA 3 (.t 79) (.c (.lit (.int .i64 0))),none⟩,
 ⟨some 81,.load (some 3) (.t 80),none⟩,
 ⟨some 82,.mov (.t 3),none⟩,
 ⟨some 83,.call (.c (.fn (.func 159) [] [])) [(.t 81), (.t 82)],none⟩,
 ⟨some 84,.call (.c (.fn (.func 158) [] [])) [(.t 83)],none⟩,
 ⟨some 85,.ar .neq (.t 84) (.c (.lit (.int .i64 0))),none⟩])
 (.cond (.t 85)
 (.reg [⟨some 86,.mov (.t 0),none⟩,
 ⟨some 87,.fieldA 3 (.t 8),none⟩,
 ⟨some 88,.load none (.t 87),none⟩,
 ⟨some 89,.idxA 1 (.t 88) (.c (.lit (.int .i64 0))),none⟩,
 ⟨some 90,.load none (.t 89),none⟩,
 ⟨some 91,.mov (.t 2),none⟩,
 ⟨some 92,.mov (.t 3),none⟩,
 ⟨some 93,.call (.c (.fn (.func 94) [] [])) [(.t 86), (.t 90), (.t 91), (.t 92)],none⟩])
 (.reg [⟨some 94,.mov (.t 0),none⟩,
 ⟨some 95,.fieldA 3 (.t 8),none⟩,
 ⟨some 96,.load none (.t 95),none⟩,
 ⟨some 97,.idxA 1 (.t 96) (.c (.lit (.int .i64 1))),none⟩,
 ⟨some 98,.load none (.t 97),none⟩,
 ⟨some 99,.mov (.t 2),none⟩,
 ⟨some 100,.mov (.t 3),none⟩,
 ⟨some 101,.call (.c (.fn (.func 94) [] [])) [(.t 94), (.t 98), (.t 99), (.t 100)],none⟩])))
 (.seq (.seq (.reg [⟨some 103,.ar .eql (.t 43) (.c (.lit (.int .i64 6))),none⟩,
 ⟨some 102,.mov (.t 103),none⟩])
 (.cond (.t 102)
 (.skip)
 (.seq (.reg [⟨some 104,.ar .eql (.t 43) (.c (.lit (.int .i64 7))),none⟩,
 ⟨some 102,.mov (.t 104),none⟩])
 (.cond (.t 102)
 (.skip)
 (.reg [⟨some 105,.ar .eql (.t 43) (.c (.lit (.int .i64 8))),none⟩,
 ⟨some 102,.mov (.t 105),none⟩])))))
 (.cond (.t 102)
 (.seq (.regD [(.pure, ⟨some 106,.mov (.t 0),none⟩),
  (.pure, ⟨some 107,.mov (.t 0),none⟩),
  (.read 0 1, ⟨some 108,.chk (.t 107),none⟩),
  (.read 0 1, ⟨some 109,.fieldA 4 (.t 108),none⟩),
  (.read 0 1, ⟨some 110,.fieldA 3 (.t 109),none⟩),
  (.read 0 1, ⟨some 111,.load none (.t 110),none⟩),
  (.pure, ⟨some 112,.mov (.t 2),none⟩),
  (.pure, ⟨some 113,.mov (.t 1),none⟩),
  (.pure, ⟨some 114,.mov (.t 3),none⟩),
  (.loud true [], ⟨some 115,.call (.c (.fn (.func 148) [] [])) [(.t 114)],none⟩),
  (.pure, ⟨some 116,.build [.lit (.int .i64 0), .lit (.int .i64 0), .lit (.slice none 0 0)] [(0, 1, (.t 112)), (1, 1, (.t 113)), (2, 1, (.t 115))],none⟩),
  (.made, ⟨some 117,.lits 3 1 [.lit (.int .i64 0), .lit (.int .i64 0), .lit (.slice none 0 0)] [(0, 3, (.t 116))],none⟩),
  (.loud true [], ⟨some 118,.app 3 40 (.t 111) (.t 117),none⟩),
  (.read 2 2, ⟨some 119,.chk (.t 106),none⟩),
  (.read 2 2, ⟨some 120,.fieldA 4 (.t 119),none⟩),
  (.read 2 2, ⟨some 121,.fieldA 3 (.t 120),none⟩),
  (.loud true [], ⟨none, .store 1 (.t 121) (.t 118),none⟩)])
 (.reg [⟨some 122,.mov (.t 0),none⟩,
 ⟨some 123,.mov (.t 0),none⟩,
 ⟨some 124,.chk (.t 123),none⟩,
 ⟨some 125,.fieldA 10 (.t 124),none⟩,
 ⟨some 126,.load none (.t 125),none⟩,
 ⟨some 127,.mov (.t 126),none⟩,
 ⟨some 128,.mov (.t 0), (some (127, false))⟩,
 ⟨some 129,.chk (.t 128), (some (127, false))⟩,
 ⟨some 130,.fieldA 4 (.t 129), (some (127, false))⟩,
 ⟨some 131,.fieldA 3 (.t 130), (some (127, false))⟩,
 ⟨some 132,.load none (.t 131), (some (127, false))⟩,
 ⟨some 133,.len .slc (.t 132), (some (127, false))⟩,
 ⟨some 134,.ar .gtr (.t 133) (.c (.lit (.int .i64 40))), (some (127, false))⟩,
 ⟨some 135,.pick (.t 127) (.c (.lit (.bool true))) (.t 134),none⟩,
 ⟨some 136,.chk (.t 122),none⟩,
 ⟨some 137,.fieldA 10 (.t 136),none⟩,
 ⟨none, .store 1 (.t 137) (.t 135),none⟩]))
 (.skip))))))))))))))))⟩
def f95 : F := ⟨18, [.cell 2 (some 4), .tmp 3, .tmp 4], none, .seq (.reg [⟨some 2,.alloc [.lit (.slice none 0 0), .lit (.slice none 0 0), .lit (.slice none 0 0), .lit (.slice none 0 0)],none⟩,
 ⟨some 3,.mov (.c (.lit (.slice none 0 0))),none⟩,
 ⟨some 4,.mov (.c (.lit (.int .i64 0))),none⟩])
 (.seq (.seq (.reg [⟨some 5,.mov (.t 0),none⟩,
 ⟨some 6,.chk (.t 5),none⟩,
 ⟨some 7,.fieldA 10 (.t 6),none⟩,
 ⟨some 8,.load none (.t 7),none⟩])
 (.cond (.t 8)
 (.seq (.reg [⟨some 9,.build [.lit (.slice none 0 0), .lit (.slice none 0 0), .lit (.slice none 0 0), .lit (.slice none 0 0)] [],none⟩,
 ⟨none, .store 4 (.t 2) (.t 9),none⟩,
 ⟨some 3,.mov (.c (.lit (.slice none 0 0))),none⟩,
 ⟨some 4,.mov (.c (.lit (.int .i64 3))),none⟩])
 (.ret))
 (.skip)))
 (.seq (.regD [(.pure, ⟨some 10,.mov (.t 0),none⟩),
  (.read 0 0, ⟨some 11,.chk (.t 10),none⟩),
  (.read 0 0, ⟨some 12,.fieldA 4 (.t 11),none⟩),
  (.read 0 0, ⟨some 13,.load (some 4) (.t 12),none⟩),
  (.pure, ⟨some 14,.mov (.t 0),none⟩),
  (.read 0 1, ⟨some 15,.chk (.t 14),none⟩),
  (.read 0 1, ⟨some 16,.fieldA 8 (.t 15),none⟩),
  (.read 0 1, ⟨some 17,.load none (.t 16),none⟩),
  (.loud true [], ⟨none, .store 4 (.t 2) (.t 13),none⟩),
  (.pure, ⟨some 3,.mov (.t 17),none⟩),
  (.pure, ⟨some 4,.mov (.c (.lit (.int .i64 0))),none⟩)])
 (.ret)))⟩
def f96 : F := ⟨20, [], (some (5, 2)), .seq (.reg [⟨some 6,.mov (.t 2),none⟩,
 ⟨some 7,.eqNil true .ifc (.t 6),none⟩])
 (.cond (.t 7)
 (.seq (.reg [⟨some 9,.mov (.t 2),none⟩,
 ⟨some 10,.assert 254 (.agg [.lit (.int .i64 0)]) true (.t 9),none⟩,
 ⟨some 8,.mov (.t 10),none⟩,
 ⟨some 11,.ext (.t 8) 0,none⟩,
 ⟨some 12,.ext (.t 8) 1,none⟩,
 ⟨some 3,.alloc [.lit (.int .i64 0)],none⟩,
 ⟨none, .store 1 (.t 3) (.t 11),none⟩,
 ⟨some 4,.mov (.t 12),none⟩])
 (.seq (.seq (.reg [⟨some 13,.mov (.t 4),none⟩,
 ⟨some 14,.not (.t 13),none⟩])
 (.cond (.t 14)
 (.reg [⟨some 15,.mov (.t 2),none⟩,
 ⟨none, .panic (.t 15),none⟩])
 (.skip)))
 (.reg [⟨some 16,.mov (.t 0),none⟩,
 ⟨some 17,.fieldA 0 (.t 3),none⟩,
 ⟨some 18,.load none (.t 17),none⟩,
 ⟨some 19,.chk (.t 16),none⟩,
 ⟨none, .store 1 (.t 19) (.t 18),none⟩])))
 (.skip))⟩
def f97 : F := ⟨20, [.tmp 4], none, .seq (.reg [⟨some 2,.box (.t 0),none⟩,
 ⟨some 3,.box (.t 1),none⟩,
 ⟨some 4,.mov (.c (.lit (.pointer none))),none⟩])
 (.seq (.reg [⟨some 6,.load (some 4) (.t 2),none⟩,
 ⟨some 7,.call (.c (.fn (.func 160) [] [])) [(.t 6)],none⟩,
 ⟨some 5,.mov (.t 7),none⟩])
 (.seq (.reg [⟨some 8,.mov (.t 5),none⟩,
 ⟨some 9,.load (some 4) (.t 3),none⟩,
 ⟨some 10,.chk (.t 8),none⟩,
 ⟨some 11,.fieldA 0 (.t 10),none⟩,
 ⟨none, .store 4 (.t 11) (.t 9),none⟩])
 (.seq (.reg [⟨some 12,.mov (.t 5),none⟩,
 ⟨some 13,.call (.c (.fn (.func 161) [] [])) [(.t 12)],none⟩])
 (.seq (.reg [⟨some 14,.mov (.t 5),none⟩,
 ⟨some 15,.load (some 4) (.t 3),none⟩,
 ⟨some 16,.call (.c (.fn (.func 162) [] [])) [(.t 15)],none⟩,
 ⟨some 17,.chk (.t 14),none⟩,
 ⟨some 18,.fieldA 0 (.t 17),none⟩,
 ⟨none, .store 4 (.t 18) (.t 16),none⟩])
 (.seq (.reg [⟨some 19,.mov (.t 5),none⟩,
 ⟨some 4,.mov (.t 19),none⟩])
 (.ret))))))⟩
def f98 : F := ⟨47, [], none, .seq (.reg [⟨some 5,.mov (.t 0),none⟩,
 ⟨some 6,.len .slc (.t 5),none⟩,
 ⟨some 7,.ar .gtr (.t 6) (.c (.lit (.int .i64 0))),none⟩,
 ⟨some 8,.mov (.t 7),none⟩,
 ⟨some 9,.mov (.t 0), (some (8, true))⟩,
 ⟨some 10,.idxA 2 (.t 9) (.c (.lit (.int .i64 0))), (some (8, true))⟩,
 ⟨some 11,.fieldA 0 (.t 10), (some (8, true))⟩,
 ⟨some 12,.load none (.t 11), (some (8, true))⟩,
 ⟨some 13,.ar .eql (.t 12) (.c (.lit (.int .i64 (-1)))), (some (8, true))⟩,
 ⟨some 14,.pick (.t 8) (.t 13) (.c (.lit (.bool false))),none⟩,
 ⟨some 15,.call (.c (.fn (.func 99) [] [])) [(.t 14)],none⟩])
 (.seq (.reg [⟨some 16,.mov (.t 0),none⟩,
 ⟨some 17,.len .slc (.t 16),none⟩,
 ⟨some 18,.mov (.c (.lit (.int .i64 0))),none⟩])
 (.block 0 (.loop (.seq (.reg [⟨some 19,.ar .lss (.t 18) (.t 17),none⟩])
 (.seq (.cond (.t 19)
 (.skip)
 (.exit 0))
 (.seq (.block 1 (.seq (.reg [⟨some 20,.mov (.t 18),none⟩,
 ⟨some 2,.mov (.t 20),none⟩])
 (.seq (.reg [⟨some 21,.mov (.t 2),none⟩,
 ⟨some 3,.mov (.t 21),none⟩])
 (.seq (.reg [⟨some 4,.mov (.c (.lit (.int .i64 0))),none⟩])
 (.block 2 (.loop (.seq (.seq (.reg [⟨some 22,.mov (.t 3),none⟩,
 ⟨some 23,.ar .neq (.t 22) (.c (.lit (.int .i64 0))),none⟩])
 (.cond (.t 23)
 (.skip)
 (.exit 2)))
 (.seq (.block 3 (.seq (.reg [⟨some 26,.mov (.t 0),none⟩,
 ⟨some 27,.mov (.t 3),none⟩,
 ⟨some 28,.idxA 2 (.t 26) (.t 27),none⟩,
 ⟨some 29,.fieldA 0 (.t 28),none⟩,
 ⟨some 30,.load none (.t 29),none⟩,
 ⟨some 3,.mov (.t 30),none⟩])
 (.reg [⟨some 31,.mov (.t 3),none⟩,
 ⟨some 32,.ar .geq (.t 31) (.c (.lit (.int .i64 0))),none⟩,
 ⟨some 33,.mov (.t 32),none⟩,
 ⟨some 34,.mov (.t 3), (some (33, true))⟩,
 ⟨some 35,.mov (.t 0), (some (33, true))⟩,
 ⟨some 36,.len .slc (.t 35), (some (33, true))⟩,
 ⟨some 37,.ar .lss (.t 34) (.t 36), (some (33, true))⟩,
 ⟨some 38,.pick (.t 33) (.t 37) (.c (.lit (.bool false))),none⟩,
 ⟨some 39,.mov (.t 38),none⟩,
 ⟨some 40,.mov (.t 4), (some (39, true))⟩,
 ⟨some 41,.mov (.t 0), (some (39, true))⟩,
 ⟨some 42,.len .slc (.t 41), (some (39, true))⟩,
 ⟨some 43,.ar .lss (.t 40) (.t 42), (some (39, true))⟩,
 ⟨some 44,.pick (.t 39) (.t 43) (.c (.lit (.bool false))),none⟩,
 ⟨some 45,.call (.c (.fn (.func 99) [] [])) [(.t 44)],none⟩])))
 (.reg [⟨some 24,.mov (.t 4),none⟩,
 ⟨some 25,.ar .add (.t 24) (.c (.lit (.int .i64 1))),none⟩,
 ⟨some 4,.mov (.t 25),none⟩])))))))))
 (.reg [⟨some 46,.ar .add (.t 18) (.c (.lit (.int .i64 1))),none⟩,
 ⟨some 18,.mov (.t 46),none⟩])))))))⟩
def f99 : F := ⟨5, [], none, .seq (.reg [⟨some 2,.mov (.t 0),none⟩,
 ⟨some 3,.not (.t 2),none⟩])
 (.cond (.t 3)
 (.reg [⟨some 4,.call (.c (.fn (.func 163) [] [])) [(.c (.lit (.int .i64 2)))],none⟩])
 (.skip))⟩
def f100 : F := ⟨22, [.tmp 6], none, .seq (.reg [⟨some 6,.mov (.c (.lit (.bool false))),none⟩])
 (.seq (.block 0 (.loop (.seq (.seq (.reg [⟨some 7,.mov (.t 1),none⟩,
 ⟨some 8,.mov (.t 2),none⟩,
 ⟨some 9,.ar .neq (.t 7) (.t 8),none⟩,
 ⟨some 10,.mov (.t 9),none⟩,
 ⟨some 11,.mov (.t 1), (some (10, true))⟩,
 ⟨some 12,.ar .geq (.t 11) (.c (.lit (.int .i64 0))), (some (10, true))⟩,
 ⟨some 13,.pick (.t 10) (.t 12) (.c (.lit (.bool false))),none⟩])
 (.cond (.t 13)
 (.skip)
 (.exit 0)))
 (.block 1 (.reg [⟨some 14,.mov (.t 0),none⟩,
 ⟨some 15,.mov (.t 1),none⟩,
 ⟨some 16,.idxA 2 (.t 14) (.t 15),none⟩,
 ⟨some 17,.fieldA 0 (.t 16),none⟩,
 ⟨some 18,.load none (.t 17),none⟩,
 ⟨some 1,.mov (.t 18),none⟩])))))
 (.seq (.reg [⟨some 19,.mov (.t 1),none⟩,
 ⟨some 20,.mov (.t 2),none⟩,
 ⟨some 21,.ar .eql (.t 19) (.t 20),none⟩,
 ⟨some 6,.mov (.t 21),none⟩])
 (.ret)))⟩
def f101 : F := ⟨8, [.tmp 2], none, .seq (.reg [⟨some 2,.mov (.c (.lit (.slice none 0 0))),none⟩])
 (.seq (.seq (.reg [⟨some 3,.mov (.t 0),none⟩,
 ⟨some 4,.eqNil false .slc (.t 3),none⟩])
 (.cond (.t 4)
 (.seq (.reg [⟨some 2,.mov (.c (.lit (.slice none 0 0))),none⟩])
 (.ret))
 (.skip)))
 (.seq (.reg [⟨some 5,.lits 2 0 [] [],none⟩,
 ⟨some 6,.mov (.t 0),none⟩,
 ⟨some 7,.app 2 16 (.t 5) (.t 6),none⟩,
 ⟨some 2,.mov (.t 7),none⟩])
 (.ret)))⟩
def f102 : F := ⟨22, [.tmp 4], none, .seq (.reg [⟨some 4,.mov (.c (.lit (.slice none 0 0))),none⟩])
 (.seq (.reg [⟨some 5,.mov (.c (.lit (.slice none 0 0))),none⟩])
 (.seq (.seq (.reg [⟨some 8,.mov (.t 0),none⟩,
 ⟨some 9,.len .slc (.t 8),none⟩,
 ⟨some 10,.mov (.c (.lit (.int .i64 0))),none⟩])
 (.block 0 (.loop (.seq (.reg [⟨some 11,.ar .lss (.t 10) (.t 9),none⟩])
 (.seq (.cond (.t 11)
 (.skip)
 (.exit 0))
 (.seq (.block 1 (.seq (.reg [⟨some 12,.idxA 3 (.t 8) (.t 10),none⟩,
 ⟨some 13,.load (some 3) (.t 12),none⟩,
 ⟨some 7,.alloc [.lit (.int .i64 0), .lit (.int .i64 0), .lit (.slice none 0 0)],none⟩,
 ⟨none, .store 3 (.t 7) (.t 13),none⟩])
 (.reg [⟨some 14,.mov (.t 5),none⟩,
 ⟨some 15,.mov (.t 1),none⟩,
 ⟨some 16,.load (some 3) (.t 7),none⟩,
 ⟨some 17,.call (.t 15) [(.t 16)],none⟩,
 ⟨some 18,.lits 3 1 [.lit (.int .i64 0), .lit (.int .i64 0), .lit (.slice none 0 0)] [(0, 3, (.t 17))],none⟩,
 ⟨some 19,.app 3 40 (.t 14) (.t 18),none⟩,
 ⟨some 5,.mov (.t 19),none⟩])))
 (.reg [⟨some 20,.ar .add (.t 10) (.c (.lit (.int .i64 1))),none⟩,
 ⟨some 10,.mov (.t 20),none⟩])))))))
 (.seq (.reg [⟨some 21,.mov (.t 5),none⟩,
 ⟨some 4,.mov (.t 21),none⟩])
 (.ret))))⟩
def f103 : F := ⟨11, [.cell 2 (some 3)], none, .seq (.reg [⟨some 1,.box (.t 0),none⟩,
 ⟨some 2,.alloc [.lit (.int .i64 0), .lit (.int .i64 0), .lit (.slice none 0 0)],none⟩])
 (.seq (.regD [(.read 0 1, ⟨some 3,.fieldA 0 (.t 1),none⟩),
  (.read 0 1, ⟨some 4,.load none (.t 3),none⟩),
  (.read 0 1, ⟨some 5,.fieldA 1 (.t 1),none⟩),
  (.read 0 1, ⟨some 6,.load none (.t 5),none⟩),
  (.read 0 0, ⟨some 7,.fieldA 2 (.t 1),none⟩),
  (.read 0 0, ⟨some 8,.load none (.t 7),none⟩),
  (.loud true [], ⟨some 9,.call (.c (.fn (.func 104) [] [])) [(.t 8)],none⟩),
  (.pure, ⟨some 10,.build [.lit (.int .i64 0), .lit (.int .i64 0), .lit (.slice none 0 0)] [(0, 1, (.t 4)), (1, 1, (.t 6)), (2, 1, (.t 9))],none⟩),
  (.loud true [], ⟨none, .store 3 (.t 2) (.t 10),none⟩)])
 (.ret))⟩
def f104 : F := ⟨5, [.tmp 2], none, .seq (.reg [⟨some 2,.mov (.c (.lit (.slice none 0 0))),none⟩])
 (.seq (.reg [⟨some 3,.mov (.t 0),none⟩,
 ⟨some 4,.call (.c (.fn (.func 164) [] [])) [(.t 3)],none⟩,
 ⟨some 2,.mov (.t 4),none⟩])
 (.ret))⟩
def f105 : F := ⟨22, [.tmp 4], none, .seq (.reg [⟨some 4,.mov (.c (.lit (.slice none 0 0))),none⟩])
 (.seq (.reg [⟨some 5,.mov (.c (.lit (.slice none 0 0))),none⟩])
 (.seq (.seq (.reg [⟨some 8,.mov (.t 0),none⟩,
 ⟨some 9,.len .slc (.t 8),none⟩,
 ⟨some 10,.mov (.c (.lit (.int .i64 0))),none⟩])
 (.block 0 (.loop (.seq (.reg [⟨some 11,.ar .lss (.t 10) (.t 9),none⟩])
 (.seq (.cond (.t 11)
 (.skip)
 (.exit 0))
 (.seq (.block 1 (.seq (.reg [⟨some 12,.idxA 4 (.t 8) (.t 10),none⟩,
 ⟨some 13,.load (some 4) (.t 12),none⟩,
 ⟨some 7,.alloc [.lit (.int .i64 0), .lit (.int .i64 0), .lit (.int .i64 0), .lit (.slice none 0 0)],none⟩,
 ⟨none, .store 4 (.t 7) (.t 13),none⟩])
 (.reg [⟨some 14,.mov (.t 5),none⟩,
 ⟨some 15,.mov (.t 1),none⟩,
 ⟨some 16,.load (some 4) (.t 7),none⟩,
 ⟨some 17,.call (.t 15) [(.t 16)],none⟩,
 ⟨some 18,.lits 4 1 [.lit (.int .i64 0), .lit (.int .i64 0), .lit (.int .i64 0), .lit (.slice none 0 0)] [(0, 4, (.t 17))],none⟩,
 ⟨some 19,.app 4 48 (.t 14) (.t 18),none⟩,
 ⟨some 5,.mov (.t 19),none⟩])))
 (.reg [⟨some 20,.ar .add (.t 10) (.c (.lit (.int .i64 1))),none⟩,
 ⟨some 10,.mov (.t 20),none⟩])))))))
 (.seq (.reg [⟨some 21,.mov (.t 5),none⟩,
 ⟨some 4,.mov (.t 21),none⟩])
 (.ret))))⟩
def f106 : F := ⟨13, [.cell 2 (some 4)], none, .seq (.reg [⟨some 1,.box (.t 0),none⟩,
 ⟨some 2,.alloc [.lit (.int .i64 0), .lit (.int .i64 0), .lit (.int .i64 0), .lit (.slice none 0 0)],none⟩])
 (.seq (.regD [(.read 0 1, ⟨some 3,.fieldA 0 (.t 1),none⟩),
  (.read 0 1, ⟨some 4,.load none (.t 3),none⟩),
  (.read 0 1, ⟨some 5,.fieldA 1 (.t 1),none⟩),
  (.read 0 1, ⟨some 6,.load none (.t 5),none⟩),
  (.read 0 1, ⟨some 7,.fieldA 2 (.t 1),none⟩),
  (.read 0 1, ⟨some 8,.load none (.t 7),none⟩),
  (.read 0 0, ⟨some 9,.fieldA 3 (.t 1),none⟩),
  (.read 0 0, ⟨some 10,.load none (.t 9),none⟩),
  (.loud true [], ⟨some 11,.call (.c (.fn (.func 46) [] [])) [(.t 10)],none⟩),
  (.pure, ⟨some 12,.build [.lit (.int .i64 0), .lit (.int .i64 0), .lit (.int .i64 0), .lit (.slice none 0 0)] [(0, 1, (.t 4)), (1, 1, (.t 6)), (2, 1, (.t 8)), (3, 1, (.t 11))],none⟩),
  (.loud true [], ⟨none, .store 4 (.t 2) (.t 12),none⟩)])
 (.ret))⟩
def f107 : F := ⟨22, [.tmp 4], none, .seq (.reg [⟨some 4,.mov (.c (.lit (.slice none 0 0))),none⟩])
 (.seq (.reg [⟨some 5,.mov (.c (.lit (.slice none 0 0))),none⟩])
 (.seq (.seq (.reg [⟨some 8,.mov (.t 0),none⟩,
 ⟨some 9,.len .slc (.t 8),none⟩,
 ⟨some 10,.mov (.c (.lit (.int .i64 0))),none⟩])
 (.block 0 (.loop (.seq (.reg [⟨some 11,.ar .lss (.t 10) (.t 9),none⟩])
 (.seq (.cond (.t 11)
 (.skip)
 (.exit 0))
 (.seq (.block 1 (.seq (.reg [⟨some 12,.idxA 3 (.t 8) (.t 10),none⟩,
 ⟨some 13,.load (some 3) (.t 12),none⟩,
 ⟨some 7,.alloc [.lit (.int .i64 0), .lit (.int .i64 0), .lit (.slice none 0 0)],none⟩,
 ⟨none, .store 3 (.t 7) (.t 13),none⟩])
 (.reg [⟨some 14,.mov (.t 5),none⟩,
 ⟨some 15,.mov (.t 1),none⟩,
 ⟨some 16,.load (some 3) (.t 7),none⟩,
 ⟨some 17,.call (.t 15) [(.t 16)],none⟩,
 ⟨some 18,.lits 3 1 [.lit (.int .i64 0), .lit (.int .i64 0), .lit (.slice none 0 0)] [(0, 3, (.t 17))],none⟩,
 ⟨some 19,.app 3 40 (.t 14) (.t 18),none⟩,
 ⟨some 5,.mov (.t 19),none⟩])))
 (.reg [⟨some 20,.ar .add (.t 10) (.c (.lit (.int .i64 1))),none⟩,
 ⟨some 10,.mov (.t 20),none⟩])))))))
 (.seq (.reg [⟨some 21,.mov (.t 5),none⟩,
 ⟨some 4,.mov (.t 21),none⟩])
 (.ret))))⟩
def f108 : F := ⟨22, [.tmp 4], none, .seq (.reg [⟨some 4,.mov (.c (.lit (.slice none 0 0))),none⟩])
 (.seq (.reg [⟨some 5,.mov (.c (.lit (.slice none 0 0))),none⟩])
 (.seq (.seq (.reg [⟨some 8,.mov (.t 0),none⟩,
 ⟨some 9,.len .slc (.t 8),none⟩,
 ⟨some 10,.mov (.c (.lit (.int .i64 0))),none⟩])
 (.block 0 (.loop (.seq (.reg [⟨some 11,.ar .lss (.t 10) (.t 9),none⟩])
 (.seq (.cond (.t 11)
 (.skip)
 (.exit 0))
 (.seq (.block 1 (.seq (.reg [⟨some 12,.idxA 1 (.t 8) (.t 10),none⟩,
 ⟨some 13,.load (some 1) (.t 12),none⟩,
 ⟨some 7,.alloc [.lit (.slice none 0 0)],none⟩,
 ⟨none, .store 1 (.t 7) (.t 13),none⟩])
 (.reg [⟨some 14,.mov (.t 5),none⟩,
 ⟨some 15,.mov (.t 1),none⟩,
 ⟨some 16,.load (some 1) (.t 7),none⟩,
 ⟨some 17,.call (.t 15) [(.t 16)],none⟩,
 ⟨some 18,.lits 1 1 [.lit (.slice none 0 0)] [(0, 1, (.t 17))],none⟩,
 ⟨some 19,.app 1 24 (.t 14) (.t 18),none⟩,
 ⟨some 5,.mov (.t 19),none⟩])))
 (.reg [⟨some 20,.ar .add (.t 10) (.c (.lit (.int .i64 1))),none⟩,
 ⟨some 10,.mov (.t 20),none⟩])))))))
 (.seq (.reg [⟨some 21,.mov (.t 5),none⟩,
 ⟨some 4,.mov (.t 21),none⟩])
 (.ret))))⟩
def f109 : F := ⟨7, [.cell 2 (some 1)], none, .seq (.reg [⟨some 1,.box (.t 0),none⟩,
 ⟨some 2,.alloc [.lit (.slice none 0 0)],none⟩])
 (.seq (.reg [⟨some 3,.fieldA 0 (.t 1),none⟩,
 ⟨some 4,.load none (.t 3),none⟩,
 ⟨some 5,.call (.c (.fn (.func 104) [] [])) [(.t 4)],none⟩,
 ⟨some 6,.build [.lit (.slice none 0 0)] [(0, 1, (.t 5))],none⟩,
 ⟨none, .store 1 (.t 2) (.t 6),none⟩])
 (.ret))⟩
def f110 : F := ⟨19, [.tmp 2], none, .seq (.reg [⟨some 2,.mov (.c (.lit (.bool false))),none⟩])
 (.seq (.reg [⟨some 6,.makeM,none⟩,
 ⟨some 3,.mov (.t 6),none⟩])
 (.seq (.seq (.reg [⟨some 7,.mov (.t 0),none⟩,
 ⟨some 8,.len .slc (.t 7),none⟩,
 ⟨some 9,.mov (.c (.lit (.int .i64 0))),none⟩])
 (.block 0 (.loop (.seq (.reg [⟨some 10,.ar .lss (.t 9) (.t 8),none⟩])
 (.seq (.cond (.t 10)
 (.skip)
 (.exit 0))
 (.seq (.block 1 (.seq (.reg [⟨some 11,.idxA 1 (.t 7) (.t 9),none⟩,
 ⟨some 12,.load none (.t 11),none⟩,
 ⟨some 5,.mov (.t 12),none⟩])
 (.seq (.seq (.reg [⟨some 13,.mov (.t 3),none⟩,
 ⟨some 14,.mov (.t 5),none⟩,
 ⟨some 15,.look (.one (.int .i64)) (.lit (.bool false)) false (.t 13) (.t 14),none⟩])
 (.cond (.t 15)
 (.seq (.reg [⟨some 2,.mov (.c (.lit (.bool false))),none⟩])
 (.ret))
 (.skip)))
 (.reg [⟨some 16,.mov (.t 3),none⟩,
 ⟨some 17,.mov (.t 5),none⟩,
 ⟨none, .upd (.one (.int .i64)) (.t 16) (.t 17) (.c (.lit (.bool true))),none⟩]))))
 (.reg [⟨some 18,.ar .add (.t 9) (.c (.lit (.int .i64 1))),none⟩,
 ⟨some 9,.mov (.t 18),none⟩])))))))
 (.seq (.reg [⟨some 2,.mov (.c (.lit (.bool true))),none⟩])
 (.ret))))⟩
def f111 : F := ⟨9, [.tmp 4], none, .seq (.reg [⟨some 3,.box (.t 1),none⟩,
 ⟨some 4,.mov (.c (.lit (.bool false))),none⟩])
 (.seq (.reg [⟨some 5,.mov (.t 0),none⟩,
 ⟨some 6,.func (.func 166) [] [(.t 3)],none⟩,
 ⟨some 7,.call (.c (.fn (.func 165) [] [])) [(.t 5), (.t 6)],none⟩,
 ⟨some 8,.not (.t 7),none⟩,
 ⟨some 4,.mov (.t 8),none⟩])
 (.ret))⟩
def f112 : F := ⟨5, [.tmp 2], none, .seq (.reg [⟨some 2,.mov (.c (.lit (.bool false))),none⟩])
 (.seq (.reg [⟨some 3,.mov (.t 0),none⟩,
 ⟨some 4,.call (.c (.fn (.func 43) [] [])) [(.t 3), (.c (.lit (.int .i64 24)))],none⟩,
 ⟨some 2,.mov (.t 4),none⟩])
 (.ret))⟩
def f113 : F := ⟨22, [.tmp 4], none, .seq (.reg [⟨some 4,.mov (.c (.lit (.slice none 0 0))),none⟩])
 (.seq (.reg [⟨some 5,.mov (.c (.lit (.slice none 0 0))),none⟩])
 (.seq (.seq (.reg [⟨some 8,.mov (.t 0),none⟩,
 ⟨some 9,.len .slc (.t 8),none⟩,
 ⟨some 10,.mov (.c (.lit (.int .i64 0))),none⟩])
 (.block 0 (.loop (.seq (.reg [⟨some 11,.ar .lss (.t 10) (.t 9),none⟩])
 (.seq (.cond (.t 11)
 (.skip)
 (.exit 0))
 (.seq (.block 1 (.seq (.reg [⟨some 12,.idxA 2 (.t 8) (.t 10),none⟩,
 ⟨some 13,.load (some 2) (.t 12),none⟩,
 ⟨some 7,.alloc [.lit (.int .i64 0), .lit (.slice none 0 0)],none⟩,
 ⟨none, .store 2 (.t 7) (.t 13),none⟩])
 (.reg [⟨some 14,.mov (.t 5),none⟩,
 ⟨some 15,.mov (.t 1),none⟩,
 ⟨some 16,.load (some 2) (.t 7),none⟩,
 ⟨some 17,.call (.t 15) [(.t 16)],none⟩,
 ⟨some 18,.lits 1 1 [.lit (.int .i64 0)] [(0, 1, (.t 17))],none⟩,
 ⟨some 19,.app 1 8 (.t 14) (.t 18),none⟩,
 ⟨some 5,.mov (.t 19),none⟩])))
 (.reg [⟨some 20,.ar .add (.t 10) (.c (.lit (.int .i64 1))),none⟩,
 ⟨some 10,.mov (.t 20),none⟩])))))))
 (.seq (.reg [⟨some 21,.mov (.t 5),none⟩,
 ⟨some 4,.mov (.t 21),none⟩])
 (.ret))))⟩
def f114 : F := ⟨5, [.tmp 2], none, .seq (.reg [⟨some 1,.box (.t 0),none⟩,
 ⟨some 2,.mov (.c (.lit (.int .i64 0))),none⟩])
 (.seq (.reg [⟨some 3,.fieldA 0 (.t 1),none⟩,
 ⟨some 4,.load none (.t 3),none⟩,
 ⟨some 2,.mov (.t 4),none⟩])
 (.ret))⟩
def f115 : F := ⟨23, [.tmp 2], none, .seq (.reg [⟨some 1,.box (.t 0),none⟩,
 ⟨some 2,.mov (.c (.lit (.bool false))),none⟩])
 (.seq (.reg [⟨some 3,.fieldA 0 (.t 1),none⟩,
 ⟨some 4,.load none (.t 3),none⟩,
 ⟨some 5,.call (.c (.fn (.func 43) [] [])) [(.t 4), (.c (.lit (.int .i64 60)))],none⟩,
 ⟨some 6,.mov (.t 5),none⟩,
 ⟨some 7,.fieldA 1 (.t 1), (some (6, true))⟩,
 ⟨some 8,.load none (.t 7), (some (6, true))⟩,
 ⟨some 9,.len .slc (.t 8), (some (6, true))⟩,
 ⟨some 10,.ar .geq (.t 9) (.c (.lit (.int .i64 1))), (some (6, true))⟩,
 ⟨some 11,.pick (.t 6) (.t 10) (.c (.lit (.bool false))),none⟩,
 ⟨some 12,.mov (.t 11),none⟩,
 ⟨some 13,.fieldA 1 (.t 1), (some (12, true))⟩,
 ⟨some 14,.load none (.t 13), (some (12, true))⟩,
 ⟨some 15,.len .slc (.t 14), (some (12, true))⟩,
 ⟨some 16,.ar .leq (.t 15) (.c (.lit (.int .i64 12))), (some (12, true))⟩,
 ⟨some 17,.pick (.t 12) (.t 16) (.c (.lit (.bool false))),none⟩,
 ⟨some 18,.mov (.t 17),none⟩,
 ⟨some 19,.fieldA 1 (.t 1), (some (18, true))⟩,
 ⟨some 20,.load none (.t 19), (some (18, true))⟩,
 ⟨some 21,.call (.c (.fn (.func 116) [] [])) [(.t 20), (.c (.fn (.func 117) [] []))], (some (18, true))⟩,
 ⟨some 22,.pick (.t 18) (.t 21) (.c (.lit (.bool false))),none⟩,
 ⟨some 2,.mov (.t 22),none⟩])
 (.ret))⟩
def f116 : F := ⟨9, [.tmp 4], none, .seq (.reg [⟨some 3,.box (.t 1),none⟩,
 ⟨some 4,.mov (.c (.lit (.bool false))),none⟩])
 (.seq (.reg [⟨some 5,.mov (.t 0),none⟩,
 ⟨some 6,.func (.func 168) [] [(.t 3)],none⟩,
 ⟨some 7,.call (.c (.fn (.func 167) [] [])) [(.t 5), (.t 6)],none⟩,
 ⟨some 8,.not (.t 7),none⟩,
 ⟨some 4,.mov (.t 8),none⟩])
 (.ret))⟩
def f117 : F := ⟨12, [.tmp 2], none, .seq (.reg [⟨some 1,.box (.t 0),none⟩,
 ⟨some 2,.mov (.c (.lit (.bool false))),none⟩])
 (.seq (.reg [⟨some 3,.fieldA 0 (.t 1),none⟩,
 ⟨some 4,.load none (.t 3),none⟩,
 ⟨some 5,.len .slc (.t 4),none⟩,
 ⟨some 6,.ar .leq (.t 5) (.c (.lit (.int .i64 3))),none⟩,
 ⟨some 7,.mov (.t 6),none⟩,
 ⟨some 8,.fieldA 0 (.t 1), (some (7, true))⟩,
 ⟨some 9,.load none (.t 8), (some (7, true))⟩,
 ⟨some 10,.call (.c (.fn (.func 119) [] [])) [(.t 9), (.c (.fn (.func 120) [] []))], (some (7, true))⟩,
 ⟨some 11,.pick (.t 7) (.t 10) (.c (.lit (.bool false))),none⟩,
 ⟨some 2,.mov (.t 11),none⟩])
 (.ret))⟩
def f118 : F := ⟨38, [.tmp 4], none, .seq (.reg [⟨some 3,.box (.t 0),none⟩,
 ⟨some 4,.mov (.c (.lit (.bool false))),none⟩])
 (.seq (.reg [⟨some 6,.fieldA 0 (.t 3),none⟩,
 ⟨some 7,.load none (.t 6),none⟩,
 ⟨some 8,.load none (.t 1),none⟩,
 ⟨some 9,.ar .gtr (.t 7) (.t 8),none⟩,
 ⟨some 10,.mov (.t 9),none⟩,
 ⟨some 11,.fieldA 0 (.t 3), (some (10, true))⟩,
 ⟨some 12,.load none (.t 11), (some (10, true))⟩,
 ⟨some 13,.ar .lss (.t 12) (.c (.lit (.int .i64 40))), (some (10, true))⟩,
 ⟨some 14,.pick (.t 10) (.t 13) (.c (.lit (.bool false))),none⟩,
 ⟨some 5,.mov (.t 14),none⟩])
 (.seq (.reg [⟨some 15,.fieldA 0 (.t 3),none⟩,
 ⟨some 16,.load none (.t 15),none⟩,
 ⟨none, .store 1 (.t 1) (.t 16),none⟩])
 (.seq (.reg [⟨some 17,.mov (.t 5),none⟩,
 ⟨some 18,.mov (.t 17),none⟩,
 ⟨some 19,.fieldA 0 (.t 2), (some (18, true))⟩,
 ⟨some 20,.load none (.t 19), (some (18, true))⟩,
 ⟨some 21,.fieldA 1 (.t 3), (some (18, true))⟩,
 ⟨some 22,.fieldA 0 (.t 21), (some (18, true))⟩,
 ⟨some 23,.load none (.t 22), (some (18, true))⟩,
 ⟨some 24,.call (.c (.fn (.func 12) [] [])) [(.t 20), (.t 23)], (some (18, true))⟩,
 ⟨some 25,.pick (.t 18) (.t 24) (.c (.lit (.bool false))),none⟩,
 ⟨some 26,.mov (.t 25),none⟩,
 ⟨some 27,.fieldA 1 (.t 3), (some (26, true))⟩,
 ⟨some 28,.fieldA 1 (.t 27), (some (26, true))⟩,
 ⟨some 29,.load none (.t 28), (some (26, true))⟩,
 ⟨some 30,.call (.c (.fn (.func 43) [] [])) [(.t 29), (.c (.lit (.int .i64 60)))], (some (26, true))⟩,
 ⟨some 31,.pick (.t 26) (.t 30) (.c (.lit (.bool false))),none⟩,
 ⟨some 32,.mov (.t 31),none⟩,
 ⟨some 33,.fieldA 1 (.t 3), (some (32, true))⟩,
 ⟨some 34,.fieldA 2 (.t 33), (some (32, true))⟩,
 ⟨some 35,.load none (.t 34), (some (32, true))⟩,
 ⟨some 36,.call (.c (.fn (.func 119) [] [])) [(.t 35), (.c (.fn (.func 120) [] []))], (some (32, true))⟩,
 ⟨some 37,.pick (.t 32) (.t 36) (.c (.lit (.bool false))),none⟩,
 ⟨some 4,.mov (.t 37),none⟩])
 (.ret))))⟩
def f119 : F := ⟨9, [.tmp 4], none, .seq (.reg [⟨some 3,.box (.t 1),none⟩,
 ⟨some 4,.mov (.c (.lit (.bool false))),none⟩])
 (.seq (.reg [⟨some 5,.mov (.t 0),none⟩,
 ⟨some 6,.func (.func 170) [] [(.t 3)],none⟩,
 ⟨some 7,.call (.c (.fn (.func 169) [] [])) [(.t 5), (.t 6)],none⟩,
 ⟨some 8,.not (.t 7),none⟩,
 ⟨some 4,.mov (.t 8),none⟩])
 (.ret))⟩
def f120 : F := ⟨20, [.tmp 2], none, .seq (.reg [⟨some 1,.box (.t 0),none⟩,
 ⟨some 2,.mov (.c (.lit (.bool false))),none⟩])
 (.seq (.reg [⟨some 3,.load (some 2) (.t 1),none⟩,
 ⟨some 4,.call (.c (.fn (.func 64) [] [])) [(.t 3)],none⟩,
 ⟨some 5,.mov (.t 4),none⟩,
 ⟨some 6,.fieldA 0 (.t 1), (some (5, false))⟩,
 ⟨some 7,.load none (.t 6), (some (5, false))⟩,
 ⟨some 8,.ar .eql (.t 7) (.c (.lit (.int .i64 1))), (some (5, false))⟩,
 ⟨some 9,.mov (.t 8), (some (5, false))⟩,
 ⟨some 10,.fieldA 1 (.t 1), (some (9, true))⟩,
 ⟨some 11,.load none (.t 10), (some (9, true))⟩,
 ⟨some 12,.ar .geq (.t 11) (.c (.lit (.int .i64 (-1000000000)))), (some (9, true))⟩,
 ⟨some 13,.pick (.t 9) (.t 12) (.c (.lit (.bool false))), (some (5, false))⟩,
 ⟨some 14,.mov (.t 13), (some (5, false))⟩,
 ⟨some 15,.fieldA 1 (.t 1), (some (14, true))⟩,
 ⟨some 16,.load none (.t 15), (some (14, true))⟩,
 ⟨some 17,.ar .leq (.t 16) (.c (.lit (.int .i64 1000000000))), (some (14, true))⟩,
 ⟨some 18,.pick (.t 14) (.t 17) (.c (.lit (.bool false))), (some (5, false))⟩,
 ⟨some 19,.pick (.t 5) (.c (.lit (.bool true))) (.t 18),none⟩,
 ⟨some 2,.mov (.t 19),none⟩])
 (.ret))⟩
def f121 : F := ⟨9, [.tmp 4], none, .seq (.reg [⟨some 3,.box (.t 1),none⟩,
 ⟨some 4,.mov (.c (.lit (.bool false))),none⟩])
 (.seq (.reg [⟨some 5,.mov (.t 0),none⟩,
 ⟨some 6,.func (.func 172) [] [(.t 3)],none⟩,
 ⟨some 7,.call (.c (.fn (.func 171) [] [])) [(.t 5), (.t 6)],none⟩,
 ⟨some 8,.not (.t 7),none⟩,
 ⟨some 4,.mov (.t 8),none⟩])
 (.ret))⟩
def f122 : F := ⟨9, [.tmp 4], none, .seq (.reg [⟨some 3,.box (.t 1),none⟩,
 ⟨some 4,.mov (.c (.lit (.bool false))),none⟩])
 (.seq (.reg [⟨some 5,.mov (.t 0),none⟩,
 ⟨some 6,.func (.func 174) [] [(.t 3)],none⟩,
 ⟨some 7,.call (.c (.fn (.func 173) [] [])) [(.t 5), (.t 6)],none⟩,
 ⟨some 8,.not (.t 7),none⟩,
 ⟨some 4,.mov (.t 8),none⟩])
 (.ret))⟩
def f123 : F := ⟨31, [.tmp 4], none, .seq (.reg [⟨some 3,.box (.t 0),none⟩,
 ⟨some 4,.mov (.c (.lit (.bool false))),none⟩])
 (.seq (.seq (.reg [⟨some 5,.fieldA 0 (.t 3),none⟩,
 ⟨some 6,.load none (.t 5),none⟩])
 (.block 0 (.seq (.reg [⟨some 8,.ar .eql (.t 6) (.c (.lit (.int .i64 2))),none⟩,
 ⟨some 7,.mov (.t 8),none⟩])
 (.cond (.t 7)
 (.seq (.reg [⟨some 9,.fieldA 1 (.t 3),none⟩,
 ⟨some 10,.load none (.t 9),none⟩,
 ⟨some 11,.fieldA 0 (.t 1),none⟩,
 ⟨some 12,.load none (.t 11),none⟩,
 ⟨some 13,.len .slc (.t 12),none⟩,
 ⟨some 14,.ar .lss (.t 10) (.t 13),none⟩,
 ⟨some 4,.mov (.t 14),none⟩])
 (.ret))
 (.seq (.reg [⟨some 16,.ar .eql (.t 6) (.c (.lit (.int .i64 3))),none⟩,
 ⟨some 15,.mov (.t 16),none⟩])
 (.cond (.t 15)
 (.seq (.reg [⟨some 17,.fieldA 1 (.t 3),none⟩,
 ⟨some 18,.load none (.t 17),none⟩,
 ⟨some 19,.fieldA 2 (.t 2),none⟩,
 ⟨some 20,.load none (.t 19),none⟩,
 ⟨some 21,.len .slc (.t 20),none⟩,
 ⟨some 22,.ar .lss (.t 18) (.t 21),none⟩,
 ⟨some 4,.mov (.t 22),none⟩])
 (.ret))
 (.seq (.reg [⟨some 24,.ar .eql (.t 6) (.c (.lit (.int .i64 4))),none⟩,
 ⟨some 23,.mov (.t 24),none⟩])
 (.cond (.t 23)
 (.seq (.reg [⟨some 25,.fieldA 1 (.t 3),none⟩,
 ⟨some 26,.load none (.t 25),none⟩,
 ⟨some 27,.fieldA 0 (.t 2),none⟩,
 ⟨some 28,.load none (.t 27),none⟩,
 ⟨some 29,.len .slc (.t 28),none⟩,
 ⟨some 30,.ar .lss (.t 26) (.t 29),none⟩,
 ⟨some 4,.mov (.t 30),none⟩])
 (.ret))
 (.skip)))))))))
 (.seq (.reg [⟨some 4,.mov (.c (.lit (.bool true))),none⟩])
 (.ret)))⟩
def f124 : F := ⟨55, [.tmp 6], none, .seq (.reg [⟨some 5,.box (.t 0),none⟩,
 ⟨some 6,.mov (.c (.lit (.bool false))),none⟩])
 (.seq (.seq (.regD [(.read 0 0, ⟨some 9,.fieldA 0 (.t 5),none⟩),
  (.read 0 0, ⟨some 10,.load none (.t 9),none⟩),
  (.read 0 0, ⟨some 11,.fieldA 2 (.t 1),none⟩),
  (.read 0 0, ⟨some 12,.load none (.t 11),none⟩),
  (.read 0 0, ⟨some 13,.len .slc (.t 12),none⟩),
  (.pure, ⟨some 14,.ar .geq (.t 10) (.t 13),none⟩),
  (.pure, ⟨some 15,.mov (.t 14),none⟩),
  (.read 0 0, ⟨some 16,.fieldA 0 (.t 2), (some (15, false))⟩),
  (.read 0 0, ⟨some 17,.load none (.t 16), (some (15, false))⟩),
  (.read 0 0, ⟨some 18,.fieldA 2 (.t 1), (some (15, false))⟩),
  (.read 0 0, ⟨some 19,.load none (.t 18), (some (15, false))⟩),
  (.read 0 0, ⟨some 20,.fieldA 0 (.t 5), (some (15, false))⟩),
  (.read 0 0, ⟨some 21,.load none (.t 20), (some (15, false))⟩),
  (.read 0 0, ⟨some 22,.idxA 4 (.t 19) (.t 21), (some (15, false))⟩),
  (.read 0 0, ⟨some 23,.fieldA 2 (.t 22), (some (15, false))⟩),
  (.read 0 0, ⟨some 24,.load none (.t 23), (some (15, false))⟩),
  (.loud true [], ⟨some 25,.call (.c (.fn (.func 12) [] [])) [(.t 17), (.t 24)], (some (15, false))⟩),
  (.pure, ⟨some 26,.not (.t 25), (some (15, false))⟩),
  (.pure, ⟨some 27,.pick (.t 15) (.c (.lit (.bool true))) (.t 26),none⟩)])
 (.cond (.t 27)
 (.seq (.reg [⟨some 6,.mov (.c (.lit (.bool false))),none⟩])
 (.ret))
 (.skip)))
 (.seq (.reg [⟨some 28,.fieldA 2 (.t 1),none⟩,
 ⟨some 29,.load none (.t 28),none⟩,
 ⟨some 30,.fieldA 0 (.t 5),none⟩,
 ⟨some 31,.load none (.t 30),none⟩,
 ⟨some 32,.idxA 4 (.t 29) (.t 31),none⟩,
 ⟨some 33,.load (some 4) (.t 32),none⟩,
 ⟨some 7,.alloc [.lit (.int .i64 0), .lit (.int .i64 0), .lit (.int .i64 0), .lit (.slice none 0 0)],none⟩,
 ⟨none, .store 4 (.t 7) (.t 33),none⟩])
 (.seq (.regD [(.read 0 0, ⟨some 34,.fieldA 2 (.t 3),none⟩),
  (.read 0 0, ⟨some 35,.load none (.t 34),none⟩),
  (.read 0 0, ⟨some 36,.fieldA 1 (.t 1),none⟩),
  (.read 0 0, ⟨some 37,.load none (.t 36),none⟩),
  (.read 0 0, ⟨some 38,.fieldA 0 (.t 7),none⟩),
  (.read 0 0, ⟨some 39,.load none (.t 38),none⟩),
  (.read 0 0, ⟨some 40,.idxA 3 (.t 37) (.t 39),none⟩),
  (.read 0 0, ⟨some 41,.fieldA 0 (.t 40),none⟩),
  (.read 0 0, ⟨some 42,.load none (.t 41),none⟩),
  (.read 0 0, ⟨some 43,.idxA 3 (.t 35) (.t 42),none⟩),
  (.read 0 0, ⟨some 44,.fieldA 0 (.t 43),none⟩),
  (.read 0 0, ⟨some 45,.load none (.t 44),none⟩),
  (.read 0 0, ⟨some 46,.fieldA 1 (.t 7),none⟩),
  (.read 0 0, ⟨some 47,.load none (.t 46),none⟩),
  (.read 0 0, ⟨some 48,.idxA 2 (.t 45) (.t 47),none⟩),
  (.read 0 0, ⟨some 49,.fieldA 1 (.t 48),none⟩),
  (.read 0 0, ⟨some 50,.load none (.t 49),none⟩),
  (.made, ⟨some 8,.alloc [.lit (.int .i64 0)],none⟩),
  (.loud true [], ⟨none, .store 1 (.t 8) (.t 50),none⟩)])
 (.seq (.reg [⟨some 51,.fieldA 1 (.t 5),none⟩,
 ⟨some 52,.load none (.t 51),none⟩,
 ⟨some 53,.func (.func 125) [] [(.t 8), (.t 4)],none⟩,
 ⟨some 54,.call (.c (.fn (.func 116) [] [])) [(.t 52), (.t 53)],none⟩,
 ⟨some 6,.mov (.t 54),none⟩])
 (.ret)))))⟩
def f125 : F := ⟨16, [.tmp 4], none, .seq (.reg [⟨some 3,.box (.t 0),none⟩,
 ⟨some 4,.mov (.c (.lit (.bool false))),none⟩])
 (.seq (.reg [⟨some 5,.fieldA 0 (.t 3),none⟩,
 ⟨some 6,.load none (.t 5),none⟩,
 ⟨some 7,.len .slc (.t 6),none⟩,
 ⟨some 8,.load none (.t 1),none⟩,
 ⟨some 9,.ar .eql (.t 7) (.t 8),none⟩,
 ⟨some 10,.mov (.t 9),none⟩,
 ⟨some 11,.fieldA 0 (.t 3), (some (10, true))⟩,
 ⟨some 12,.load none (.t 11), (some (10, true))⟩,
 ⟨some 13,.load none (.t 2), (some (10, true))⟩,
 ⟨some 14,.call (.c (.fn (.func 119) [] [])) [(.t 12), (.t 13)], (some (10, true))⟩,
 ⟨some 15,.pick (.t 10) (.t 14) (.c (.lit (.bool false))),none⟩,
 ⟨some 4,.mov (.t 15),none⟩])
 (.ret))⟩
def f126 : F := ⟨8, [.tmp 2, .tmp 3], none, .seq (.reg [⟨some 1,.box (.t 0),none⟩,
 ⟨some 2,.mov (.c (.lit (.slice none 0 0))),none⟩,
 ⟨some 3,.mov (.c (.lit (.int .i64 0))),none⟩])
 (.seq (.reg [⟨some 4,.load (some 4) (.t 1),none⟩,
 ⟨some 5,.call (.c (.fn (.func 175) [] [])) [(.t 4), (.c (.fn (.func 176) [] []))],none⟩,
 ⟨some 6,.ext (.t 5) 0,none⟩,
 ⟨some 7,.ext (.t 5) 1,none⟩,
 ⟨some 2,.mov (.t 6),none⟩,
 ⟨some 3,.mov (.t 7),none⟩])
 (.ret))⟩

end A
end Go.Proofs.YtcohlhplpogopaaGreat

