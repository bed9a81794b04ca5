/-
  the functions as compact code, the second part. (No statement of the seat is proved here.)
-/
import Derived.Test.YtcohlhplpogopaaGreatFa
set_option linter.unusedSimpArgs false
set_option linter.unusedVariables false
set_option maxRecDepth 100000
namespace Go.Proofs.YtcohlhplpogopaaGreat
namespace A

def f127 : F := ⟨52, [.tmp 5], none, .seq (.reg [⟨some 4,.box (.t 0),none⟩,
 ⟨some 5,.mov (.c (.lit (.bool false))),none⟩])
 (.seq (.seq (.regD [(.read 0 0, ⟨some 7,.fieldA 1 (.t 4),none⟩),
  (.read 0 0, ⟨some 8,.fieldA 1 (.t 7),none⟩),
  (.read 0 0, ⟨some 9,.load none (.t 8),none⟩),
  (.read 0 0, ⟨some 10,.fieldA 1 (.t 1),none⟩),
  (.read 0 0, ⟨some 11,.load none (.t 10),none⟩),
  (.read 0 0, ⟨some 12,.len .slc (.t 11),none⟩),
  (.pure, ⟨some 13,.ar .geq (.t 9) (.t 12),none⟩),
  (.pure, ⟨some 14,.mov (.t 13),none⟩),
  (.read 0 0, ⟨some 15,.fieldA 1 (.t 4), (some (14, false))⟩),
  (.read 0 0, ⟨some 16,.fieldA 2 (.t 15), (some (14, false))⟩),
  (.read 0 0, ⟨some 17,.load none (.t 16), (some (14, false))⟩),
  (.read 0 0, ⟨some 18,.len .slc (.t 17), (some (14, false))⟩),
  (.read 0 0, ⟨some 19,.load none (.t 2), (some (14, false))⟩),
  (.read 0 0, ⟨some 20,.fieldA 1 (.t 4), (some (14, false))⟩),
  (.read 0 0, ⟨some 21,.fieldA 1 (.t 20), (some (14, false))⟩),
  (.read 0 0, ⟨some 22,.load none (.t 21), (some (14, false))⟩),
  (.read 0 0, ⟨some 23,.idxA 1 (.t 19) (.t 22), (some (14, false))⟩),
  (.read 0 0, ⟨some 24,.load none (.t 23), (some (14, false))⟩),
  (.pure, ⟨some 25,.ar .neq (.t 18) (.t 24), (some (14, false))⟩),
  (.pure, ⟨some 26,.pick (.t 14) (.c (.lit (.bool true))) (.t 25),none⟩)])
 (.cond (.t 26)
 (.seq (.reg [⟨some 5,.mov (.c (.lit (.bool false))),none⟩])
 (.ret))
 (.skip)))
 (.seq (.reg [⟨some 27,.fieldA 1 (.t 1),none⟩,
 ⟨some 28,.load none (.t 27),none⟩,
 ⟨some 29,.fieldA 1 (.t 4),none⟩,
 ⟨some 30,.fieldA 1 (.t 29),none⟩,
 ⟨some 31,.load none (.t 30),none⟩,
 ⟨some 32,.idxA 4 (.t 28) (.t 31),none⟩,
 ⟨some 33,.fieldA 0 (.t 32),none⟩,
 ⟨some 34,.load none (.t 33),none⟩,
 ⟨some 6,.mov (.t 34),none⟩])
 (.seq (.reg [⟨some 35,.mov (.t 6),none⟩,
 ⟨some 36,.ar .eql (.t 35) (.c (.lit (.int .i64 6))),none⟩,
 ⟨some 37,.mov (.t 36),none⟩,
 ⟨some 38,.mov (.t 6), (some (37, false))⟩,
 ⟨some 39,.ar .eql (.t 38) (.c (.lit (.int .i64 7))), (some (37, false))⟩,
 ⟨some 40,.pick (.t 37) (.c (.lit (.bool true))) (.t 39),none⟩,
 ⟨some 41,.mov (.t 40),none⟩,
 ⟨some 42,.mov (.t 6), (some (41, false))⟩,
 ⟨some 43,.ar .eql (.t 42) (.c (.lit (.int .i64 8))), (some (41, false))⟩,
 ⟨some 44,.pick (.t 41) (.c (.lit (.bool true))) (.t 43),none⟩,
 ⟨some 45,.mov (.t 44),none⟩,
 ⟨some 46,.fieldA 1 (.t 4), (some (45, true))⟩,
 ⟨some 47,.fieldA 2 (.t 46), (some (45, true))⟩,
 ⟨some 48,.load none (.t 47), (some (45, true))⟩,
 ⟨some 49,.load none (.t 3), (some (45, true))⟩,
 ⟨some 50,.call (.c (.fn (.func 119) [] [])) [(.t 48), (.t 49)], (some (45, true))⟩,
 ⟨some 51,.pick (.t 45) (.t 50) (.c (.lit (.bool false))),none⟩,
 ⟨some 5,.mov (.t 51),none⟩])
 (.ret))))⟩
def f128 : F := ⟨9, [.tmp 3], none, .seq (.reg [⟨some 3,.mov (.c (.lit (.bool false))),none⟩])
 (.seq (.reg [⟨some 4,.mov (.t 0),none⟩,
 ⟨some 5,.fieldA 0 (.t 1),none⟩,
 ⟨some 6,.load none (.t 5),none⟩,
 ⟨some 7,.len .slc (.t 6),none⟩,
 ⟨some 8,.ar .lss (.t 4) (.t 7),none⟩,
 ⟨some 3,.mov (.t 8),none⟩])
 (.ret))⟩
def f130 : F := ⟨10, [], none, .reg [⟨some 4,.mov (.t 0),none⟩,
 ⟨some 5,.mov (.t 0),none⟩,
 ⟨some 6,.len .slc (.t 5),none⟩,
 ⟨some 7,.mov (.t 1),none⟩,
 ⟨some 8,.ar .sub (.t 6) (.t 7),none⟩,
 ⟨some 9,.call (.c (.fn (.func 177) [] [])) [(.t 4), (.t 8)],none⟩]⟩
def f131 : F := ⟨5, [.tmp 0], none, .seq (.reg [⟨some 0,.mov (.c (.lit (.pointer none))),none⟩])
 (.seq (.reg [⟨some 1,.makeM,none⟩,
 ⟨some 2,.build [.lit (.slice none 0 0), .lit (.map none)] [(1, 1, (.t 1))],none⟩,
 ⟨some 3,.build [.lit (.slice none 0 0), .lit (.map none), .lit (.slice none 0 0)] [(0, 2, (.t 2))],none⟩,
 ⟨some 4,.box (.t 3),none⟩,
 ⟨some 0,.mov (.t 4),none⟩])
 (.ret))⟩
def f132 : F := ⟨13, [], none, .reg [⟨some 4,.mov (.t 0),none⟩,
 ⟨some 5,.mov (.t 0),none⟩,
 ⟨some 6,.chk (.t 5),none⟩,
 ⟨some 7,.fieldA 2 (.t 6),none⟩,
 ⟨some 8,.load none (.t 7),none⟩,
 ⟨some 9,.mov (.t 1),none⟩,
 ⟨some 10,.call (.c (.fn (.func 142) [] [])) [(.t 8), (.t 9)],none⟩,
 ⟨some 11,.chk (.t 4),none⟩,
 ⟨some 12,.fieldA 2 (.t 11),none⟩,
 ⟨none, .store 1 (.t 12) (.t 10),none⟩]⟩
def f133 : F := ⟨12, [], none, .reg [⟨some 4,.mov (.t 0),none⟩,
 ⟨some 5,.mov (.t 0),none⟩,
 ⟨some 6,.chk (.t 5),none⟩,
 ⟨some 7,.fieldA 0 (.t 6),none⟩,
 ⟨some 8,.mov (.t 1),none⟩,
 ⟨some 9,.build [.lit (.int .i64 0), .lit (.int .i64 0)] [(0, 1, (.c (.lit (.int .i64 4)))), (1, 1, (.t 8))],none⟩,
 ⟨some 10,.call (.c (.fn (.func 178) [] [])) [(.t 7), (.t 9)],none⟩,
 ⟨some 11,.call (.c (.fn (.func 132) [] [])) [(.t 4), (.t 10)],none⟩]⟩
def f134 : F := ⟨12, [], none, .reg [⟨some 4,.mov (.t 0),none⟩,
 ⟨some 5,.mov (.t 0),none⟩,
 ⟨some 6,.chk (.t 5),none⟩,
 ⟨some 7,.fieldA 0 (.t 6),none⟩,
 ⟨some 8,.mov (.t 1),none⟩,
 ⟨some 9,.build [.lit (.int .i64 0), .lit (.int .i64 0)] [(0, 1, (.c (.lit (.int .i64 3)))), (1, 1, (.t 8))],none⟩,
 ⟨some 10,.call (.c (.fn (.func 178) [] [])) [(.t 7), (.t 9)],none⟩,
 ⟨some 11,.call (.c (.fn (.func 132) [] [])) [(.t 4), (.t 10)],none⟩]⟩
def f135 : F := ⟨47, [], none, .seq (.reg [⟨some 6,.mov (.t 0),none⟩,
 ⟨some 7,.mov (.t 1),none⟩,
 ⟨some 8,.len .slc (.t 7),none⟩,
 ⟨some 9,.call (.c (.fn (.func 132) [] [])) [(.t 6), (.t 8)],none⟩])
 (.seq (.reg [⟨some 10,.mov (.t 1),none⟩,
 ⟨some 11,.len .slc (.t 10),none⟩,
 ⟨some 12,.mov (.c (.lit (.int .i64 0))),none⟩])
 (.block 0 (.loop (.seq (.reg [⟨some 13,.ar .lss (.t 12) (.t 11),none⟩])
 (.seq (.cond (.t 13)
 (.skip)
 (.exit 0))
 (.seq (.block 1 (.seq (.reg [⟨some 14,.idxA 2 (.t 10) (.t 12),none⟩,
 ⟨some 15,.load (some 2) (.t 14),none⟩,
 ⟨some 5,.alloc [.lit (.int .i64 0), .lit (.int .i64 0)],none⟩,
 ⟨none, .store 2 (.t 5) (.t 15),none⟩])
 (.block 2 (.seq (.reg [⟨some 25,.fieldA 0 (.t 5),none⟩,
 ⟨some 26,.load none (.t 25),none⟩,
 ⟨some 27,.ar .neq (.t 26) (.c (.lit (.int .i64 1))),none⟩,
 ⟨some 24,.mov (.t 27),none⟩])
 (.cond (.t 24)
 (.regD [(.pure, ⟨some 28,.mov (.t 0),none⟩),
  (.pure, ⟨some 29,.mov (.t 0),none⟩),
  (.read 0 0, ⟨some 30,.chk (.t 29),none⟩),
  (.read 0 0, ⟨some 31,.fieldA 0 (.t 30),none⟩),
  (.read 0 0, ⟨some 32,.load (some 2) (.t 5),none⟩),
  (.loud true [], ⟨some 33,.call (.c (.fn (.func 178) [] [])) [(.t 31), (.t 32)],none⟩),
  (.pure, ⟨some 34,.ar .mul (.c (.lit (.int .i64 2))) (.t 33),none⟩),
  (.pure, ⟨some 35,.ar .add (.t 34) (.c (.lit (.int .i64 1))),none⟩),
  (.loud true [], ⟨some 36,.call (.c (.fn (.func 132) [] [])) [(.t 28), (.t 35)],none⟩)])
 (.seq (.reg [⟨some 38,.fieldA 1 (.t 5),none⟩,
 ⟨some 39,.load none (.t 38),none⟩,
 ⟨some 40,.ar .geq (.t 39) (.c (.lit (.int .i64 0))),none⟩,
 ⟨some 37,.mov (.t 40),none⟩])
 (.cond (.t 37)
 (.reg [⟨some 41,.mov (.t 0),none⟩,
 ⟨some 42,.fieldA 1 (.t 5),none⟩,
 ⟨some 43,.load none (.t 42),none⟩,
 ⟨some 44,.ar .mul (.c (.lit (.int .i64 4))) (.t 43),none⟩,
 ⟨some 45,.call (.c (.fn (.func 132) [] [])) [(.t 41), (.t 44)],none⟩])
 (.reg [⟨some 16,.mov (.t 0),none⟩,
 ⟨some 17,.fieldA 1 (.t 5),none⟩,
 ⟨some 18,.load none (.t 17),none⟩,
 ⟨some 19,.neg (.t 18),none⟩,
 ⟨some 20,.ar .sub (.t 19) (.c (.lit (.int .i64 1))),none⟩,
 ⟨some 21,.ar .mul (.c (.lit (.int .i64 4))) (.t 20),none⟩,
 ⟨some 22,.ar .add (.t 21) (.c (.lit (.int .i64 2))),none⟩,
 ⟨some 23,.call (.c (.fn (.func 132) [] [])) [(.t 16), (.t 22)],none⟩]))))))))
 (.reg [⟨some 46,.ar .add (.t 12) (.c (.lit (.int .i64 1))),none⟩,
 ⟨some 12,.mov (.t 46),none⟩])))))))⟩
def f136 : F := ⟨18, [.tmp 4], none, .seq (.reg [⟨some 4,.mov (.c (.lit (.string ⟨#[]⟩))),none⟩])
 (.seq (.regD [(.pure, ⟨some 5,.mov (.t 1),none⟩),
  (.pure, ⟨some 6,.mov (.t 0),none⟩),
  (.read 0 0, ⟨some 7,.chk (.t 6),none⟩),
  (.read 0 0, ⟨some 8,.fieldA 0 (.t 7),none⟩),
  (.read 0 0, ⟨some 9,.fieldA 0 (.t 8),none⟩),
  (.read 0 0, ⟨some 10,.load none (.t 9),none⟩),
  (.loud false [], ⟨some 11,.call (.c (.fn (.func 68) [] [])) [(.t 5), (.t 10)],none⟩),
  (.pure, ⟨some 12,.mov (.t 0),none⟩),
  (.read 0 1, ⟨some 13,.chk (.t 12),none⟩),
  (.read 0 1, ⟨some 14,.fieldA 2 (.t 13),none⟩),
  (.read 0 1, ⟨some 15,.load none (.t 14),none⟩),
  (.loud true [], ⟨some 16,.app 1 1 (.t 11) (.t 15),none⟩),
  (.loud true [], ⟨some 17,.call (.c (.fn (.func 67) [] [])) [(.t 16)],none⟩),
  (.pure, ⟨some 4,.mov (.t 17),none⟩)])
 (.ret))⟩
def f137 : F := ⟨5, [], (some (2, 1)), .seq (.reg [⟨some 3,.mov (.t 1),none⟩,
 ⟨some 4,.eqNil true .ifc (.t 3),none⟩])
 (.cond (.t 4)
 (.reg [⟨none, .store 1 (.t 0) (.c (.lit (.bool false))),none⟩])
 (.skip))⟩
def f138 : F := ⟨39, [.tmp 2], none, .seq (.reg [⟨some 2,.mov (.c (.lit (.slice none 0 0))),none⟩])
 (.seq (.reg [⟨some 3,.mov (.c (.lit (.int .u16 65535))),none⟩])
 (.seq (.seq (.reg [⟨some 8,.mov (.t 0),none⟩,
 ⟨some 9,.len .slc (.t 8),none⟩,
 ⟨some 10,.mov (.c (.lit (.int .i64 0))),none⟩])
 (.block 0 (.loop (.seq (.reg [⟨some 11,.ar .lss (.t 10) (.t 9),none⟩])
 (.seq (.cond (.t 11)
 (.skip)
 (.exit 0))
 (.seq (.block 1 (.seq (.reg [⟨some 12,.idxA 1 (.t 8) (.t 10),none⟩,
 ⟨some 13,.load none (.t 12),none⟩,
 ⟨some 5,.mov (.t 13),none⟩])
 (.seq (.reg [⟨some 14,.mov (.c (.lit (.int .i64 0))),none⟩])
 (.block 2 (.loop (.seq (.reg [⟨some 15,.ar .lss (.t 14) (.c (.lit (.int .i64 8))),none⟩])
 (.seq (.cond (.t 15)
 (.skip)
 (.exit 2))
 (.seq (.block 3 (.seq (.reg [⟨some 16,.mov (.t 14),none⟩,
 ⟨some 6,.mov (.t 16),none⟩])
 (.seq (.reg [⟨some 17,.mov (.t 3),none⟩,
 ⟨some 18,.ar .shr (.t 17) (.c (.lit (.int .u64 15))),none⟩,
 ⟨some 19,.mov (.t 5),none⟩,
 ⟨some 20,.mov (.t 6),none⟩,
 ⟨some 21,.ar .sub (.c (.lit (.int .i64 7))) (.t 20),none⟩,
 ⟨some 22,.ar .shr (.t 19) (.t 21),none⟩,
 ⟨some 23,.ar .and (.t 22) (.c (.lit (.int .u8 1))),none⟩,
 ⟨some 24,.conv .u16 (.t 23),none⟩,
 ⟨some 25,.ar .neq (.t 18) (.t 24),none⟩,
 ⟨some 7,.mov (.t 25),none⟩])
 (.seq (.reg [⟨some 26,.mov (.t 3),none⟩,
 ⟨some 27,.ar .shl (.t 26) (.c (.lit (.int .u64 1))),none⟩,
 ⟨some 3,.mov (.t 27),none⟩])
 (.seq (.reg [⟨some 28,.mov (.t 7),none⟩])
 (.cond (.t 28)
 (.reg [⟨some 29,.mov (.t 3),none⟩,
 ⟨some 30,.ar .xor (.t 29) (.c (.lit (.int .u16 4129))),none⟩,
 ⟨some 3,.mov (.t 30),none⟩])
 (.skip)))))))
 (.reg [⟨some 31,.ar .add (.t 14) (.c (.lit (.int .i64 1))),none⟩,
 ⟨some 14,.mov (.t 31),none⟩])))))))))
 (.reg [⟨some 32,.ar .add (.t 10) (.c (.lit (.int .i64 1))),none⟩,
 ⟨some 10,.mov (.t 32),none⟩])))))))
 (.seq (.reg [⟨some 33,.mov (.t 3),none⟩,
 ⟨some 34,.ar .shr (.t 33) (.c (.lit (.int .u64 8))),none⟩,
 ⟨some 35,.conv .u8 (.t 34),none⟩,
 ⟨some 36,.mov (.t 3),none⟩,
 ⟨some 37,.conv .u8 (.t 36),none⟩,
 ⟨some 38,.lits 1 2 [.lit (.int .u8 0), .lit (.int .u8 0)] [(0, 1, (.t 35)), (1, 1, (.t 37))],none⟩,
 ⟨some 2,.mov (.t 38),none⟩])
 (.ret))))⟩
def f139 : F := ⟨16, [.tmp 2], none, .seq (.reg [⟨some 2,.mov (.c (.lit (.int .i64 0))),none⟩])
 (.seq (.reg [⟨some 4,.mov (.t 0),none⟩,
 ⟨some 5,.call (.c (.fn (.func 140) [] [])) [(.t 4)],none⟩,
 ⟨some 3,.mov (.t 5),none⟩])
 (.seq (.seq (.reg [⟨some 6,.mov (.t 3),none⟩,
 ⟨some 7,.mov (.t 0),none⟩,
 ⟨some 8,.chk (.t 7),none⟩,
 ⟨some 9,.fieldA 2 (.t 8),none⟩,
 ⟨some 10,.load none (.t 9),none⟩,
 ⟨some 11,.len .str (.t 10),none⟩,
 ⟨some 12,.ar .gtr (.t 6) (.t 11),none⟩])
 (.cond (.t 12)
 (.reg [⟨some 13,.build [] [],none⟩,
 ⟨some 14,.iface 228 (.t 13),none⟩,
 ⟨none, .panic (.t 14),none⟩])
 (.skip)))
 (.seq (.reg [⟨some 15,.mov (.t 3),none⟩,
 ⟨some 2,.mov (.t 15),none⟩])
 (.ret))))⟩
def f140 : F := ⟨43, [.tmp 2], none, .seq (.reg [⟨some 2,.mov (.c (.lit (.int .i64 0))),none⟩])
 (.seq (.reg [⟨some 3,.mov (.c (.lit (.int .u64 0))),none⟩])
 (.seq (.seq (.reg [⟨some 4,.mov (.c (.lit (.int .i64 0))),none⟩])
 (.block 0 (.loop (.seq (.seq (.reg [⟨some 6,.mov (.t 4),none⟩,
 ⟨some 7,.ar .lss (.t 6) (.c (.lit (.int .i64 35))),none⟩])
 (.cond (.t 7)
 (.skip)
 (.exit 0)))
 (.seq (.block 1 (.seq (.seq (.reg [⟨some 10,.mov (.t 0),none⟩,
 ⟨some 11,.chk (.t 10),none⟩,
 ⟨some 12,.fieldA 2 (.t 11),none⟩,
 ⟨some 13,.load none (.t 12),none⟩,
 ⟨some 14,.ar .eql (.t 13) (.c (.lit (.string ⟨#[]⟩))),none⟩])
 (.cond (.t 14)
 (.reg [⟨some 15,.build [] [],none⟩,
 ⟨some 16,.iface 228 (.t 15),none⟩,
 ⟨none, .panic (.t 16),none⟩])
 (.skip)))
 (.seq (.reg [⟨some 17,.mov (.t 0),none⟩,
 ⟨some 18,.chk (.t 17),none⟩,
 ⟨some 19,.fieldA 2 (.t 18),none⟩,
 ⟨some 20,.load none (.t 19),none⟩,
 ⟨some 21,.idxS (.t 20) (.c (.lit (.int .i64 0))),none⟩,
 ⟨some 5,.mov (.t 21),none⟩])
 (.seq (.reg [⟨some 22,.mov (.t 0),none⟩,
 ⟨some 23,.mov (.t 0),none⟩,
 ⟨some 24,.chk (.t 23),none⟩,
 ⟨some 25,.fieldA 2 (.t 24),none⟩,
 ⟨some 26,.load none (.t 25),none⟩,
 ⟨some 27,.sliceS (.t 26) (some (.c (.lit (.int .i64 1)))) none,none⟩,
 ⟨some 28,.chk (.t 22),none⟩,
 ⟨some 29,.fieldA 2 (.t 28),none⟩,
 ⟨none, .store 1 (.t 29) (.t 27),none⟩])
 (.seq (.reg [⟨some 30,.mov (.t 3),none⟩,
 ⟨some 31,.mov (.t 5),none⟩,
 ⟨some 32,.ar .and (.t 31) (.c (.lit (.int .u8 127))),none⟩,
 ⟨some 33,.conv .u64 (.t 32),none⟩,
 ⟨some 34,.mov (.t 4),none⟩,
 ⟨some 35,.ar .shl (.t 33) (.t 34),none⟩,
 ⟨some 36,.ar .or (.t 30) (.t 35),none⟩,
 ⟨some 3,.mov (.t 36),none⟩])
 (.seq (.reg [⟨some 37,.mov (.t 5),none⟩,
 ⟨some 38,.ar .lss (.t 37) (.c (.lit (.int .u8 128))),none⟩])
 (.cond (.t 38)
 (.seq (.reg [⟨some 39,.mov (.t 3),none⟩,
 ⟨some 40,.conv .i64 (.t 39),none⟩,
 ⟨some 2,.mov (.t 40),none⟩])
 (.ret))
 (.skip))))))))
 (.reg [⟨some 8,.mov (.t 4),none⟩,
 ⟨some 9,.ar .add (.t 8) (.c (.lit (.int .i64 7))),none⟩,
 ⟨some 4,.mov (.t 9),none⟩]))))))
 (.reg [⟨some 41,.build [] [],none⟩,
 ⟨some 42,.iface 228 (.t 41),none⟩,
 ⟨none, .panic (.t 42),none⟩])))⟩
def f141 : F := ⟨23, [.cell 4 (some 2)], none, .seq (.reg [⟨some 4,.alloc [.lit (.int .i64 0), .lit (.int .i64 0)],none⟩])
 (.seq (.seq (.reg [⟨some 5,.mov (.t 1),none⟩,
 ⟨some 6,.mov (.t 0),none⟩,
 ⟨some 7,.chk (.t 6),none⟩,
 ⟨some 8,.fieldA 0 (.t 7),none⟩,
 ⟨some 9,.fieldA 0 (.t 8),none⟩,
 ⟨some 10,.load none (.t 9),none⟩,
 ⟨some 11,.len .slc (.t 10),none⟩,
 ⟨some 12,.ar .geq (.t 5) (.t 11),none⟩])
 (.cond (.t 12)
 (.reg [⟨some 13,.build [] [],none⟩,
 ⟨some 14,.iface 228 (.t 13),none⟩,
 ⟨none, .panic (.t 14),none⟩])
 (.skip)))
 (.seq (.reg [⟨some 15,.mov (.t 0),none⟩,
 ⟨some 16,.chk (.t 15),none⟩,
 ⟨some 17,.fieldA 0 (.t 16),none⟩,
 ⟨some 18,.fieldA 0 (.t 17),none⟩,
 ⟨some 19,.load none (.t 18),none⟩,
 ⟨some 20,.mov (.t 1),none⟩,
 ⟨some 21,.idxA 2 (.t 19) (.t 20),none⟩,
 ⟨some 22,.load (some 2) (.t 21),none⟩,
 ⟨none, .store 2 (.t 4) (.t 22),none⟩])
 (.ret)))⟩
def f142 : F := ⟨21, [.tmp 4], none, .seq (.reg [⟨some 4,.mov (.c (.lit (.slice none 0 0))),none⟩])
 (.seq (.block 0 (.loop (.seq (.seq (.reg [⟨some 5,.mov (.t 1),none⟩,
 ⟨some 6,.ar .gtr (.t 5) (.c (.lit (.int .i64 127))),none⟩])
 (.cond (.t 6)
 (.skip)
 (.exit 0)))
 (.seq (.block 1 (.reg [⟨some 9,.mov (.t 0),none⟩,
 ⟨some 10,.mov (.t 1),none⟩,
 ⟨some 11,.ar .and (.t 10) (.c (.lit (.int .i64 127))),none⟩,
 ⟨some 12,.ar .or (.t 11) (.c (.lit (.int .i64 128))),none⟩,
 ⟨some 13,.conv .u8 (.t 12),none⟩,
 ⟨some 14,.lits 1 1 [.lit (.int .u8 0)] [(0, 1, (.t 13))],none⟩,
 ⟨some 15,.app 1 1 (.t 9) (.t 14),none⟩,
 ⟨some 0,.mov (.t 15),none⟩]))
 (.reg [⟨some 7,.mov (.t 1),none⟩,
 ⟨some 8,.ar .shr (.t 7) (.c (.lit (.int .u64 7))),none⟩,
 ⟨some 1,.mov (.t 8),none⟩])))))
 (.seq (.reg [⟨some 16,.mov (.t 0),none⟩,
 ⟨some 17,.mov (.t 1),none⟩,
 ⟨some 18,.conv .u8 (.t 17),none⟩,
 ⟨some 19,.lits 1 1 [.lit (.int .u8 0)] [(0, 1, (.t 18))],none⟩,
 ⟨some 20,.app 1 1 (.t 16) (.t 19),none⟩,
 ⟨some 4,.mov (.t 20),none⟩])
 (.ret)))⟩
def f144 : F := ⟨33, [.tmp 6], none, .seq (.reg [⟨some 3,.box (.t 0),none⟩,
 ⟨some 4,.box (.t 1),none⟩,
 ⟨some 6,.mov (.c (.lit (.int .i64 0))),none⟩])
 (.seq (.seq (.reg [⟨some 8,.mov (.t 2),none⟩,
 ⟨some 9,.ar .eql (.t 8) (.c (.lit (.int .i64 0))),none⟩])
 (.cond (.t 9)
 (.seq (.reg [⟨some 10,.fieldA 1 (.t 4),none⟩,
 ⟨some 11,.load none (.t 10),none⟩,
 ⟨some 6,.mov (.t 11),none⟩])
 (.ret))
 (.skip)))
 (.seq (.reg [⟨some 12,.fieldA 2 (.t 3),none⟩,
 ⟨some 13,.load none (.t 12),none⟩,
 ⟨some 14,.fieldA 0 (.t 4),none⟩,
 ⟨some 15,.load none (.t 14),none⟩,
 ⟨some 16,.idxA 3 (.t 13) (.t 15),none⟩,
 ⟨some 17,.load (some 3) (.t 16),none⟩,
 ⟨some 7,.alloc [.lit (.slice none 0 0), .lit (.slice none 0 0), .lit (.slice none 0 0)],none⟩,
 ⟨none, .store 3 (.t 7) (.t 17),none⟩])
 (.seq (.reg [⟨some 18,.fieldA 2 (.t 4),none⟩,
 ⟨some 19,.load none (.t 18),none⟩,
 ⟨some 20,.fieldA 2 (.t 4),none⟩,
 ⟨some 21,.load none (.t 20),none⟩,
 ⟨some 22,.len .slc (.t 21),none⟩,
 ⟨some 23,.fieldA 1 (.t 7),none⟩,
 ⟨some 24,.load none (.t 23),none⟩,
 ⟨some 25,.len .slc (.t 24),none⟩,
 ⟨some 26,.ar .sub (.t 22) (.t 25),none⟩,
 ⟨some 27,.mov (.t 2),none⟩,
 ⟨some 28,.ar .add (.t 26) (.t 27),none⟩,
 ⟨some 29,.ar .sub (.t 28) (.c (.lit (.int .i64 1))),none⟩,
 ⟨some 30,.idxA 2 (.t 19) (.t 29),none⟩,
 ⟨some 31,.fieldA 1 (.t 30),none⟩,
 ⟨some 32,.load none (.t 31),none⟩,
 ⟨some 6,.mov (.t 32),none⟩])
 (.ret))))⟩
def f148 : F := ⟨6, [.tmp 2], none, .seq (.reg [⟨some 2,.mov (.c (.lit (.slice none 0 0))),none⟩])
 (.seq (.reg [⟨some 3,.lits 2 0 [] [],none⟩,
 ⟨some 4,.mov (.t 0),none⟩,
 ⟨some 5,.app 2 16 (.t 3) (.t 4),none⟩,
 ⟨some 2,.mov (.t 5),none⟩])
 (.ret))⟩
def f156 : F := ⟨131, [], none, .seq (.reg [⟨some 5,.box (.t 1),none⟩])
 (.seq (.reg [⟨some 8,.mov (.c (.lit (.slice none 0 0))),none⟩])
 (.seq (.seq (.reg [⟨some 9,.mov (.c (.lit (.int .i64 0))),none⟩])
 (.block 0 (.loop (.seq (.seq (.reg [⟨some 13,.mov (.t 9),none⟩,
 ⟨some 14,.fieldA 2 (.t 5),none⟩,
 ⟨some 15,.load none (.t 14),none⟩,
 ⟨some 16,.len .slc (.t 15),none⟩,
 ⟨some 17,.ar .lss (.t 13) (.t 16),none⟩])
 (.cond (.t 17)
 (.skip)
 (.exit 0)))
 (.seq (.block 1 (.reg [⟨some 20,.mov (.t 8),none⟩,
 ⟨some 21,.fieldA 2 (.t 5),none⟩,
 ⟨some 22,.load none (.t 21),none⟩,
 ⟨some 23,.mov (.t 9),none⟩,
 ⟨some 24,.idxA 3 (.t 22) (.t 23),none⟩,
 ⟨some 25,.load (some 3) (.t 24),none⟩,
 ⟨some 26,.mov (.t 3),none⟩,
 ⟨some 27,.call (.c (.fn (.func 159) [] [])) [(.t 25), (.t 26)],none⟩,
 ⟨some 28,.lits 2 1 [.lit (.int .i64 0), .lit (.int .i64 0)] [(0, 2, (.t 27))],none⟩,
 ⟨some 29,.app 2 16 (.t 20) (.t 28),none⟩,
 ⟨some 8,.mov (.t 29),none⟩]))
 (.reg [⟨some 18,.mov (.t 9),none⟩,
 ⟨some 19,.ar .add (.t 18) (.c (.lit (.int .i64 1))),none⟩,
 ⟨some 9,.mov (.t 19),none⟩]))))))
 (.seq (.reg [⟨some 30,.mov (.t 3),none⟩,
 ⟨some 31,.fieldA 1 (.t 5),none⟩,
 ⟨some 32,.load none (.t 31),none⟩,
 ⟨some 33,.idxA 2 (.t 30) (.t 32),none⟩,
 ⟨some 34,.load (some 2) (.t 33),none⟩,
 ⟨some 10,.alloc [.lit (.int .i64 0), .lit (.int .i64 0)],none⟩,
 ⟨none, .store 2 (.t 10) (.t 34),none⟩])
 (.seq (.seq (.reg [⟨some 35,.fieldA 0 (.t 10),none⟩,
 ⟨some 36,.load none (.t 35),none⟩,
 ⟨some 37,.ar .eql (.t 36) (.c (.lit (.int .i64 2))),none⟩])
 (.cond (.t 37)
 (.seq (.regD [(.pure, ⟨some 38,.mov (.t 0),none⟩),
  (.pure, ⟨some 39,.mov (.t 0),none⟩),
  (.read 0 0, ⟨some 40,.chk (.t 39),none⟩),
  (.read 0 0, ⟨some 41,.fieldA 8 (.t 40),none⟩),
  (.read 0 0, ⟨some 42,.load none (.t 41),none⟩),
  (.pure, ⟨some 43,.mov (.t 2),none⟩),
  (.read 0 0, ⟨some 44,.fieldA 1 (.t 10),none⟩),
  (.read 0 0, ⟨some 45,.load none (.t 44),none⟩),
  (.pure, ⟨some 46,.mov (.t 8),none⟩),
  (.pure, ⟨some 47,.build [.lit (.int .i64 0), .lit (.int .i64 0), .lit (.int .i64 0), .lit (.int .i64 0), .lit (.slice none 0 0)] [(0, 1, (.c (.lit (.int .i64 5)))), (1, 1, (.t 43)), (2, 1, (.t 45)), (4, 1, (.t 46))],none⟩),
  (.made, ⟨some 48,.lits 5 1 [.lit (.int .i64 0), .lit (.int .i64 0), .lit (.int .i64 0), .lit (.int .i64 0), .lit (.slice none 0 0)] [(0, 5, (.t 47))],none⟩),
  (.loud true [], ⟨some 49,.app 5 56 (.t 42) (.t 48),none⟩),
  (.read 1 1, ⟨some 50,.chk (.t 38),none⟩),
  (.read 1 1, ⟨some 51,.fieldA 8 (.t 50),none⟩),
  (.loud true [], ⟨none, .store 1 (.t 51) (.t 49),none⟩)])
 (.ret))
 (.skip)))
 (.seq (.seq (.reg [⟨some 52,.fieldA 0 (.t 10),none⟩,
 ⟨some 53,.load none (.t 52),none⟩,
 ⟨some 54,.ar .neq (.t 53) (.c (.lit (.int .i64 3))),none⟩])
 (.cond (.t 54)
 (.ret)
 (.skip)))
 (.seq (.regD [(.pure, ⟨some 55,.mov (.t 0),none⟩),
  (.read 0 0, ⟨some 56,.chk (.t 55),none⟩),
  (.read 0 0, ⟨some 57,.fieldA 4 (.t 56),none⟩),
  (.read 0 0, ⟨some 58,.fieldA 2 (.t 57),none⟩),
  (.read 0 0, ⟨some 59,.load none (.t 58),none⟩),
  (.read 0 0, ⟨some 60,.fieldA 1 (.t 10),none⟩),
  (.read 0 0, ⟨some 61,.load none (.t 60),none⟩),
  (.read 0 0, ⟨some 62,.idxA 4 (.t 59) (.t 61),none⟩),
  (.read 0 0, ⟨some 63,.load (some 4) (.t 62),none⟩),
  (.made, ⟨some 11,.alloc [.lit (.int .i64 0), .lit (.int .i64 0), .lit (.int .i64 0), .lit (.slice none 0 0)],none⟩),
  (.loud true [], ⟨none, .store 4 (.t 11) (.t 63),none⟩)])
 (.seq (.regD [(.pure, ⟨some 64,.mov (.t 0),none⟩),
  (.read 0 0, ⟨some 65,.chk (.t 64),none⟩),
  (.read 0 0, ⟨some 66,.fieldA 4 (.t 65),none⟩),
  (.read 0 0, ⟨some 67,.fieldA 1 (.t 66),none⟩),
  (.read 0 0, ⟨some 68,.load none (.t 67),none⟩),
  (.read 0 0, ⟨some 69,.fieldA 0 (.t 11),none⟩),
  (.read 0 0, ⟨some 70,.load none (.t 69),none⟩),
  (.read 0 0, ⟨some 71,.idxA 3 (.t 68) (.t 70),none⟩),
  (.read 0 0, ⟨some 72,.load (some 3) (.t 71),none⟩),
  (.made, ⟨some 12,.alloc [.lit (.int .i64 0), .lit (.int .i64 0), .lit (.slice none 0 0)],none⟩),
  (.loud true [], ⟨none, .store 3 (.t 12) (.t 72),none⟩)])
 (.seq (.seq (.regD [(.pure, ⟨some 73,.mov (.t 0),none⟩),
  (.read 0 0, ⟨some 74,.chk (.t 73),none⟩),
  (.read 0 0, ⟨some 75,.fieldA 4 (.t 74),none⟩),
  (.read 0 0, ⟨some 76,.fieldA 0 (.t 75),none⟩),
  (.read 0 0, ⟨some 77,.load none (.t 76),none⟩),
  (.read 0 0, ⟨some 78,.fieldA 2 (.t 11),none⟩),
  (.read 0 0, ⟨some 79,.load none (.t 78),none⟩),
  (.read 0 0, ⟨some 80,.idxA 2 (.t 77) (.t 79),none⟩),
  (.read 0 0, ⟨some 81,.fieldA 1 (.t 80),none⟩),
  (.read 0 0, ⟨some 82,.load none (.t 81),none⟩),
  (.pure, ⟨some 83,.mov (.t 82),none⟩),
  (.pure, ⟨some 84,.mov (.t 0), (some (83, false))⟩),
  (.read 0 0, ⟨some 85,.chk (.t 84), (some (83, false))⟩),
  (.read 0 0, ⟨some 86,.fieldA 0 (.t 85), (some (83, false))⟩),
  (.read 0 0, ⟨some 87,.fieldA 2 (.t 86), (some (83, false))⟩),
  (.read 0 0, ⟨some 88,.load none (.t 87), (some (83, false))⟩),
  (.read 0 0, ⟨some 89,.fieldA 0 (.t 12), (some (83, false))⟩),
  (.read 0 0, ⟨some 90,.load none (.t 89), (some (83, false))⟩),
  (.read 0 0, ⟨some 91,.idxA 3 (.t 88) (.t 90), (some (83, false))⟩),
  (.read 0 0, ⟨some 92,.fieldA 0 (.t 91), (some (83, false))⟩),
  (.read 0 0, ⟨some 93,.load none (.t 92), (some (83, false))⟩),
  (.read 0 0, ⟨some 94,.fieldA 1 (.t 11), (some (83, false))⟩),
  (.read 0 0, ⟨some 95,.load none (.t 94), (some (83, false))⟩),
  (.read 0 0, ⟨some 96,.idxA 2 (.t 93) (.t 95), (some (83, false))⟩),
  (.read 0 0, ⟨some 97,.fieldA 1 (.t 96), (some (83, false))⟩),
  (.read 0 0, ⟨some 98,.load none (.t 97), (some (83, false))⟩),
  (.pure, ⟨some 99,.mov (.t 8), (some (83, false))⟩),
  (.read 0 0, ⟨some 100,.len .slc (.t 99), (some (83, false))⟩),
  (.pure, ⟨some 101,.ar .neq (.t 98) (.t 100), (some (83, false))⟩),
  (.pure, ⟨some 102,.pick (.t 83) (.c (.lit (.bool true))) (.t 101),none⟩)])
 (.cond (.t 102)
 (.ret)
 (.skip)))
 (.seq (.regD [(.pure, ⟨some 103,.mov (.t 0),none⟩),
  (.read 0 1, ⟨some 104,.chk (.t 103),none⟩),
  (.read 0 1, ⟨some 105,.fieldA 4 (.t 104),none⟩),
  (.read 0 1, ⟨some 106,.fieldA 2 (.t 105),none⟩),
  (.read 0 1, ⟨some 107,.load none (.t 106),none⟩),
  (.read 0 1, ⟨some 108,.fieldA 1 (.t 10),none⟩),
  (.read 0 1, ⟨some 109,.load none (.t 108),none⟩),
  (.read 0 0, ⟨some 110,.fieldA 3 (.t 11),none⟩),
  (.read 0 0, ⟨some 111,.load none (.t 110),none⟩),
  (.pure, ⟨some 112,.mov (.t 8),none⟩),
  (.pure, ⟨some 113,.build [.lit (.slice none 0 0)] [(0, 1, (.t 112))],none⟩),
  (.made, ⟨some 114,.lits 1 1 [.lit (.slice none 0 0)] [(0, 1, (.t 113))],none⟩),
  (.loud true [], ⟨some 115,.app 1 24 (.t 111) (.t 114),none⟩),
  (.read 1 1, ⟨some 116,.idxA 4 (.t 107) (.t 109),none⟩),
  (.read 1 1, ⟨some 117,.fieldA 3 (.t 116),none⟩),
  (.loud true [], ⟨none, .store 1 (.t 117) (.t 115),none⟩)])
 (.reg [⟨some 118,.mov (.t 0),none⟩,
 ⟨some 119,.mov (.t 0),none⟩,
 ⟨some 120,.chk (.t 119),none⟩,
 ⟨some 121,.fieldA 10 (.t 120),none⟩,
 ⟨some 122,.load none (.t 121),none⟩,
 ⟨some 123,.mov (.t 122),none⟩,
 ⟨some 124,.fieldA 3 (.t 11), (some (123, false))⟩,
 ⟨some 125,.load none (.t 124), (some (123, false))⟩,
 ⟨some 126,.len .slc (.t 125), (some (123, false))⟩,
 ⟨some 127,.ar .geq (.t 126) (.c (.lit (.int .i64 12))), (some (123, false))⟩,
 ⟨some 128,.pick (.t 123) (.c (.lit (.bool true))) (.t 127),none⟩,
 ⟨some 129,.chk (.t 118),none⟩,
 ⟨some 130,.fieldA 10 (.t 129),none⟩,
 ⟨none, .store 1 (.t 130) (.t 128),none⟩]))))))))))⟩
def f157 : F := ⟨221, [], none, .seq (.reg [⟨some 5,.box (.t 1),none⟩])
 (.seq (.regD [(.pure, ⟨some 15,.mov (.t 0),none⟩),
  (.read 0 0, ⟨some 16,.chk (.t 15),none⟩),
  (.read 0 0, ⟨some 17,.fieldA 0 (.t 16),none⟩),
  (.read 0 0, ⟨some 18,.fieldA 2 (.t 17),none⟩),
  (.read 0 0, ⟨some 19,.load none (.t 18),none⟩),
  (.read 0 0, ⟨some 20,.fieldA 1 (.t 5),none⟩),
  (.read 0 0, ⟨some 21,.load none (.t 20),none⟩),
  (.read 0 0, ⟨some 22,.idxA 3 (.t 19) (.t 21),none⟩),
  (.read 0 0, ⟨some 23,.load (some 3) (.t 22),none⟩),
  (.made, ⟨some 8,.alloc [.lit (.slice none 0 0), .lit (.slice none 0 0), .lit (.slice none 0 0)],none⟩),
  (.loud true [], ⟨none, .store 3 (.t 8) (.t 23),none⟩)])
 (.seq (.regD [(.read 0 1, ⟨some 24,.fieldA 1 (.t 5),none⟩),
  (.read 0 1, ⟨some 25,.load none (.t 24),none⟩),
  (.pure, ⟨some 26,.mov (.t 2),none⟩),
  (.pure, ⟨some 27,.mov (.t 3),none⟩),
  (.loud false [], ⟨some 28,.call (.c (.fn (.func 148) [] [])) [(.t 27)],none⟩),
  (.pure, ⟨some 29,.build [.lit (.int .i64 0), .lit (.int .i64 0), .lit (.slice none 0 0)] [(0, 1, (.t 25)), (1, 1, (.t 26)), (2, 1, (.t 28))],none⟩),
  (.made, ⟨some 9,.alloc [.lit (.int .i64 0), .lit (.int .i64 0), .lit (.slice none 0 0)],none⟩),
  (.loud true [], ⟨none, .store 3 (.t 9) (.t 29),none⟩)])
 (.seq (.seq (.reg [⟨some 10,.mov (.c (.lit (.int .i64 0))),none⟩])
 (.block 0 (.loop (.seq (.seq (.reg [⟨some 30,.mov (.t 10),none⟩,
 ⟨some 31,.fieldA 0 (.t 8),none⟩,
 ⟨some 32,.load none (.t 31),none⟩,
 ⟨some 33,.len .slc (.t 32),none⟩,
 ⟨some 34,.ar .lss (.t 30) (.t 33),none⟩])
 (.cond (.t 34)
 (.skip)
 (.exit 0)))
 (.seq (.block 1 (.regD [(.read 0 0, ⟨some 37,.fieldA 2 (.t 9),none⟩),
  (.read 0 0, ⟨some 38,.load none (.t 37),none⟩),
  (.pure, ⟨some 39,.mov (.t 0),none⟩),
  (.read 0 0, ⟨some 40,.chk (.t 39),none⟩),
  (.read 0 0, ⟨some 41,.fieldA 4 (.t 40),none⟩),
  (.read 0 0, ⟨some 42,.fieldA 2 (.t 41),none⟩),
  (.read 0 0, ⟨some 43,.load none (.t 42),none⟩),
  (.read 0 0, ⟨some 44,.len .slc (.t 43),none⟩),
  (.pure, ⟨some 45,.mov (.t 10),none⟩),
  (.pure, ⟨some 46,.ar .add (.t 44) (.t 45),none⟩),
  (.pure, ⟨some 47,.build [.lit (.int .i64 0), .lit (.int .i64 0)] [(0, 1, (.c (.lit (.int .i64 3)))), (1, 1, (.t 46))],none⟩),
  (.made, ⟨some 48,.lits 2 1 [.lit (.int .i64 0), .lit (.int .i64 0)] [(0, 2, (.t 47))],none⟩),
  (.loud true [], ⟨some 49,.app 2 16 (.t 38) (.t 48),none⟩),
  (.read 1 1, ⟨some 50,.fieldA 2 (.t 9),none⟩),
  (.loud true [], ⟨none, .store 1 (.t 50) (.t 49),none⟩)]))
 (.reg [⟨some 35,.mov (.t 10),none⟩,
 ⟨some 36,.ar .add (.t 35) (.c (.lit (.int .i64 1))),none⟩,
 ⟨some 10,.mov (.t 36),none⟩]))))))
 (.seq (.seq (.reg [⟨some 11,.mov (.c (.lit (.int .i64 0))),none⟩])
 (.block 2 (.loop (.seq (.seq (.reg [⟨some 51,.mov (.t 11),none⟩,
 ⟨some 52,.fieldA 1 (.t 8),none⟩,
 ⟨some 53,.load none (.t 52),none⟩,
 ⟨some 54,.len .slc (.t 53),none⟩,
 ⟨some 55,.ar .lss (.t 51) (.t 54),none⟩])
 (.cond (.t 55)
 (.skip)
 (.exit 2)))
 (.seq (.block 3 (.regD [(.read 0 0, ⟨some 58,.fieldA 2 (.t 9),none⟩),
  (.read 0 0, ⟨some 59,.load none (.t 58),none⟩),
  (.pure, ⟨some 60,.mov (.t 0),none⟩),
  (.read 0 0, ⟨some 61,.chk (.t 60),none⟩),
  (.read 0 0, ⟨some 62,.fieldA 4 (.t 61),none⟩),
  (.read 0 0, ⟨some 63,.fieldA 0 (.t 62),none⟩),
  (.read 0 0, ⟨some 64,.load none (.t 63),none⟩),
  (.read 0 0, ⟨some 65,.len .slc (.t 64),none⟩),
  (.pure, ⟨some 66,.mov (.t 11),none⟩),
  (.pure, ⟨some 67,.ar .add (.t 65) (.t 66),none⟩),
  (.pure, ⟨some 68,.build [.lit (.int .i64 0), .lit (.int .i64 0)] [(0, 1, (.c (.lit (.int .i64 4)))), (1, 1, (.t 67))],none⟩),
  (.made, ⟨some 69,.lits 2 1 [.lit (.int .i64 0), .lit (.int .i64 0)] [(0, 2, (.t 68))],none⟩),
  (.loud true [], ⟨some 70,.app 2 16 (.t 59) (.t 69),none⟩),
  (.read 1 1, ⟨some 71,.fieldA 2 (.t 9),none⟩),
  (.loud true [], ⟨none, .store 1 (.t 71) (.t 70),none⟩)]))
 (.reg [⟨some 56,.mov (.t 11),none⟩,
 ⟨some 57,.ar .add (.t 56) (.c (.lit (.int .i64 1))),none⟩,
 ⟨some 11,.mov (.t 57),none⟩]))))))
 (.seq (.seq (.reg [⟨some 12,.mov (.c (.lit (.int .i64 0))),none⟩])
 (.block 4 (.loop (.seq (.seq (.reg [⟨some 72,.mov (.t 12),none⟩,
 ⟨some 73,.fieldA 0 (.t 8),none⟩,
 ⟨some 74,.load none (.t 73),none⟩,
 ⟨some 75,.len .slc (.t 74),none⟩,
 ⟨some 76,.ar .lss (.t 72) (.t 75),none⟩])
 (.cond (.t 76)
 (.skip)
 (.exit 4)))
 (.seq (.block 5 (.regD [(.pure, ⟨some 79,.mov (.t 0),none⟩),
  (.pure, ⟨some 80,.mov (.t 0),none⟩),
  (.read 0 1, ⟨some 81,.chk (.t 80),none⟩),
  (.read 0 1, ⟨some 82,.fieldA 4 (.t 81),none⟩),
  (.read 0 1, ⟨some 83,.fieldA 2 (.t 82),none⟩),
  (.read 0 1, ⟨some 84,.load none (.t 83),none⟩),
  (.pure, ⟨some 85,.mov (.t 0),none⟩),
  (.read 0 1, ⟨some 86,.chk (.t 85),none⟩),
  (.read 0 1, ⟨some 87,.fieldA 4 (.t 86),none⟩),
  (.read 0 1, ⟨some 88,.fieldA 1 (.t 87),none⟩),
  (.read 0 1, ⟨some 89,.load none (.t 88),none⟩),
  (.read 0 1, ⟨some 90,.len .slc (.t 89),none⟩),
  (.pure, ⟨some 91,.mov (.t 12),none⟩),
  (.pure, ⟨some 92,.mov (.t 0),none⟩),
  (.read 0 0, ⟨some 93,.chk (.t 92),none⟩),
  (.read 0 0, ⟨some 94,.fieldA 0 (.t 93),none⟩),
  (.read 0 0, ⟨some 95,.load (some 4) (.t 94),none⟩),
  (.read 0 0, ⟨some 96,.load (some 3) (.t 9),none⟩),
  (.read 0 0, ⟨some 97,.fieldA 0 (.t 8),none⟩),
  (.read 0 0, ⟨some 98,.load none (.t 97),none⟩),
  (.pure, ⟨some 99,.mov (.t 12),none⟩),
  (.read 0 0, ⟨some 100,.idxA 2 (.t 98) (.t 99),none⟩),
  (.read 0 0, ⟨some 101,.fieldA 0 (.t 100),none⟩),
  (.read 0 0, ⟨some 102,.load none (.t 101),none⟩),
  (.loud true [], ⟨some 103,.call (.c (.fn (.func 144) [] [])) [(.t 95), (.t 96), (.t 102)],none⟩),
  (.pure, ⟨some 104,.build [.lit (.int .i64 0), .lit (.int .i64 0), .lit (.int .i64 0), .lit (.slice none 0 0)] [(0, 1, (.t 90)), (1, 1, (.t 91)), (2, 1, (.t 103))],none⟩),
  (.made, ⟨some 105,.lits 4 1 [.lit (.int .i64 0), .lit (.int .i64 0), .lit (.int .i64 0), .lit (.slice none 0 0)] [(0, 4, (.t 104))],none⟩),
  (.loud true [], ⟨some 106,.app 4 48 (.t 84) (.t 105),none⟩),
  (.read 2 2, ⟨some 107,.chk (.t 79),none⟩),
  (.read 2 2, ⟨some 108,.fieldA 4 (.t 107),none⟩),
  (.read 2 2, ⟨some 109,.fieldA 2 (.t 108),none⟩),
  (.loud true [], ⟨none, .store 1 (.t 109) (.t 106),none⟩)]))
 (.reg [⟨some 77,.mov (.t 12),none⟩,
 ⟨some 78,.ar .add (.t 77) (.c (.lit (.int .i64 1))),none⟩,
 ⟨some 12,.mov (.t 78),none⟩]))))))
 (.seq (.seq (.reg [⟨some 13,.mov (.c (.lit (.int .i64 0))),none⟩])
 (.block 6 (.loop (.seq (.seq (.reg [⟨some 110,.mov (.t 13),none⟩,
 ⟨some 111,.fieldA 1 (.t 8),none⟩,
 ⟨some 112,.load none (.t 111),none⟩,
 ⟨some 113,.len .slc (.t 112),none⟩,
 ⟨some 114,.ar .lss (.t 110) (.t 113),none⟩])
 (.cond (.t 114)
 (.skip)
 (.exit 6)))
 (.seq (.block 7 (.regD [(.pure, ⟨some 117,.mov (.t 0),none⟩),
  (.pure, ⟨some 118,.mov (.t 0),none⟩),
  (.read 0 1, ⟨some 119,.chk (.t 118),none⟩),
  (.read 0 1, ⟨some 120,.fieldA 4 (.t 119),none⟩),
  (.read 0 1, ⟨some 121,.fieldA 0 (.t 120),none⟩),
  (.read 0 1, ⟨some 122,.load none (.t 121),none⟩),
  (.pure, ⟨some 123,.mov (.t 0),none⟩),
  (.read 0 0, ⟨some 124,.chk (.t 123),none⟩),
  (.read 0 0, ⟨some 125,.fieldA 0 (.t 124),none⟩),
  (.read 0 0, ⟨some 126,.load (some 4) (.t 125),none⟩),
  (.read 0 0, ⟨some 127,.load (some 3) (.t 9),none⟩),
  (.read 0 0, ⟨some 128,.fieldA 1 (.t 8),none⟩),
  (.read 0 0, ⟨some 129,.load none (.t 128),none⟩),
  (.pure, ⟨some 130,.mov (.t 13),none⟩),
  (.read 0 0, ⟨some 131,.idxA 2 (.t 129) (.t 130),none⟩),
  (.read 0 0, ⟨some 132,.fieldA 0 (.t 131),none⟩),
  (.read 0 0, ⟨some 133,.load none (.t 132),none⟩),
  (.loud true [], ⟨some 134,.call (.c (.fn (.func 144) [] [])) [(.t 126), (.t 127), (.t 133)],none⟩),
  (.pure, ⟨some 135,.build [.lit (.int .i64 0), .lit (.bool false)] [(0, 1, (.t 134))],none⟩),
  (.made, ⟨some 136,.lits 2 1 [.lit (.int .i64 0), .lit (.bool false)] [(0, 2, (.t 135))],none⟩),
  (.loud true [], ⟨some 137,.app 2 16 (.t 122) (.t 136),none⟩),
  (.read 2 2, ⟨some 138,.chk (.t 117),none⟩),
  (.read 2 2, ⟨some 139,.fieldA 4 (.t 138),none⟩),
  (.read 2 2, ⟨some 140,.fieldA 0 (.t 139),none⟩),
  (.loud true [], ⟨none, .store 1 (.t 140) (.t 137),none⟩)]))
 (.reg [⟨some 115,.mov (.t 13),none⟩,
 ⟨some 116,.ar .add (.t 115) (.c (.lit (.int .i64 1))),none⟩,
 ⟨some 13,.mov (.t 116),none⟩]))))))
 (.seq (.regD [(.pure, ⟨some 141,.mov (.t 0),none⟩),
  (.pure, ⟨some 142,.mov (.t 0),none⟩),
  (.read 0 0, ⟨some 143,.chk (.t 142),none⟩),
  (.read 0 0, ⟨some 144,.fieldA 4 (.t 143),none⟩),
  (.read 0 0, ⟨some 145,.fieldA 1 (.t 144),none⟩),
  (.read 0 0, ⟨some 146,.load none (.t 145),none⟩),
  (.read 0 0, ⟨some 147,.load (some 3) (.t 9),none⟩),
  (.made, ⟨some 148,.lits 3 1 [.lit (.int .i64 0), .lit (.int .i64 0), .lit (.slice none 0 0)] [(0, 3, (.t 147))],none⟩),
  (.loud true [], ⟨some 149,.app 3 40 (.t 146) (.t 148),none⟩),
  (.read 1 1, ⟨some 150,.chk (.t 141),none⟩),
  (.read 1 1, ⟨some 151,.fieldA 4 (.t 150),none⟩),
  (.read 1 1, ⟨some 152,.fieldA 1 (.t 151),none⟩),
  (.loud true [], ⟨none, .store 1 (.t 152) (.t 149),none⟩)])
 (.seq (.reg [⟨some 153,.mov (.t 0),none⟩,
 ⟨some 154,.mov (.t 0),none⟩,
 ⟨some 155,.chk (.t 154),none⟩,
 ⟨some 156,.fieldA 10 (.t 155),none⟩,
 ⟨some 157,.load none (.t 156),none⟩,
 ⟨some 158,.mov (.t 157),none⟩,
 ⟨some 159,.mov (.t 0), (some (158, false))⟩,
 ⟨some 160,.chk (.t 159), (some (158, false))⟩,
 ⟨some 161,.fieldA 4 (.t 160), (some (158, false))⟩,
 ⟨some 162,.fieldA 2 (.t 161), (some (158, false))⟩,
 ⟨some 163,.load none (.t 162), (some (158, false))⟩,
 ⟨some 164,.len .slc (.t 163), (some (158, false))⟩,
 ⟨some 165,.ar .gtr (.t 164) (.c (.lit (.int .i64 60))), (some (158, false))⟩,
 ⟨some 166,.pick (.t 158) (.c (.lit (.bool true))) (.t 165),none⟩,
 ⟨some 167,.mov (.t 166),none⟩,
 ⟨some 168,.mov (.t 0), (some (167, false))⟩,
 ⟨some 169,.chk (.t 168), (some (167, false))⟩,
 ⟨some 170,.fieldA 4 (.t 169), (some (167, false))⟩,
 ⟨some 171,.fieldA 0 (.t 170), (some (167, false))⟩,
 ⟨some 172,.load none (.t 171), (some (167, false))⟩,
 ⟨some 173,.len .slc (.t 172), (some (167, false))⟩,
 ⟨some 174,.ar .gtr (.t 173) (.c (.lit (.int .i64 24))), (some (167, false))⟩,
 ⟨some 175,.pick (.t 167) (.c (.lit (.bool true))) (.t 174),none⟩,
 ⟨some 176,.mov (.t 175),none⟩,
 ⟨some 177,.mov (.t 0), (some (176, false))⟩,
 ⟨some 178,.chk (.t 177), (some (176, false))⟩,
 ⟨some 179,.fieldA 4 (.t 178), (some (176, false))⟩,
 ⟨some 180,.fieldA 1 (.t 179), (some (176, false))⟩,
 ⟨some 181,.load none (.t 180), (some (176, false))⟩,
 ⟨some 182,.len .slc (.t 181), (some (176, false))⟩,
 ⟨some 183,.ar .gtr (.t 182) (.c (.lit (.int .i64 40))), (some (176, false))⟩,
 ⟨some 184,.pick (.t 176) (.c (.lit (.bool true))) (.t 183),none⟩,
 ⟨some 185,.chk (.t 153),none⟩,
 ⟨some 186,.fieldA 10 (.t 185),none⟩,
 ⟨none, .store 1 (.t 186) (.t 184),none⟩])
 (.seq (.seq (.reg [⟨some 14,.mov (.c (.lit (.int .i64 0))),none⟩])
 (.block 8 (.loop (.seq (.seq (.reg [⟨some 187,.mov (.t 14),none⟩,
 ⟨some 188,.fieldA 1 (.t 8),none⟩,
 ⟨some 189,.load none (.t 188),none⟩,
 ⟨some 190,.len .slc (.t 189),none⟩,
 ⟨some 191,.ar .lss (.t 187) (.t 190),none⟩])
 (.cond (.t 191)
 (.skip)
 (.exit 8)))
 (.seq (.block 9 (.regD [(.pure, ⟨some 194,.mov (.t 0),none⟩),
  (.read 0 1, ⟨some 195,.fieldA 1 (.t 8),none⟩),
  (.read 0 1, ⟨some 196,.load none (.t 195),none⟩),
  (.pure, ⟨some 197,.mov (.t 14),none⟩),
  (.read 0 1, ⟨some 198,.idxA 2 (.t 196) (.t 197),none⟩),
  (.read 0 1, ⟨some 199,.fieldA 1 (.t 198),none⟩),
  (.read 0 1, ⟨some 200,.load none (.t 199),none⟩),
  (.pure, ⟨some 201,.mov (.t 0),none⟩),
  (.read 0 0, ⟨some 202,.chk (.t 201),none⟩),
  (.read 0 0, ⟨some 203,.fieldA 0 (.t 202),none⟩),
  (.read 0 0, ⟨some 204,.load (some 4) (.t 203),none⟩),
  (.read 0 0, ⟨some 205,.load (some 3) (.t 9),none⟩),
  (.pure, ⟨some 206,.mov (.t 14),none⟩),
  (.pure, ⟨some 207,.ar .add (.t 206) (.c (.lit (.int .i64 1))),none⟩),
  (.loud false [], ⟨some 208,.call (.c (.fn (.func 144) [] [])) [(.t 204), (.t 205), (.t 207)],none⟩),
  (.read 0 1, ⟨some 209,.fieldA 2 (.t 9),none⟩),
  (.read 0 1, ⟨some 210,.load none (.t 209),none⟩),
  (.loud true [], ⟨some 211,.call (.c (.fn (.func 94) [] [])) [(.t 194), (.t 200), (.t 208), (.t 210)],none⟩)]))
 (.reg [⟨some 192,.mov (.t 14),none⟩,
 ⟨some 193,.ar .add (.t 192) (.c (.lit (.int .i64 1))),none⟩,
 ⟨some 14,.mov (.t 193),none⟩]))))))
 (.regD [(.pure, ⟨some 212,.mov (.t 0),none⟩),
  (.read 0 0, ⟨some 213,.fieldA 3 (.t 5),none⟩),
  (.read 0 0, ⟨some 214,.load none (.t 213),none⟩),
  (.read 0 0, ⟨some 215,.idxA 1 (.t 214) (.c (.lit (.int .i64 0))),none⟩),
  (.read 0 0, ⟨some 216,.load none (.t 215),none⟩),
  (.pure, ⟨some 217,.mov (.t 2),none⟩),
  (.read 0 0, ⟨some 218,.fieldA 2 (.t 9),none⟩),
  (.read 0 0, ⟨some 219,.load none (.t 218),none⟩),
  (.loud true [], ⟨some 220,.call (.c (.fn (.func 94) [] [])) [(.t 212), (.t 216), (.t 217), (.t 219)],none⟩)]))))))))))⟩
def f158 : F := ⟨8, [.tmp 2], none, .seq (.reg [⟨some 1,.box (.t 0),none⟩,
 ⟨some 2,.mov (.c (.lit (.int .i64 0))),none⟩])
 (.seq (.seq (.reg [⟨some 3,.fieldA 0 (.t 1),none⟩,
 ⟨some 4,.load none (.t 3),none⟩,
 ⟨some 5,.ar .neq (.t 4) (.c (.lit (.int .i64 1))),none⟩])
 (.cond (.t 5)
 (.seq (.reg [⟨some 2,.mov (.c (.lit (.int .i64 0))),none⟩])
 (.ret))
 (.skip)))
 (.seq (.reg [⟨some 6,.fieldA 1 (.t 1),none⟩,
 ⟨some 7,.load none (.t 6),none⟩,
 ⟨some 2,.mov (.t 7),none⟩])
 (.ret)))⟩
def f159 : F := ⟨66, [.cell 4 (some 2)], none, .seq (.reg [⟨some 2,.box (.t 0),none⟩,
 ⟨some 4,.alloc [.lit (.int .i64 0), .lit (.int .i64 0)],none⟩])
 (.seq (.seq (.reg [⟨some 8,.fieldA 0 (.t 2),none⟩,
 ⟨some 9,.load none (.t 8),none⟩])
 (.block 0 (.seq (.reg [⟨some 11,.ar .eql (.t 9) (.c (.lit (.int .i64 1))),none⟩,
 ⟨some 10,.mov (.t 11),none⟩])
 (.cond (.t 10)
 (.seq (.reg [⟨some 12,.fieldA 1 (.t 2),none⟩,
 ⟨some 13,.load none (.t 12),none⟩,
 ⟨some 14,.build [.lit (.int .i64 0), .lit (.int .i64 0)] [(0, 1, (.c (.lit (.int .i64 1)))), (1, 1, (.t 13))],none⟩,
 ⟨none, .store 2 (.t 4) (.t 14),none⟩])
 (.ret))
 (.seq (.reg [⟨some 16,.ar .eql (.t 9) (.c (.lit (.int .i64 2))),none⟩,
 ⟨some 15,.mov (.t 16),none⟩])
 (.cond (.t 15)
 (.seq (.reg [⟨some 17,.mov (.t 1),none⟩,
 ⟨some 18,.fieldA 1 (.t 2),none⟩,
 ⟨some 19,.load none (.t 18),none⟩,
 ⟨some 20,.idxA 2 (.t 17) (.t 19),none⟩,
 ⟨some 21,.load (some 2) (.t 20),none⟩,
 ⟨none, .store 2 (.t 4) (.t 21),none⟩])
 (.ret))
 (.skip)))))))
 (.seq (.regD [(.read 0 0, ⟨some 22,.fieldA 2 (.t 2),none⟩),
  (.read 0 0, ⟨some 23,.load none (.t 22),none⟩),
  (.read 0 0, ⟨some 24,.idxA 3 (.t 23) (.c (.lit (.int .i64 0))),none⟩),
  (.read 0 0, ⟨some 25,.load (some 3) (.t 24),none⟩),
  (.pure, ⟨some 26,.mov (.t 1),none⟩),
  (.loud false [], ⟨some 27,.call (.c (.fn (.func 159) [] [])) [(.t 25), (.t 26)],none⟩),
  (.loud false [], ⟨some 28,.call (.c (.fn (.func 158) [] [])) [(.t 27)],none⟩),
  (.read 0 2, ⟨some 29,.fieldA 2 (.t 2),none⟩),
  (.read 0 2, ⟨some 30,.load none (.t 29),none⟩),
  (.read 0 2, ⟨some 31,.idxA 3 (.t 30) (.c (.lit (.int .i64 1))),none⟩),
  (.read 0 2, ⟨some 32,.load (some 3) (.t 31),none⟩),
  (.pure, ⟨some 33,.mov (.t 1),none⟩),
  (.loud true [], ⟨some 34,.call (.c (.fn (.func 159) [] [])) [(.t 32), (.t 33)],none⟩),
  (.loud true [], ⟨some 35,.call (.c (.fn (.func 158) [] [])) [(.t 34)],none⟩),
  (.pure, ⟨some 5,.mov (.t 28),none⟩),
  (.pure, ⟨some 6,.mov (.t 35),none⟩)])
 (.seq (.reg [⟨some 7,.mov (.c (.lit (.int .i64 0))),none⟩])
 (.seq (.seq (.reg [⟨some 36,.fieldA 0 (.t 2),none⟩,
 ⟨some 37,.load none (.t 36),none⟩])
 (.block 1 (.seq (.reg [⟨some 39,.ar .eql (.t 37) (.c (.lit (.int .i64 3))),none⟩,
 ⟨some 38,.mov (.t 39),none⟩])
 (.cond (.t 38)
 (.reg [⟨some 40,.mov (.t 5),none⟩,
 ⟨some 41,.mov (.t 6),none⟩,
 ⟨some 42,.ar .add (.t 40) (.t 41),none⟩,
 ⟨some 7,.mov (.t 42),none⟩])
 (.seq (.reg [⟨some 44,.ar .eql (.t 37) (.c (.lit (.int .i64 4))),none⟩,
 ⟨some 43,.mov (.t 44),none⟩])
 (.cond (.t 43)
 (.reg [⟨some 45,.mov (.t 5),none⟩,
 ⟨some 46,.mov (.t 6),none⟩,
 ⟨some 47,.ar .sub (.t 45) (.t 46),none⟩,
 ⟨some 7,.mov (.t 47),none⟩])
 (.seq (.reg [⟨some 49,.ar .eql (.t 37) (.c (.lit (.int .i64 5))),none⟩,
 ⟨some 48,.mov (.t 49),none⟩])
 (.cond (.t 48)
 (.reg [⟨some 50,.mov (.t 5),none⟩,
 ⟨some 51,.mov (.t 6),none⟩,
 ⟨some 52,.ar .mul (.t 50) (.t 51),none⟩,
 ⟨some 7,.mov (.t 52),none⟩])
 (.seq (.reg [⟨some 54,.ar .eql (.t 37) (.c (.lit (.int .i64 6))),none⟩,
 ⟨some 53,.mov (.t 54),none⟩])
 (.cond (.t 53)
 (.seq (.reg [⟨some 55,.mov (.t 5),none⟩,
 ⟨some 56,.mov (.t 6),none⟩,
 ⟨some 57,.ar .lss (.t 55) (.t 56),none⟩])
 (.cond (.t 57)
 (.reg [⟨some 7,.mov (.c (.lit (.int .i64 1))),none⟩])
 (.skip)))
 (.seq (.reg [⟨some 59,.ar .eql (.t 37) (.c (.lit (.int .i64 7))),none⟩,
 ⟨some 58,.mov (.t 59),none⟩])
 (.cond (.t 58)
 (.seq (.reg [⟨some 60,.mov (.t 5),none⟩,
 ⟨some 61,.mov (.t 6),none⟩,
 ⟨some 62,.ar .eql (.t 60) (.t 61),none⟩])
 (.cond (.t 62)
 (.reg [⟨some 7,.mov (.c (.lit (.int .i64 1))),none⟩])
 (.skip)))
 (.skip)))))))))))))
 (.seq (.reg [⟨some 63,.mov (.t 7),none⟩,
 ⟨some 64,.call (.c (.fn (.func 195) [] [])) [(.t 63)],none⟩,
 ⟨some 65,.build [.lit (.int .i64 0), .lit (.int .i64 0)] [(0, 1, (.c (.lit (.int .i64 1)))), (1, 1, (.t 64))],none⟩,
 ⟨none, .store 2 (.t 4) (.t 65),none⟩])
 (.ret))))))⟩
def f160 : F := ⟨55, [.tmp 2], none, .seq (.reg [⟨some 1,.box (.t 0),none⟩,
 ⟨some 2,.mov (.c (.lit (.pointer none))),none⟩])
 (.seq (.reg [⟨some 9,.load (some 4) (.t 1),none⟩,
 ⟨some 10,.call (.c (.fn (.func 126) [] [])) [(.t 9)],none⟩,
 ⟨some 8,.mov (.t 10),none⟩,
 ⟨some 11,.ext (.t 8) 0,none⟩,
 ⟨some 12,.ext (.t 8) 1,none⟩,
 ⟨some 3,.mov (.t 11),none⟩,
 ⟨some 4,.mov (.t 12),none⟩])
 (.seq (.reg [⟨some 13,.mov (.t 4),none⟩,
 ⟨some 14,.ar .eql (.t 13) (.c (.lit (.int .i64 0))),none⟩,
 ⟨some 15,.call (.c (.fn (.func 99) [] [])) [(.t 14)],none⟩])
 (.seq (.regD [(.read 0 0, ⟨some 16,.load (some 4) (.t 1),none⟩),
  (.pure, ⟨some 17,.mov (.t 3),none⟩),
  (.read 0 0, ⟨some 18,.fieldA 2 (.t 1),none⟩),
  (.read 0 0, ⟨some 19,.load none (.t 18),none⟩),
  (.read 0 0, ⟨some 20,.len .slc (.t 19),none⟩),
  (.made, ⟨some 21,.makeS 1 8 [.lit (.int .i64 0)] (.t 20) (.t 20),none⟩),
  (.pure, ⟨some 22,.build [.lit (.slice none 0 0), .lit (.slice none 0 0), .lit (.slice none 0 0), .lit (.slice none 0 0), .lit (.slice none 0 0), .lit (.slice none 0 0), .lit (.slice none 0 0), .lit (.int .i64 0), .lit (.slice none 0 0), .lit (.slice none 0 0), .lit (.map none), .lit (.slice none 0 0), .lit (.int .i64 0)] [(4, 4, (.t 16)), (8, 1, (.t 17)), (9, 1, (.t 21))],none⟩),
  (.made, ⟨some 23,.box (.t 22),none⟩),
  (.pure, ⟨some 5,.mov (.t 23),none⟩)])
 (.seq (.seq (.reg [⟨some 24,.fieldA 1 (.t 1),none⟩,
 ⟨some 25,.load none (.t 24),none⟩,
 ⟨some 26,.len .slc (.t 25),none⟩,
 ⟨some 27,.mov (.c (.lit (.int .i64 0))),none⟩])
 (.block 0 (.loop (.seq (.reg [⟨some 28,.ar .lss (.t 27) (.t 26),none⟩])
 (.seq (.cond (.t 28)
 (.skip)
 (.exit 0))
 (.seq (.block 1 (.seq (.reg [⟨some 29,.idxA 4 (.t 25) (.t 27),none⟩,
 ⟨some 30,.load (some 4) (.t 29),none⟩,
 ⟨some 7,.alloc [.lit (.int .i64 0), .lit (.int .i64 0), .lit (.slice none 0 0), .lit (.slice none 0 0)],none⟩,
 ⟨none, .store 4 (.t 7) (.t 30),none⟩])
 (.seq (.reg [⟨some 31,.fieldA 0 (.t 7),none⟩,
 ⟨some 32,.load none (.t 31),none⟩,
 ⟨some 33,.ar .eql (.t 32) (.c (.lit (.int .i64 4))),none⟩])
 (.cond (.t 33)
 (.regD [(.pure, ⟨some 34,.mov (.t 5),none⟩),
  (.read 0 0, ⟨some 35,.chk (.t 34),none⟩),
  (.read 0 0, ⟨some 36,.fieldA 9 (.t 35),none⟩),
  (.read 0 0, ⟨some 37,.load none (.t 36),none⟩),
  (.read 0 0, ⟨some 38,.fieldA 1 (.t 7),none⟩),
  (.read 0 0, ⟨some 39,.load none (.t 38),none⟩),
  (.pure, ⟨some 40,.mov (.t 3),none⟩),
  (.read 0 0, ⟨some 41,.fieldA 3 (.t 7),none⟩),
  (.read 0 0, ⟨some 42,.load none (.t 41),none⟩),
  (.read 0 0, ⟨some 43,.idxA 1 (.t 42) (.c (.lit (.int .i64 0))),none⟩),
  (.read 0 0, ⟨some 44,.load none (.t 43),none⟩),
  (.read 0 0, ⟨some 45,.idxA 1 (.t 40) (.t 44),none⟩),
  (.read 0 0, ⟨some 46,.load none (.t 45),none⟩),
  (.read 0 0, ⟨some 47,.idxA 1 (.t 37) (.t 39),none⟩),
  (.loud true [], ⟨none, .store 1 (.t 47) (.t 46),none⟩)])
 (.skip)))))
 (.reg [⟨some 48,.ar .add (.t 27) (.c (.lit (.int .i64 1))),none⟩,
 ⟨some 27,.mov (.t 48),none⟩])))))))
 (.seq (.reg [⟨some 49,.mov (.t 5),none⟩,
 ⟨some 50,.makeM,none⟩,
 ⟨none, .upd (.one (.int .i64)) (.t 50) (.c (.lit (.int .i64 2))) (.c (.fn (.func 196) [] [])),none⟩,
 ⟨none, .upd (.one (.int .i64)) (.t 50) (.c (.lit (.int .i64 3))) (.c (.fn (.func 197) [] [])),none⟩,
 ⟨none, .upd (.one (.int .i64)) (.t 50) (.c (.lit (.int .i64 4))) (.c (.fn (.func 198) [] [])),none⟩,
 ⟨none, .upd (.one (.int .i64)) (.t 50) (.c (.lit (.int .i64 5))) (.c (.fn (.func 199) [] [])),none⟩,
 ⟨none, .upd (.one (.int .i64)) (.t 50) (.c (.lit (.int .i64 6))) (.c (.fn (.func 200) [] [])),none⟩,
 ⟨none, .upd (.one (.int .i64)) (.t 50) (.c (.lit (.int .i64 7))) (.c (.fn (.func 200) [] [])),none⟩,
 ⟨none, .upd (.one (.int .i64)) (.t 50) (.c (.lit (.int .i64 8))) (.c (.fn (.func 200) [] [])),none⟩,
 ⟨some 51,.mov (.t 50),none⟩,
 ⟨some 52,.chk (.t 49),none⟩,
 ⟨some 53,.fieldA 10 (.t 52),none⟩,
 ⟨none, .store 1 (.t 53) (.t 51),none⟩])
 (.seq (.reg [⟨some 54,.mov (.t 5),none⟩,
 ⟨some 2,.mov (.t 54),none⟩])
 (.ret)))))))⟩
def f161 : F := ⟨369, [], none, .seq (.reg [⟨some 19,.mov (.t 0),none⟩,
 ⟨some 20,.chk (.t 19),none⟩,
 ⟨some 21,.fieldA 0 (.t 20),none⟩,
 ⟨some 22,.fieldA 0 (.t 21),none⟩,
 ⟨some 23,.load none (.t 22),none⟩,
 ⟨some 24,.len .slc (.t 23),none⟩,
 ⟨some 25,.ar .leq (.t 24) (.c (.lit (.int .i64 24))),none⟩,
 ⟨some 26,.mov (.t 25),none⟩,
 ⟨some 27,.mov (.t 0), (some (26, true))⟩,
 ⟨some 28,.chk (.t 27), (some (26, true))⟩,
 ⟨some 29,.fieldA 0 (.t 28), (some (26, true))⟩,
 ⟨some 30,.fieldA 1 (.t 29), (some (26, true))⟩,
 ⟨some 31,.load none (.t 30), (some (26, true))⟩,
 ⟨some 32,.len .slc (.t 31), (some (26, true))⟩,
 ⟨some 33,.ar .leq (.t 32) (.c (.lit (.int .i64 40))), (some (26, true))⟩,
 ⟨some 34,.pick (.t 26) (.t 33) (.c (.lit (.bool false))),none⟩,
 ⟨some 35,.mov (.t 34),none⟩,
 ⟨some 36,.mov (.t 0), (some (35, true))⟩,
 ⟨some 37,.chk (.t 36), (some (35, true))⟩,
 ⟨some 38,.fieldA 0 (.t 37), (some (35, true))⟩,
 ⟨some 39,.fieldA 2 (.t 38), (some (35, true))⟩,
 ⟨some 40,.load none (.t 39), (some (35, true))⟩,
 ⟨some 41,.len .slc (.t 40), (some (35, true))⟩,
 ⟨some 42,.ar .leq (.t 41) (.c (.lit (.int .i64 60))), (some (35, true))⟩,
 ⟨some 43,.pick (.t 35) (.t 42) (.c (.lit (.bool false))),none⟩,
 ⟨some 44,.mov (.t 43),none⟩,
 ⟨some 45,.mov (.t 0), (some (44, true))⟩,
 ⟨some 46,.chk (.t 45), (some (44, true))⟩,
 ⟨some 47,.fieldA 0 (.t 46), (some (44, true))⟩,
 ⟨some 48,.fieldA 3 (.t 47), (some (44, true))⟩,
 ⟨some 49,.load none (.t 48), (some (44, true))⟩,
 ⟨some 50,.len .slc (.t 49), (some (44, true))⟩,
 ⟨some 51,.ar .leq (.t 50) (.c (.lit (.int .i64 40))), (some (44, true))⟩,
 ⟨some 52,.pick (.t 44) (.t 51) (.c (.lit (.bool false))),none⟩,
 ⟨some 53,.call (.c (.fn (.func 99) [] [])) [(.t 52)],none⟩])
 (.seq (.reg [⟨some 54,.mov (.t 0),none⟩,
 ⟨some 55,.chk (.t 54),none⟩,
 ⟨some 56,.fieldA 0 (.t 55),none⟩,
 ⟨some 57,.fieldA 0 (.t 56),none⟩,
 ⟨some 58,.load none (.t 57),none⟩,
 ⟨some 59,.call (.c (.fn (.func 98) [] [])) [(.t 58)],none⟩])
 (.seq (.seq (.reg [⟨some 60,.mov (.t 0),none⟩,
 ⟨some 61,.chk (.t 60),none⟩,
 ⟨some 62,.fieldA 0 (.t 61),none⟩,
 ⟨some 63,.fieldA 0 (.t 62),none⟩,
 ⟨some 64,.load none (.t 63),none⟩,
 ⟨some 65,.slice 2 (.t 64) (some (.c (.lit (.int .i64 1)))) none,none⟩,
 ⟨some 66,.len .slc (.t 65),none⟩,
 ⟨some 67,.mov (.c (.lit (.int .i64 0))),none⟩])
 (.block 0 (.loop (.seq (.reg [⟨some 68,.ar .lss (.t 67) (.t 66),none⟩])
 (.seq (.cond (.t 68)
 (.skip)
 (.exit 0))
 (.seq (.block 1 (.seq (.reg [⟨some 69,.idxA 2 (.t 65) (.t 67),none⟩,
 ⟨some 70,.load (some 2) (.t 69),none⟩,
 ⟨some 3,.alloc [.lit (.int .i64 0), .lit (.bool false)],none⟩,
 ⟨none, .store 2 (.t 3) (.t 70),none⟩])
 (.regD [(.read 0 0, ⟨some 71,.fieldA 1 (.t 3),none⟩),
  (.read 0 0, ⟨some 72,.load none (.t 71),none⟩),
  (.pure, ⟨some 73,.mov (.t 72),none⟩),
  (.pure, ⟨some 74,.mov (.t 0), (some (73, false))⟩),
  (.read 0 0, ⟨some 75,.chk (.t 74), (some (73, false))⟩),
  (.read 0 0, ⟨some 76,.fieldA 0 (.t 75), (some (73, false))⟩),
  (.read 0 0, ⟨some 77,.fieldA 0 (.t 76), (some (73, false))⟩),
  (.read 0 0, ⟨some 78,.load none (.t 77), (some (73, false))⟩),
  (.read 0 0, ⟨some 79,.fieldA 0 (.t 3), (some (73, false))⟩),
  (.read 0 0, ⟨some 80,.load none (.t 79), (some (73, false))⟩),
  (.read 0 0, ⟨some 81,.idxA 2 (.t 78) (.t 80), (some (73, false))⟩),
  (.read 0 0, ⟨some 82,.fieldA 1 (.t 81), (some (73, false))⟩),
  (.read 0 0, ⟨some 83,.load none (.t 82), (some (73, false))⟩),
  (.pure, ⟨some 84,.not (.t 83), (some (73, false))⟩),
  (.pure, ⟨some 85,.pick (.t 73) (.c (.lit (.bool true))) (.t 84),none⟩),
  (.loud true [], ⟨some 86,.call (.c (.fn (.func 99) [] [])) [(.t 85)],none⟩)])))
 (.reg [⟨some 87,.ar .add (.t 67) (.c (.lit (.int .i64 1))),none⟩,
 ⟨some 67,.mov (.t 87),none⟩])))))))
 (.seq (.reg [⟨some 4,.mov (.c (.lit (.int .i64 0))),none⟩,
 ⟨some 5,.mov (.c (.lit (.int .i64 1))),none⟩])
 (.seq (.seq (.reg [⟨some 88,.mov (.t 0),none⟩,
 ⟨some 89,.chk (.t 88),none⟩,
 ⟨some 90,.fieldA 0 (.t 89),none⟩,
 ⟨some 91,.fieldA 1 (.t 90),none⟩,
 ⟨some 92,.load none (.t 91),none⟩,
 ⟨some 93,.len .slc (.t 92),none⟩,
 ⟨some 94,.mov (.c (.lit (.int .i64 0))),none⟩])
 (.block 2 (.loop (.seq (.reg [⟨some 95,.ar .lss (.t 94) (.t 93),none⟩])
 (.seq (.cond (.t 95)
 (.skip)
 (.exit 2))
 (.seq (.block 3 (.seq (.reg [⟨some 96,.mov (.t 94),none⟩,
 ⟨some 97,.idxA 3 (.t 92) (.t 94),none⟩,
 ⟨some 98,.load (some 3) (.t 97),none⟩,
 ⟨some 7,.alloc [.lit (.int .i64 0), .lit (.int .i64 0), .lit (.slice none 0 0)],none⟩,
 ⟨some 6,.mov (.t 96),none⟩,
 ⟨none, .store 3 (.t 7) (.t 98),none⟩])
 (.seq (.regD [(.read 0 0, ⟨some 99,.fieldA 0 (.t 7),none⟩),
  (.read 0 0, ⟨some 100,.load none (.t 99),none⟩),
  (.pure, ⟨some 101,.ar .geq (.t 100) (.c (.lit (.int .i64 0))),none⟩),
  (.pure, ⟨some 102,.mov (.t 101),none⟩),
  (.read 0 0, ⟨some 103,.fieldA 0 (.t 7), (some (102, true))⟩),
  (.read 0 0, ⟨some 104,.load none (.t 103), (some (102, true))⟩),
  (.pure, ⟨some 105,.mov (.t 0), (some (102, true))⟩),
  (.read 0 0, ⟨some 106,.chk (.t 105), (some (102, true))⟩),
  (.read 0 0, ⟨some 107,.fieldA 4 (.t 106), (some (102, true))⟩),
  (.read 0 0, ⟨some 108,.fieldA 2 (.t 107), (some (102, true))⟩),
  (.read 0 0, ⟨some 109,.load none (.t 108), (some (102, true))⟩),
  (.read 0 0, ⟨some 110,.len .slc (.t 109), (some (102, true))⟩),
  (.pure, ⟨some 111,.ar .lss (.t 104) (.t 110), (some (102, true))⟩),
  (.pure, ⟨some 112,.pick (.t 102) (.t 111) (.c (.lit (.bool false))),none⟩),
  (.loud true [], ⟨some 113,.call (.c (.fn (.func 99) [] [])) [(.t 112)],none⟩)])
 (.seq (.reg [⟨some 114,.mov (.t 0),none⟩,
 ⟨some 115,.fieldA 1 (.t 7),none⟩,
 ⟨some 116,.load none (.t 115),none⟩,
 ⟨some 117,.call (.c (.fn (.func 201) [] [])) [(.t 114), (.t 116)],none⟩])
 (.seq (.regD [(.pure, ⟨some 118,.mov (.t 0),none⟩),
  (.read 0 0, ⟨some 119,.fieldA 2 (.t 7),none⟩),
  (.read 0 0, ⟨some 120,.load none (.t 119),none⟩),
  (.pure, ⟨some 121,.mov (.t 0),none⟩),
  (.read 0 0, ⟨some 122,.chk (.t 121),none⟩),
  (.read 0 0, ⟨some 123,.fieldA 9 (.t 122),none⟩),
  (.read 0 0, ⟨some 124,.load none (.t 123),none⟩),
  (.read 0 0, ⟨some 125,.fieldA 0 (.t 7),none⟩),
  (.read 0 0, ⟨some 126,.load none (.t 125),none⟩),
  (.read 0 0, ⟨some 127,.idxA 1 (.t 124) (.t 126),none⟩),
  (.read 0 0, ⟨some 128,.load none (.t 127),none⟩),
  (.loud true [], ⟨some 129,.call (.c (.fn (.func 202) [] [])) [(.t 118), (.t 120), (.t 128)],none⟩)])
 (.seq (.regD [(.pure, ⟨some 130,.mov (.t 0),none⟩),
  (.read 0 0, ⟨some 131,.chk (.t 130),none⟩),
  (.read 0 0, ⟨some 132,.fieldA 4 (.t 131),none⟩),
  (.read 0 0, ⟨some 133,.fieldA 2 (.t 132),none⟩),
  (.read 0 0, ⟨some 134,.load none (.t 133),none⟩),
  (.read 0 0, ⟨some 135,.fieldA 0 (.t 7),none⟩),
  (.read 0 0, ⟨some 136,.load none (.t 135),none⟩),
  (.read 0 0, ⟨some 137,.idxA 3 (.t 134) (.t 136),none⟩),
  (.read 0 0, ⟨some 138,.load (some 3) (.t 137),none⟩),
  (.made, ⟨some 8,.alloc [.lit (.slice none 0 0), .lit (.slice none 0 0), .lit (.slice none 0 0)],none⟩),
  (.loud true [], ⟨none, .store 3 (.t 8) (.t 138),none⟩)])
 (.seq (.reg [⟨some 139,.fieldA 2 (.t 7),none⟩,
 ⟨some 140,.load none (.t 139),none⟩,
 ⟨some 141,.fieldA 2 (.t 7),none⟩,
 ⟨some 142,.load none (.t 141),none⟩,
 ⟨some 143,.len .slc (.t 142),none⟩,
 ⟨some 144,.fieldA 0 (.t 8),none⟩,
 ⟨some 145,.load none (.t 144),none⟩,
 ⟨some 146,.len .slc (.t 145),none⟩,
 ⟨some 147,.ar .sub (.t 143) (.t 146),none⟩,
 ⟨some 148,.fieldA 1 (.t 8),none⟩,
 ⟨some 149,.load none (.t 148),none⟩,
 ⟨some 150,.len .slc (.t 149),none⟩,
 ⟨some 151,.ar .sub (.t 147) (.t 150),none⟩,
 ⟨some 152,.slice 2 (.t 140) (some (.t 151)) none,none⟩,
 ⟨some 9,.mov (.t 152),none⟩])
 (.seq (.seq (.reg [⟨some 153,.fieldA 0 (.t 8),none⟩,
 ⟨some 154,.load none (.t 153),none⟩,
 ⟨some 155,.len .slc (.t 154),none⟩,
 ⟨some 156,.mov (.c (.lit (.int .i64 0))),none⟩])
 (.block 4 (.loop (.seq (.reg [⟨some 157,.ar .lss (.t 156) (.t 155),none⟩])
 (.seq (.cond (.t 157)
 (.skip)
 (.exit 4))
 (.seq (.block 5 (.seq (.reg [⟨some 158,.mov (.t 156),none⟩,
 ⟨some 10,.mov (.t 158),none⟩])
 (.reg [⟨some 159,.mov (.t 9),none⟩,
 ⟨some 160,.mov (.t 10),none⟩,
 ⟨some 161,.idxA 2 (.t 159) (.t 160),none⟩,
 ⟨some 162,.load (some 2) (.t 161),none⟩,
 ⟨some 163,.mov (.t 4),none⟩,
 ⟨some 164,.mov (.t 10),none⟩,
 ⟨some 165,.ar .add (.t 163) (.t 164),none⟩,
 ⟨some 166,.build [.lit (.int .i64 0), .lit (.int .i64 0)] [(0, 1, (.c (.lit (.int .i64 3)))), (1, 1, (.t 165))],none⟩,
 ⟨some 167,.eqA false [.int .i64, .int .i64] (.t 162) (.t 166),none⟩,
 ⟨some 168,.call (.c (.fn (.func 99) [] [])) [(.t 167)],none⟩])))
 (.reg [⟨some 169,.ar .add (.t 156) (.c (.lit (.int .i64 1))),none⟩,
 ⟨some 156,.mov (.t 169),none⟩])))))))
 (.seq (.seq (.reg [⟨some 170,.fieldA 1 (.t 8),none⟩,
 ⟨some 171,.load none (.t 170),none⟩,
 ⟨some 172,.len .slc (.t 171),none⟩,
 ⟨some 173,.mov (.c (.lit (.int .i64 0))),none⟩])
 (.block 6 (.loop (.seq (.reg [⟨some 174,.ar .lss (.t 173) (.t 172),none⟩])
 (.seq (.cond (.t 174)
 (.skip)
 (.exit 6))
 (.seq (.block 7 (.seq (.reg [⟨some 175,.mov (.t 173),none⟩,
 ⟨some 11,.mov (.t 175),none⟩])
 (.reg [⟨some 176,.mov (.t 9),none⟩,
 ⟨some 177,.fieldA 0 (.t 8),none⟩,
 ⟨some 178,.load none (.t 177),none⟩,
 ⟨some 179,.len .slc (.t 178),none⟩,
 ⟨some 180,.mov (.t 11),none⟩,
 ⟨some 181,.ar .add (.t 179) (.t 180),none⟩,
 ⟨some 182,.idxA 2 (.t 176) (.t 181),none⟩,
 ⟨some 183,.load (some 2) (.t 182),none⟩,
 ⟨some 184,.mov (.t 5),none⟩,
 ⟨some 185,.mov (.t 11),none⟩,
 ⟨some 186,.ar .add (.t 184) (.t 185),none⟩,
 ⟨some 187,.build [.lit (.int .i64 0), .lit (.int .i64 0)] [(0, 1, (.c (.lit (.int .i64 4)))), (1, 1, (.t 186))],none⟩,
 ⟨some 188,.eqA false [.int .i64, .int .i64] (.t 183) (.t 187),none⟩,
 ⟨some 189,.call (.c (.fn (.func 99) [] [])) [(.t 188)],none⟩])))
 (.reg [⟨some 190,.ar .add (.t 173) (.c (.lit (.int .i64 1))),none⟩,
 ⟨some 173,.mov (.t 190),none⟩])))))))
 (.seq (.seq (.reg [⟨some 191,.fieldA 0 (.t 8),none⟩,
 ⟨some 192,.load none (.t 191),none⟩,
 ⟨some 193,.len .slc (.t 192),none⟩,
 ⟨some 194,.mov (.c (.lit (.int .i64 0))),none⟩])
 (.block 8 (.loop (.seq (.reg [⟨some 195,.ar .lss (.t 194) (.t 193),none⟩])
 (.seq (.cond (.t 195)
 (.skip)
 (.exit 8))
 (.seq (.block 9 (.seq (.reg [⟨some 196,.mov (.t 194),none⟩,
 ⟨some 197,.idxA 2 (.t 192) (.t 194),none⟩,
 ⟨some 198,.load (some 2) (.t 197),none⟩,
 ⟨some 13,.alloc [.lit (.int .i64 0), .lit (.int .i64 0)],none⟩,
 ⟨some 12,.mov (.t 196),none⟩,
 ⟨none, .store 2 (.t 13) (.t 198),none⟩])
 (.seq (.reg [⟨some 199,.mov (.t 0),none⟩,
 ⟨some 200,.chk (.t 199),none⟩,
 ⟨some 201,.fieldA 0 (.t 200),none⟩,
 ⟨some 202,.fieldA 2 (.t 201),none⟩,
 ⟨some 203,.load none (.t 202),none⟩,
 ⟨some 204,.mov (.t 4),none⟩,
 ⟨some 205,.mov (.t 12),none⟩,
 ⟨some 206,.ar .add (.t 204) (.t 205),none⟩,
 ⟨some 207,.idxA 4 (.t 203) (.t 206),none⟩,
 ⟨some 208,.load (some 4) (.t 207),none⟩,
 ⟨some 14,.alloc [.lit (.int .i64 0), .lit (.int .i64 0), .lit (.int .i64 0), .lit (.slice none 0 0)],none⟩,
 ⟨none, .store 4 (.t 14) (.t 208),none⟩])
 (.seq (.regD [(.read 0 0, ⟨some 209,.fieldA 0 (.t 14),none⟩),
  (.read 0 0, ⟨some 210,.load none (.t 209),none⟩),
  (.pure, ⟨some 211,.mov (.t 6),none⟩),
  (.pure, ⟨some 212,.ar .eql (.t 210) (.t 211),none⟩),
  (.pure, ⟨some 213,.mov (.t 212),none⟩),
  (.read 0 0, ⟨some 214,.fieldA 1 (.t 14), (some (213, true))⟩),
  (.read 0 0, ⟨some 215,.load none (.t 214), (some (213, true))⟩),
  (.pure, ⟨some 216,.mov (.t 12), (some (213, true))⟩),
  (.pure, ⟨some 217,.ar .eql (.t 215) (.t 216), (some (213, true))⟩),
  (.pure, ⟨some 218,.pick (.t 213) (.t 217) (.c (.lit (.bool false))),none⟩),
  (.pure, ⟨some 219,.mov (.t 218),none⟩),
  (.read 0 1, ⟨some 220,.fieldA 2 (.t 14), (some (219, true))⟩),
  (.read 0 1, ⟨some 221,.load none (.t 220), (some (219, true))⟩),
  (.pure, ⟨some 222,.mov (.t 0), (some (219, true))⟩),
  (.read 0 0, ⟨some 223,.load (some 3) (.t 7), (some (219, true))⟩),
  (.read 0 0, ⟨some 224,.fieldA 0 (.t 13), (some (219, true))⟩),
  (.read 0 0, ⟨some 225,.load none (.t 224), (some (219, true))⟩),
  (.loud true [], ⟨some 226,.call (.c (.fn (.func 203) [] [])) [(.t 222), (.t 223), (.t 225)], (some (219, true))⟩),
  (.pure, ⟨some 227,.ar .eql (.t 221) (.t 226), (some (219, true))⟩),
  (.pure, ⟨some 228,.pick (.t 219) (.t 227) (.c (.lit (.bool false))),none⟩),
  (.loud true [], ⟨some 229,.call (.c (.fn (.func 99) [] [])) [(.t 228)],none⟩)])
 (.seq (.regD [(.read 0 0, ⟨some 230,.fieldA 3 (.t 14),none⟩),
  (.read 0 0, ⟨some 231,.load none (.t 230),none⟩),
  (.read 0 0, ⟨some 232,.len .slc (.t 231),none⟩),
  (.pure, ⟨some 233,.ar .leq (.t 232) (.c (.lit (.int .i64 12))),none⟩),
  (.pure, ⟨some 234,.mov (.t 233),none⟩),
  (.read 0 0, ⟨some 235,.fieldA 3 (.t 14), (some (234, true))⟩),
  (.read 0 0, ⟨some 236,.load none (.t 235), (some (234, true))⟩),
  (.read 0 0, ⟨some 237,.len .slc (.t 236), (some (234, true))⟩),
  (.pure, ⟨some 238,.ar .eql (.t 237) (.c (.lit (.int .i64 0))), (some (234, true))⟩),
  (.pure, ⟨some 239,.mov (.t 238), (some (234, true))⟩),
  (.pure, ⟨some 240,.mov (.t 0), (some (239, false))⟩),
  (.read 0 0, ⟨some 241,.chk (.t 240), (some (239, false))⟩),
  (.read 0 0, ⟨some 242,.fieldA 0 (.t 241), (some (239, false))⟩),
  (.read 0 0, ⟨some 243,.fieldA 0 (.t 242), (some (239, false))⟩),
  (.read 0 0, ⟨some 244,.load none (.t 243), (some (239, false))⟩),
  (.read 0 0, ⟨some 245,.fieldA 2 (.t 14), (some (239, false))⟩),
  (.read 0 0, ⟨some 246,.load none (.t 245), (some (239, false))⟩),
  (.read 0 0, ⟨some 247,.idxA 2 (.t 244) (.t 246), (some (239, false))⟩),
  (.read 0 0, ⟨some 248,.fieldA 1 (.t 247), (some (239, false))⟩),
  (.read 0 0, ⟨some 249,.load none (.t 248), (some (239, false))⟩),
  (.pure, ⟨some 250,.not (.t 249), (some (239, false))⟩),
  (.pure, ⟨some 251,.pick (.t 239) (.c (.lit (.bool true))) (.t 250), (some (234, true))⟩),
  (.pure, ⟨some 252,.pick (.t 234) (.t 251) (.c (.lit (.bool false))),none⟩),
  (.loud true [], ⟨some 253,.call (.c (.fn (.func 99) [] [])) [(.t 252)],none⟩)])
 (.seq (.reg [⟨some 254,.fieldA 3 (.t 14),none⟩,
 ⟨some 255,.load none (.t 254),none⟩,
 ⟨some 256,.len .slc (.t 255),none⟩,
 ⟨some 257,.mov (.c (.lit (.int .i64 0))),none⟩])
 (.block 10 (.loop (.seq (.reg [⟨some 258,.ar .lss (.t 257) (.t 256),none⟩])
 (.seq (.cond (.t 258)
 (.skip)
 (.exit 10))
 (.seq (.block 11 (.seq (.reg [⟨some 259,.idxA 1 (.t 255) (.t 257),none⟩,
 ⟨some 260,.load (some 1) (.t 259),none⟩,
 ⟨some 16,.alloc [.lit (.slice none 0 0)],none⟩,
 ⟨none, .store 1 (.t 16) (.t 260),none⟩])
 (.reg [⟨some 261,.mov (.t 0),none⟩,
 ⟨some 262,.fieldA 0 (.t 16),none⟩,
 ⟨some 263,.load none (.t 262),none⟩,
 ⟨some 264,.fieldA 1 (.t 13),none⟩,
 ⟨some 265,.load none (.t 264),none⟩,
 ⟨some 266,.call (.c (.fn (.func 202) [] [])) [(.t 261), (.t 263), (.t 265)],none⟩])))
 (.reg [⟨some 267,.ar .add (.t 257) (.c (.lit (.int .i64 1))),none⟩,
 ⟨some 257,.mov (.t 267),none⟩]))))))))))))
 (.reg [⟨some 268,.ar .add (.t 194) (.c (.lit (.int .i64 1))),none⟩,
 ⟨some 194,.mov (.t 268),none⟩])))))))
 (.regD [(.pure, ⟨some 269,.mov (.t 4),none⟩),
  (.read 0 0, ⟨some 270,.fieldA 0 (.t 8),none⟩),
  (.read 0 0, ⟨some 271,.load none (.t 270),none⟩),
  (.read 0 0, ⟨some 272,.len .slc (.t 271),none⟩),
  (.pure, ⟨some 273,.ar .add (.t 269) (.t 272),none⟩),
  (.pure, ⟨some 274,.mov (.t 5),none⟩),
  (.read 0 0, ⟨some 275,.fieldA 1 (.t 8),none⟩),
  (.read 0 0, ⟨some 276,.load none (.t 275),none⟩),
  (.read 0 0, ⟨some 277,.len .slc (.t 276),none⟩),
  (.pure, ⟨some 278,.ar .add (.t 274) (.t 277),none⟩),
  (.pure, ⟨some 4,.mov (.t 273),none⟩),
  (.pure, ⟨some 5,.mov (.t 278),none⟩)])))))))))))
 (.reg [⟨some 279,.ar .add (.t 94) (.c (.lit (.int .i64 1))),none⟩,
 ⟨some 94,.mov (.t 279),none⟩])))))))
 (.seq (.reg [⟨some 280,.mov (.t 4),none⟩,
 ⟨some 281,.mov (.t 0),none⟩,
 ⟨some 282,.chk (.t 281),none⟩,
 ⟨some 283,.fieldA 0 (.t 282),none⟩,
 ⟨some 284,.fieldA 2 (.t 283),none⟩,
 ⟨some 285,.load none (.t 284),none⟩,
 ⟨some 286,.len .slc (.t 285),none⟩,
 ⟨some 287,.ar .eql (.t 280) (.t 286),none⟩,
 ⟨some 288,.mov (.t 287),none⟩,
 ⟨some 289,.mov (.t 5), (some (288, true))⟩,
 ⟨some 290,.mov (.t 0), (some (288, true))⟩,
 ⟨some 291,.chk (.t 290), (some (288, true))⟩,
 ⟨some 292,.fieldA 0 (.t 291), (some (288, true))⟩,
 ⟨some 293,.fieldA 0 (.t 292), (some (288, true))⟩,
 ⟨some 294,.load none (.t 293), (some (288, true))⟩,
 ⟨some 295,.len .slc (.t 294), (some (288, true))⟩,
 ⟨some 296,.ar .eql (.t 289) (.t 295), (some (288, true))⟩,
 ⟨some 297,.pick (.t 288) (.t 296) (.c (.lit (.bool false))),none⟩,
 ⟨some 298,.call (.c (.fn (.func 99) [] [])) [(.t 297)],none⟩])
 (.seq (.reg [⟨some 299,.mov (.t 0),none⟩,
 ⟨some 300,.chk (.t 299),none⟩,
 ⟨some 301,.fieldA 0 (.t 300),none⟩,
 ⟨some 302,.fieldA 3 (.t 301),none⟩,
 ⟨some 303,.load none (.t 302),none⟩,
 ⟨some 304,.len .slc (.t 303),none⟩,
 ⟨some 305,.mov (.c (.lit (.int .i64 0))),none⟩])
 (.block 12 (.loop (.seq (.reg [⟨some 306,.ar .lss (.t 305) (.t 304),none⟩])
 (.seq (.cond (.t 306)
 (.skip)
 (.exit 12))
 (.seq (.block 13 (.seq (.reg [⟨some 307,.idxA 3 (.t 303) (.t 305),none⟩,
 ⟨some 308,.load (some 3) (.t 307),none⟩,
 ⟨some 18,.alloc [.lit (.int .i64 0), .lit (.int .i64 0), .lit (.slice none 0 0)],none⟩,
 ⟨none, .store 3 (.t 18) (.t 308),none⟩])
 (.seq (.reg [⟨some 309,.mov (.t 0),none⟩,
 ⟨some 310,.fieldA 0 (.t 18),none⟩,
 ⟨some 311,.load none (.t 310),none⟩,
 ⟨some 312,.call (.c (.fn (.func 201) [] [])) [(.t 309), (.t 311)],none⟩])
 (.seq (.regD [(.pure, ⟨some 313,.mov (.t 0),none⟩),
  (.read 0 0, ⟨some 314,.chk (.t 313),none⟩),
  (.read 0 0, ⟨some 315,.fieldA 0 (.t 314),none⟩),
  (.read 0 0, ⟨some 316,.fieldA 0 (.t 315),none⟩),
  (.read 0 0, ⟨some 317,.load none (.t 316),none⟩),
  (.read 0 0, ⟨some 318,.fieldA 0 (.t 18),none⟩),
  (.read 0 0, ⟨some 319,.load none (.t 318),none⟩),
  (.read 0 0, ⟨some 320,.idxA 2 (.t 317) (.t 319),none⟩),
  (.read 0 0, ⟨some 321,.fieldA 1 (.t 320),none⟩),
  (.read 0 0, ⟨some 322,.load none (.t 321),none⟩),
  (.pure, ⟨some 323,.not (.t 322),none⟩),
  (.pure, ⟨some 324,.mov (.t 323),none⟩),
  (.read 0 0, ⟨some 325,.fieldA 1 (.t 18), (some (324, true))⟩),
  (.read 0 0, ⟨some 326,.load none (.t 325), (some (324, true))⟩),
  (.pure, ⟨some 327,.ar .geq (.t 326) (.c (.lit (.int .i64 0))), (some (324, true))⟩),
  (.pure, ⟨some 328,.pick (.t 324) (.t 327) (.c (.lit (.bool false))),none⟩),
  (.pure, ⟨some 329,.mov (.t 328),none⟩),
  (.read 0 0, ⟨some 330,.fieldA 1 (.t 18), (some (329, true))⟩),
  (.read 0 0, ⟨some 331,.load none (.t 330), (some (329, true))⟩),
  (.pure, ⟨some 332,.mov (.t 0), (some (329, true))⟩),
  (.read 0 0, ⟨some 333,.chk (.t 332), (some (329, true))⟩),
  (.read 0 0, ⟨some 334,.fieldA 4 (.t 333), (some (329, true))⟩),
  (.read 0 0, ⟨some 335,.fieldA 1 (.t 334), (some (329, true))⟩),
  (.read 0 0, ⟨some 336,.load none (.t 335), (some (329, true))⟩),
  (.read 0 0, ⟨some 337,.len .slc (.t 336), (some (329, true))⟩),
  (.pure, ⟨some 338,.ar .lss (.t 331) (.t 337), (some (329, true))⟩),
  (.pure, ⟨some 339,.pick (.t 329) (.t 338) (.c (.lit (.bool false))),none⟩),
  (.loud true [], ⟨some 340,.call (.c (.fn (.func 99) [] [])) [(.t 339)],none⟩)])
 (.seq (.regD [(.pure, ⟨some 341,.mov (.t 0),none⟩),
  (.read 0 0, ⟨some 342,.chk (.t 341),none⟩),
  (.read 0 0, ⟨some 343,.fieldA 4 (.t 342),none⟩),
  (.read 0 0, ⟨some 344,.fieldA 1 (.t 343),none⟩),
  (.read 0 0, ⟨some 345,.load none (.t 344),none⟩),
  (.read 0 0, ⟨some 346,.fieldA 1 (.t 18),none⟩),
  (.read 0 0, ⟨some 347,.load none (.t 346),none⟩),
  (.read 0 0, ⟨some 348,.idxA 4 (.t 345) (.t 347),none⟩),
  (.read 0 0, ⟨some 349,.fieldA 0 (.t 348),none⟩),
  (.read 0 0, ⟨some 350,.load none (.t 349),none⟩)])
 (.block 14 (.seq (.seq (.reg [⟨some 353,.ar .eql (.t 350) (.c (.lit (.int .i64 6))),none⟩,
 ⟨some 352,.mov (.t 353),none⟩])
 (.cond (.t 352)
 (.skip)
 (.seq (.reg [⟨some 354,.ar .eql (.t 350) (.c (.lit (.int .i64 7))),none⟩,
 ⟨some 352,.mov (.t 354),none⟩])
 (.cond (.t 352)
 (.skip)
 (.reg [⟨some 355,.ar .eql (.t 350) (.c (.lit (.int .i64 8))),none⟩,
 ⟨some 352,.mov (.t 355),none⟩])))))
 (.cond (.t 352)
 (.regD [(.pure, ⟨some 356,.mov (.t 0),none⟩),
  (.read 0 0, ⟨some 357,.fieldA 2 (.t 18),none⟩),
  (.read 0 0, ⟨some 358,.load none (.t 357),none⟩),
  (.pure, ⟨some 359,.mov (.t 0),none⟩),
  (.read 0 0, ⟨some 360,.chk (.t 359),none⟩),
  (.read 0 0, ⟨some 361,.fieldA 8 (.t 360),none⟩),
  (.read 0 0, ⟨some 362,.load none (.t 361),none⟩),
  (.read 0 0, ⟨some 363,.fieldA 1 (.t 18),none⟩),
  (.read 0 0, ⟨some 364,.load none (.t 363),none⟩),
  (.read 0 0, ⟨some 365,.idxA 1 (.t 362) (.t 364),none⟩),
  (.read 0 0, ⟨some 366,.load none (.t 365),none⟩),
  (.loud true [], ⟨some 367,.call (.c (.fn (.func 202) [] [])) [(.t 356), (.t 358), (.t 366)],none⟩)])
 (.reg [⟨some 351,.call (.c (.fn (.func 163) [] [])) [(.c (.lit (.int .i64 2)))],none⟩])))))))))
 (.reg [⟨some 368,.ar .add (.t 305) (.c (.lit (.int .i64 1))),none⟩,
 ⟨some 305,.mov (.t 368),none⟩]))))))))))))⟩
def f162 : F := ⟨16, [.cell 2 (some 4)], none, .seq (.reg [⟨some 1,.box (.t 0),none⟩,
 ⟨some 2,.alloc [.lit (.slice none 0 0), .lit (.slice none 0 0), .lit (.slice none 0 0), .lit (.slice none 0 0)],none⟩])
 (.seq (.regD [(.read 0 0, ⟨some 3,.fieldA 0 (.t 1),none⟩),
  (.read 0 0, ⟨some 4,.load none (.t 3),none⟩),
  (.loud false [], ⟨some 5,.call (.c (.fn (.func 204) [] [])) [(.t 4), (.c (.fn (.func 205) [] []))],none⟩),
  (.read 0 1, ⟨some 6,.fieldA 1 (.t 1),none⟩),
  (.read 0 1, ⟨some 7,.load none (.t 6),none⟩),
  (.loud false [], ⟨some 8,.call (.c (.fn (.func 206) [] [])) [(.t 7), (.c (.fn (.func 207) [] []))],none⟩),
  (.read 0 2, ⟨some 9,.fieldA 2 (.t 1),none⟩),
  (.read 0 2, ⟨some 10,.load none (.t 9),none⟩),
  (.loud false [], ⟨some 11,.call (.c (.fn (.func 209) [] [])) [(.t 10), (.c (.fn (.func 210) [] []))],none⟩),
  (.read 0 3, ⟨some 12,.fieldA 3 (.t 1),none⟩),
  (.read 0 3, ⟨some 13,.load none (.t 12),none⟩),
  (.loud true [], ⟨some 14,.call (.c (.fn (.func 212) [] [])) [(.t 13), (.c (.fn (.func 213) [] []))],none⟩),
  (.pure, ⟨some 15,.build [.lit (.slice none 0 0), .lit (.slice none 0 0), .lit (.slice none 0 0), .lit (.slice none 0 0)] [(0, 1, (.t 5)), (1, 1, (.t 8)), (2, 1, (.t 11)), (3, 1, (.t 14))],none⟩),
  (.loud true [], ⟨none, .store 4 (.t 2) (.t 15),none⟩)])
 (.ret))⟩
def f163 : F := ⟨5, [], none, .reg [⟨some 2,.mov (.t 0),none⟩,
 ⟨some 3,.build [.lit (.int .i64 0)] [(0, 1, (.t 2))],none⟩,
 ⟨some 4,.iface 254 (.t 3),none⟩,
 ⟨none, .panic (.t 4),none⟩]⟩
def f164 : F := ⟨8, [.tmp 2], none, .seq (.reg [⟨some 2,.mov (.c (.lit (.slice none 0 0))),none⟩])
 (.seq (.seq (.reg [⟨some 3,.mov (.t 0),none⟩,
 ⟨some 4,.eqNil false .slc (.t 3),none⟩])
 (.cond (.t 4)
 (.seq (.reg [⟨some 2,.mov (.c (.lit (.slice none 0 0))),none⟩])
 (.ret))
 (.skip)))
 (.seq (.reg [⟨some 5,.lits 2 0 [] [],none⟩,
 ⟨some 6,.mov (.t 0),none⟩,
 ⟨some 7,.app 2 16 (.t 5) (.t 6),none⟩,
 ⟨some 2,.mov (.t 7),none⟩])
 (.ret)))⟩
def f165 : F := ⟨9, [.tmp 4], none, .seq (.reg [⟨some 4,.mov (.c (.lit (.bool false))),none⟩])
 (.seq (.reg [⟨some 5,.mov (.t 0),none⟩,
 ⟨some 6,.mov (.t 1),none⟩,
 ⟨some 7,.call (.c (.fn (.func 214) [] [])) [(.t 5), (.t 6)],none⟩,
 ⟨some 8,.ar .geq (.t 7) (.c (.lit (.int .i64 0))),none⟩,
 ⟨some 4,.mov (.t 8),none⟩])
 (.ret))⟩
def f166 : F := ⟨8, [.tmp 3], none, .seq (.reg [⟨some 3,.mov (.c (.lit (.bool false))),none⟩])
 (.seq (.reg [⟨some 4,.load none (.t 1),none⟩,
 ⟨some 5,.mov (.t 0),none⟩,
 ⟨some 6,.call (.t 4) [(.t 5)],none⟩,
 ⟨some 7,.not (.t 6),none⟩,
 ⟨some 3,.mov (.t 7),none⟩])
 (.ret))⟩
def f167 : F := ⟨9, [.tmp 4], none, .seq (.reg [⟨some 4,.mov (.c (.lit (.bool false))),none⟩])
 (.seq (.reg [⟨some 5,.mov (.t 0),none⟩,
 ⟨some 6,.mov (.t 1),none⟩,
 ⟨some 7,.call (.c (.fn (.func 215) [] [])) [(.t 5), (.t 6)],none⟩,
 ⟨some 8,.ar .geq (.t 7) (.c (.lit (.int .i64 0))),none⟩,
 ⟨some 4,.mov (.t 8),none⟩])
 (.ret))⟩
def f168 : F := ⟨8, [.tmp 3], none, .seq (.reg [⟨some 2,.box (.t 0),none⟩,
 ⟨some 3,.mov (.c (.lit (.bool false))),none⟩])
 (.seq (.reg [⟨some 4,.load none (.t 1),none⟩,
 ⟨some 5,.load (some 1) (.t 2),none⟩,
 ⟨some 6,.call (.t 4) [(.t 5)],none⟩,
 ⟨some 7,.not (.t 6),none⟩,
 ⟨some 3,.mov (.t 7),none⟩])
 (.ret))⟩
def f169 : F := ⟨9, [.tmp 4], none, .seq (.reg [⟨some 4,.mov (.c (.lit (.bool false))),none⟩])
 (.seq (.reg [⟨some 5,.mov (.t 0),none⟩,
 ⟨some 6,.mov (.t 1),none⟩,
 ⟨some 7,.call (.c (.fn (.func 216) [] [])) [(.t 5), (.t 6)],none⟩,
 ⟨some 8,.ar .geq (.t 7) (.c (.lit (.int .i64 0))),none⟩,
 ⟨some 4,.mov (.t 8),none⟩])
 (.ret))⟩
def f170 : F := ⟨8, [.tmp 3], none, .seq (.reg [⟨some 2,.box (.t 0),none⟩,
 ⟨some 3,.mov (.c (.lit (.bool false))),none⟩])
 (.seq (.reg [⟨some 4,.load none (.t 1),none⟩,
 ⟨some 5,.load (some 2) (.t 2),none⟩,
 ⟨some 6,.call (.t 4) [(.t 5)],none⟩,
 ⟨some 7,.not (.t 6),none⟩,
 ⟨some 3,.mov (.t 7),none⟩])
 (.ret))⟩
def f171 : F := ⟨9, [.tmp 4], none, .seq (.reg [⟨some 4,.mov (.c (.lit (.bool false))),none⟩])
 (.seq (.reg [⟨some 5,.mov (.t 0),none⟩,
 ⟨some 6,.mov (.t 1),none⟩,
 ⟨some 7,.call (.c (.fn (.func 217) [] [])) [(.t 5), (.t 6)],none⟩,
 ⟨some 8,.ar .geq (.t 7) (.c (.lit (.int .i64 0))),none⟩,
 ⟨some 4,.mov (.t 8),none⟩])
 (.ret))⟩
def f172 : F := ⟨8, [.tmp 3], none, .seq (.reg [⟨some 2,.box (.t 0),none⟩,
 ⟨some 3,.mov (.c (.lit (.bool false))),none⟩])
 (.seq (.reg [⟨some 4,.load none (.t 1),none⟩,
 ⟨some 5,.load (some 2) (.t 2),none⟩,
 ⟨some 6,.call (.t 4) [(.t 5)],none⟩,
 ⟨some 7,.not (.t 6),none⟩,
 ⟨some 3,.mov (.t 7),none⟩])
 (.ret))⟩
def f173 : F := ⟨9, [.tmp 4], none, .seq (.reg [⟨some 4,.mov (.c (.lit (.bool false))),none⟩])
 (.seq (.reg [⟨some 5,.mov (.t 0),none⟩,
 ⟨some 6,.mov (.t 1),none⟩,
 ⟨some 7,.call (.c (.fn (.func 218) [] [])) [(.t 5), (.t 6)],none⟩,
 ⟨some 8,.ar .geq (.t 7) (.c (.lit (.int .i64 0))),none⟩,
 ⟨some 4,.mov (.t 8),none⟩])
 (.ret))⟩
def f174 : F := ⟨8, [.tmp 3], none, .seq (.reg [⟨some 2,.box (.t 0),none⟩,
 ⟨some 3,.mov (.c (.lit (.bool false))),none⟩])
 (.seq (.reg [⟨some 4,.load none (.t 1),none⟩,
 ⟨some 5,.load (some 4) (.t 2),none⟩,
 ⟨some 6,.call (.t 4) [(.t 5)],none⟩,
 ⟨some 7,.not (.t 6),none⟩,
 ⟨some 3,.mov (.t 7),none⟩])
 (.ret))⟩
def f175 : F := ⟨11, [.tmp 4, .tmp 5], none, .seq (.reg [⟨some 2,.box (.t 0),none⟩,
 ⟨some 3,.box (.t 1),none⟩,
 ⟨some 4,.mov (.c (.lit (.slice none 0 0))),none⟩,
 ⟨some 5,.mov (.c (.lit (.int .i64 0))),none⟩])
 (.seq (.reg [⟨some 6,.load (some 4) (.t 2),none⟩,
 ⟨some 7,.func (.func 220) [] [(.t 2), (.t 3)],none⟩,
 ⟨some 8,.call (.c (.fn (.func 219) [] [])) [(.t 6), (.t 7)],none⟩,
 ⟨some 9,.ext (.t 8) 0,none⟩,
 ⟨some 10,.ext (.t 8) 1,none⟩,
 ⟨some 4,.mov (.t 9),none⟩,
 ⟨some 5,.mov (.t 10),none⟩])
 (.ret))⟩
def f176 : F := ⟨12, [.tmp 4], none, .seq (.reg [⟨some 4,.mov (.c (.lit (.int .i64 0))),none⟩])
 (.seq (.reg [⟨some 5,.mov (.t 0),none⟩,
 ⟨some 6,.chk (.t 5),none⟩,
 ⟨some 7,.fieldA 4 (.t 6),none⟩,
 ⟨some 8,.load none (.t 7),none⟩,
 ⟨some 9,.mov (.t 1),none⟩,
 ⟨some 10,.idxA 1 (.t 8) (.t 9),none⟩,
 ⟨some 11,.load none (.t 10),none⟩,
 ⟨some 4,.mov (.t 11),none⟩])
 (.ret))⟩
def f177 : F := ⟨14, [], none, .seq (.reg [⟨some 4,.mov (.t 0),none⟩,
 ⟨some 5,.mov (.t 1),none⟩,
 ⟨some 6,.slice 3 (.t 4) none (some (.t 5)),none⟩,
 ⟨some 7,.call (.c (.fn (.func 221) [] [])) [(.t 6)],none⟩])
 (.seq (.reg [⟨some 8,.mov (.t 0),none⟩,
 ⟨some 9,.mov (.t 1),none⟩,
 ⟨some 10,.slice 3 (.t 8) (some (.t 9)) none,none⟩,
 ⟨some 11,.call (.c (.fn (.func 221) [] [])) [(.t 10)],none⟩])
 (.reg [⟨some 12,.mov (.t 0),none⟩,
 ⟨some 13,.call (.c (.fn (.func 221) [] [])) [(.t 12)],none⟩]))⟩
def f178 : F := ⟨40, [.tmp 4], none, .seq (.reg [⟨some 3,.box (.t 1),none⟩,
 ⟨some 4,.mov (.c (.lit (.int .i64 0))),none⟩])
 (.seq (.regD [(.pure, ⟨some 8,.mov (.t 0),none⟩),
  (.read 0 0, ⟨some 9,.chk (.t 8),none⟩),
  (.read 0 0, ⟨some 10,.fieldA 1 (.t 9),none⟩),
  (.read 0 0, ⟨some 11,.load none (.t 10),none⟩),
  (.read 0 0, ⟨some 12,.load (some 2) (.t 3),none⟩),
  (.read 0 0, ⟨some 13,.look (.many [.int .i64, .int .i64]) (.lit (.int .i64 0)) true (.t 11) (.t 12),none⟩),
  (.pure, ⟨some 7,.mov (.t 13),none⟩),
  (.pure, ⟨some 14,.ext (.t 7) 0,none⟩),
  (.pure, ⟨some 15,.ext (.t 7) 1,none⟩),
  (.pure, ⟨some 5,.mov (.t 14),none⟩),
  (.pure, ⟨some 6,.mov (.t 15),none⟩)])
 (.seq (.seq (.reg [⟨some 16,.mov (.t 6),none⟩,
 ⟨some 17,.not (.t 16),none⟩])
 (.cond (.t 17)
 (.seq (.reg [⟨some 18,.mov (.t 0),none⟩,
 ⟨some 19,.chk (.t 18),none⟩,
 ⟨some 20,.fieldA 0 (.t 19),none⟩,
 ⟨some 21,.load none (.t 20),none⟩,
 ⟨some 22,.len .slc (.t 21),none⟩,
 ⟨some 5,.mov (.t 22),none⟩])
 (.seq (.regD [(.pure, ⟨some 23,.mov (.t 0),none⟩),
  (.pure, ⟨some 24,.mov (.t 0),none⟩),
  (.read 0 0, ⟨some 25,.chk (.t 24),none⟩),
  (.read 0 0, ⟨some 26,.fieldA 0 (.t 25),none⟩),
  (.read 0 0, ⟨some 27,.load none (.t 26),none⟩),
  (.read 0 0, ⟨some 28,.load (some 2) (.t 3),none⟩),
  (.made, ⟨some 29,.lits 2 1 [.lit (.int .i64 0), .lit (.int .i64 0)] [(0, 2, (.t 28))],none⟩),
  (.loud true [], ⟨some 30,.app 2 16 (.t 27) (.t 29),none⟩),
  (.read 1 1, ⟨some 31,.chk (.t 23),none⟩),
  (.read 1 1, ⟨some 32,.fieldA 0 (.t 31),none⟩),
  (.loud true [], ⟨none, .store 1 (.t 32) (.t 30),none⟩)])
 (.regD [(.pure, ⟨some 33,.mov (.t 0),none⟩),
  (.read 0 0, ⟨some 34,.chk (.t 33),none⟩),
  (.read 0 0, ⟨some 35,.fieldA 1 (.t 34),none⟩),
  (.read 0 0, ⟨some 36,.load none (.t 35),none⟩),
  (.read 0 0, ⟨some 37,.load (some 2) (.t 3),none⟩),
  (.pure, ⟨some 38,.mov (.t 5),none⟩),
  (.loud true [], ⟨none, .upd (.many [.int .i64, .int .i64]) (.t 36) (.t 37) (.t 38),none⟩)])))
 (.skip)))
 (.seq (.reg [⟨some 39,.mov (.t 5),none⟩,
 ⟨some 4,.mov (.t 39),none⟩])
 (.ret))))⟩
def f195 : F := ⟨6, [.tmp 2], none, .seq (.reg [⟨some 2,.mov (.c (.lit (.int .i64 0))),none⟩])
 (.seq (.reg [⟨some 3,.mov (.t 0),none⟩,
 ⟨some 4,.max (.t 3) (.c (.lit (.int .i64 (-1000000000)))),none⟩,
 ⟨some 5,.min (.t 4) (.c (.lit (.int .i64 1000000000))),none⟩,
 ⟨some 2,.mov (.t 5),none⟩])
 (.ret))⟩
def f196 : F := ⟨123, [], none, .seq (.reg [⟨some 3,.box (.t 1),none⟩])
 (.seq (.regD [(.pure, ⟨some 10,.mov (.t 0),none⟩),
  (.read 0 0, ⟨some 11,.chk (.t 10),none⟩),
  (.read 0 0, ⟨some 12,.fieldA 4 (.t 11),none⟩),
  (.read 0 0, ⟨some 13,.fieldA 1 (.t 12),none⟩),
  (.read 0 0, ⟨some 14,.load none (.t 13),none⟩),
  (.read 0 0, ⟨some 15,.fieldA 0 (.t 3),none⟩),
  (.read 0 0, ⟨some 16,.load none (.t 15),none⟩),
  (.read 0 0, ⟨some 17,.idxA 4 (.t 14) (.t 16),none⟩),
  (.read 0 0, ⟨some 18,.load (some 4) (.t 17),none⟩),
  (.made, ⟨some 4,.alloc [.lit (.int .i64 0), .lit (.int .i64 0), .lit (.slice none 0 0), .lit (.slice none 0 0)],none⟩),
  (.loud true [], ⟨none, .store 4 (.t 4) (.t 18),none⟩)])
 (.seq (.reg [⟨some 5,.mov (.c (.lit (.slice none 0 0))),none⟩])
 (.seq (.seq (.reg [⟨some 19,.fieldA 2 (.t 4),none⟩,
 ⟨some 20,.load none (.t 19),none⟩,
 ⟨some 21,.len .slc (.t 20),none⟩,
 ⟨some 22,.mov (.c (.lit (.int .i64 0))),none⟩])
 (.block 0 (.loop (.seq (.reg [⟨some 23,.ar .lss (.t 22) (.t 21),none⟩])
 (.seq (.cond (.t 23)
 (.skip)
 (.exit 0))
 (.seq (.block 1 (.seq (.reg [⟨some 24,.idxA 3 (.t 20) (.t 22),none⟩,
 ⟨some 25,.load (some 3) (.t 24),none⟩,
 ⟨some 7,.alloc [.lit (.int .i64 0), .lit (.int .i64 0), .lit (.slice none 0 0)],none⟩,
 ⟨none, .store 3 (.t 7) (.t 25),none⟩])
 (.reg [⟨some 26,.mov (.t 5),none⟩,
 ⟨some 27,.load (some 3) (.t 7),none⟩,
 ⟨some 28,.fieldA 2 (.t 3),none⟩,
 ⟨some 29,.load none (.t 28),none⟩,
 ⟨some 30,.call (.c (.fn (.func 231) [] [])) [(.t 27), (.t 29)],none⟩,
 ⟨some 31,.lits 2 1 [.lit (.int .i64 0), .lit (.int .i64 0)] [(0, 2, (.t 30))],none⟩,
 ⟨some 32,.app 2 16 (.t 26) (.t 31),none⟩,
 ⟨some 5,.mov (.t 32),none⟩])))
 (.reg [⟨some 33,.ar .add (.t 22) (.c (.lit (.int .i64 1))),none⟩,
 ⟨some 22,.mov (.t 33),none⟩])))))))
 (.seq (.reg [⟨some 34,.fieldA 2 (.t 3),none⟩,
 ⟨some 35,.load none (.t 34),none⟩,
 ⟨some 36,.fieldA 1 (.t 4),none⟩,
 ⟨some 37,.load none (.t 36),none⟩,
 ⟨some 38,.idxA 2 (.t 35) (.t 37),none⟩,
 ⟨some 39,.load (some 2) (.t 38),none⟩,
 ⟨some 8,.alloc [.lit (.int .i64 0), .lit (.int .i64 0)],none⟩,
 ⟨none, .store 2 (.t 8) (.t 39),none⟩])
 (.seq (.reg [⟨some 40,.fieldA 0 (.t 8),none⟩,
 ⟨some 41,.load none (.t 40),none⟩])
 (.block 2 (.seq (.reg [⟨some 43,.ar .eql (.t 41) (.c (.lit (.int .i64 2))),none⟩,
 ⟨some 42,.mov (.t 43),none⟩])
 (.cond (.t 42)
 (.reg [⟨some 44,.mov (.t 0),none⟩,
 ⟨some 45,.fieldA 1 (.t 3),none⟩,
 ⟨some 46,.load none (.t 45),none⟩,
 ⟨some 47,.fieldA 1 (.t 8),none⟩,
 ⟨some 48,.load none (.t 47),none⟩,
 ⟨some 49,.mov (.t 5),none⟩,
 ⟨some 50,.call (.c (.fn (.func 232) [] [])) [(.t 44), (.c (.lit (.int .i64 5))), (.t 46), (.t 48), (.c (.lit (.int .i64 0))), (.t 49)],none⟩])
 (.seq (.reg [⟨some 52,.ar .eql (.t 41) (.c (.lit (.int .i64 3))),none⟩,
 ⟨some 51,.mov (.t 52),none⟩])
 (.cond (.t 51)
 (.seq (.regD [(.pure, ⟨some 53,.mov (.t 0),none⟩),
  (.read 0 0, ⟨some 54,.chk (.t 53),none⟩),
  (.read 0 0, ⟨some 55,.fieldA 0 (.t 54),none⟩),
  (.read 0 0, ⟨some 56,.fieldA 2 (.t 55),none⟩),
  (.read 0 0, ⟨some 57,.load none (.t 56),none⟩),
  (.read 0 0, ⟨some 58,.fieldA 1 (.t 8),none⟩),
  (.read 0 0, ⟨some 59,.load none (.t 58),none⟩),
  (.read 0 0, ⟨some 60,.idxA 4 (.t 57) (.t 59),none⟩),
  (.pure, ⟨some 9,.mov (.t 60),none⟩)])
 (.seq (.regD [(.pure, ⟨some 61,.mov (.t 0),none⟩),
  (.read 0 0, ⟨some 62,.chk (.t 61),none⟩),
  (.read 0 0, ⟨some 63,.fieldA 0 (.t 62),none⟩),
  (.read 0 0, ⟨some 64,.fieldA 0 (.t 63),none⟩),
  (.read 0 0, ⟨some 65,.load none (.t 64),none⟩),
  (.pure, ⟨some 66,.mov (.t 9),none⟩),
  (.read 0 0, ⟨some 67,.chk (.t 66),none⟩),
  (.read 0 0, ⟨some 68,.fieldA 2 (.t 67),none⟩),
  (.read 0 0, ⟨some 69,.load none (.t 68),none⟩),
  (.read 0 0, ⟨some 70,.idxA 2 (.t 65) (.t 69),none⟩),
  (.read 0 0, ⟨some 71,.fieldA 1 (.t 70),none⟩),
  (.read 0 0, ⟨some 72,.load none (.t 71),none⟩),
  (.pure, ⟨some 73,.not (.t 72),none⟩),
  (.pure, ⟨some 74,.mov (.t 73),none⟩),
  (.pure, ⟨some 75,.mov (.t 0), (some (74, true))⟩),
  (.read 0 0, ⟨some 76,.chk (.t 75), (some (74, true))⟩),
  (.read 0 0, ⟨some 77,.fieldA 4 (.t 76), (some (74, true))⟩),
  (.read 0 0, ⟨some 78,.fieldA 2 (.t 77), (some (74, true))⟩),
  (.read 0 0, ⟨some 79,.load none (.t 78), (some (74, true))⟩),
  (.pure, ⟨some 80,.mov (.t 0), (some (74, true))⟩),
  (.read 0 0, ⟨some 81,.chk (.t 80), (some (74, true))⟩),
  (.read 0 0, ⟨some 82,.fieldA 0 (.t 81), (some (74, true))⟩),
  (.read 0 0, ⟨some 83,.fieldA 1 (.t 82), (some (74, true))⟩),
  (.read 0 0, ⟨some 84,.load none (.t 83), (some (74, true))⟩),
  (.pure, ⟨some 85,.mov (.t 9), (some (74, true))⟩),
  (.read 0 0, ⟨some 86,.chk (.t 85), (some (74, true))⟩),
  (.read 0 0, ⟨some 87,.fieldA 0 (.t 86), (some (74, true))⟩),
  (.read 0 0, ⟨some 88,.load none (.t 87), (some (74, true))⟩),
  (.read 0 0, ⟨some 89,.idxA 3 (.t 84) (.t 88), (some (74, true))⟩),
  (.read 0 0, ⟨some 90,.fieldA 0 (.t 89), (some (74, true))⟩),
  (.read 0 0, ⟨some 91,.load none (.t 90), (some (74, true))⟩),
  (.read 0 0, ⟨some 92,.idxA 3 (.t 79) (.t 91), (some (74, true))⟩),
  (.read 0 0, ⟨some 93,.fieldA 0 (.t 92), (some (74, true))⟩),
  (.read 0 0, ⟨some 94,.load none (.t 93), (some (74, true))⟩),
  (.pure, ⟨some 95,.mov (.t 9), (some (74, true))⟩),
  (.read 0 0, ⟨some 96,.chk (.t 95), (some (74, true))⟩),
  (.read 0 0, ⟨some 97,.fieldA 1 (.t 96), (some (74, true))⟩),
  (.read 0 0, ⟨some 98,.load none (.t 97), (some (74, true))⟩),
  (.read 0 0, ⟨some 99,.idxA 2 (.t 94) (.t 98), (some (74, true))⟩),
  (.read 0 0, ⟨some 100,.fieldA 1 (.t 99), (some (74, true))⟩),
  (.read 0 0, ⟨some 101,.load none (.t 100), (some (74, true))⟩),
  (.pure, ⟨some 102,.mov (.t 5), (some (74, true))⟩),
  (.read 0 0, ⟨some 103,.len .slc (.t 102), (some (74, true))⟩),
  (.pure, ⟨some 104,.ar .eql (.t 101) (.t 103), (some (74, true))⟩),
  (.pure, ⟨some 105,.pick (.t 74) (.t 104) (.c (.lit (.bool false))),none⟩)])
 (.cond (.t 105)
 (.seq (.reg [⟨some 106,.mov (.t 9),none⟩,
 ⟨some 107,.mov (.t 9),none⟩,
 ⟨some 108,.chk (.t 107),none⟩,
 ⟨some 109,.fieldA 3 (.t 108),none⟩,
 ⟨some 110,.load none (.t 109),none⟩,
 ⟨some 111,.mov (.t 5),none⟩,
 ⟨some 112,.build [.lit (.slice none 0 0)] [(0, 1, (.t 111))],none⟩,
 ⟨some 113,.lits 1 1 [.lit (.slice none 0 0)] [(0, 1, (.t 112))],none⟩,
 ⟨some 114,.app 1 24 (.t 110) (.t 113),none⟩,
 ⟨some 115,.chk (.t 106),none⟩,
 ⟨some 116,.fieldA 3 (.t 115),none⟩,
 ⟨none, .store 1 (.t 116) (.t 114),none⟩])
 (.reg [⟨some 117,.mov (.t 9),none⟩,
 ⟨some 118,.chk (.t 117),none⟩,
 ⟨some 119,.fieldA 3 (.t 118),none⟩,
 ⟨some 120,.load none (.t 119),none⟩,
 ⟨some 121,.len .slc (.t 120),none⟩,
 ⟨some 122,.call (.c (.fn (.func 233) [] [])) [(.t 121), (.c (.lit (.int .i64 12)))],none⟩]))
 (.skip))))
 (.skip)))))))))))⟩
def f197 : F := ⟨29, [], none, .seq (.reg [⟨some 3,.box (.t 1),none⟩])
 (.seq (.regD [(.pure, ⟨some 6,.mov (.t 0),none⟩),
  (.read 0 0, ⟨some 7,.chk (.t 6),none⟩),
  (.read 0 0, ⟨some 8,.fieldA 4 (.t 7),none⟩),
  (.read 0 0, ⟨some 9,.fieldA 1 (.t 8),none⟩),
  (.read 0 0, ⟨some 10,.load none (.t 9),none⟩),
  (.read 0 0, ⟨some 11,.fieldA 0 (.t 3),none⟩),
  (.read 0 0, ⟨some 12,.load none (.t 11),none⟩),
  (.read 0 0, ⟨some 13,.idxA 4 (.t 10) (.t 12),none⟩),
  (.read 0 0, ⟨some 14,.fieldA 3 (.t 13),none⟩),
  (.read 0 0, ⟨some 15,.load none (.t 14),none⟩),
  (.read 0 0, ⟨some 16,.len .slc (.t 15),none⟩),
  (.pure, ⟨some 17,.mov (.c (.lit (.int .i64 0))),none⟩)])
 (.block 0 (.loop (.seq (.reg [⟨some 18,.ar .lss (.t 17) (.t 16),none⟩])
 (.seq (.cond (.t 18)
 (.skip)
 (.exit 0))
 (.seq (.block 1 (.seq (.reg [⟨some 19,.idxA 1 (.t 15) (.t 17),none⟩,
 ⟨some 20,.load none (.t 19),none⟩,
 ⟨some 5,.mov (.t 20),none⟩])
 (.reg [⟨some 21,.mov (.t 0),none⟩,
 ⟨some 22,.mov (.t 5),none⟩,
 ⟨some 23,.fieldA 1 (.t 3),none⟩,
 ⟨some 24,.load none (.t 23),none⟩,
 ⟨some 25,.fieldA 2 (.t 3),none⟩,
 ⟨some 26,.load none (.t 25),none⟩,
 ⟨some 27,.call (.c (.fn (.func 234) [] [])) [(.t 21), (.t 22), (.t 24), (.t 26)],none⟩])))
 (.reg [⟨some 28,.ar .add (.t 17) (.c (.lit (.int .i64 1))),none⟩,
 ⟨some 17,.mov (.t 28),none⟩])))))))⟩
def f198 : F := ⟨204, [], none, .seq (.reg [⟨some 3,.box (.t 1),none⟩])
 (.seq (.regD [(.pure, ⟨some 15,.mov (.t 0),none⟩),
  (.read 0 0, ⟨some 16,.chk (.t 15),none⟩),
  (.read 0 0, ⟨some 17,.fieldA 4 (.t 16),none⟩),
  (.read 0 0, ⟨some 18,.fieldA 1 (.t 17),none⟩),
  (.read 0 0, ⟨some 19,.load none (.t 18),none⟩),
  (.read 0 0, ⟨some 20,.fieldA 0 (.t 3),none⟩),
  (.read 0 0, ⟨some 21,.load none (.t 20),none⟩),
  (.read 0 0, ⟨some 22,.idxA 4 (.t 19) (.t 21),none⟩),
  (.read 0 0, ⟨some 23,.load (some 4) (.t 22),none⟩),
  (.made, ⟨some 4,.alloc [.lit (.int .i64 0), .lit (.int .i64 0), .lit (.slice none 0 0), .lit (.slice none 0 0)],none⟩),
  (.loud true [], ⟨none, .store 4 (.t 4) (.t 23),none⟩)])
 (.seq (.regD [(.pure, ⟨some 24,.mov (.t 0),none⟩),
  (.read 0 0, ⟨some 25,.chk (.t 24),none⟩),
  (.read 0 0, ⟨some 26,.fieldA 4 (.t 25),none⟩),
  (.read 0 0, ⟨some 27,.fieldA 2 (.t 26),none⟩),
  (.read 0 0, ⟨some 28,.load none (.t 27),none⟩),
  (.read 0 0, ⟨some 29,.fieldA 1 (.t 4),none⟩),
  (.read 0 0, ⟨some 30,.load none (.t 29),none⟩),
  (.read 0 0, ⟨some 31,.idxA 3 (.t 28) (.t 30),none⟩),
  (.read 0 0, ⟨some 32,.load (some 3) (.t 31),none⟩),
  (.made, ⟨some 5,.alloc [.lit (.slice none 0 0), .lit (.slice none 0 0), .lit (.slice none 0 0)],none⟩),
  (.loud true [], ⟨none, .store 3 (.t 5) (.t 32),none⟩)])
 (.seq (.regD [(.read 0 1, ⟨some 33,.fieldA 1 (.t 4),none⟩),
  (.read 0 1, ⟨some 34,.load none (.t 33),none⟩),
  (.read 0 1, ⟨some 35,.fieldA 1 (.t 3),none⟩),
  (.read 0 1, ⟨some 36,.load none (.t 35),none⟩),
  (.read 0 0, ⟨some 37,.fieldA 2 (.t 3),none⟩),
  (.read 0 0, ⟨some 38,.load none (.t 37),none⟩),
  (.loud false [], ⟨some 39,.call (.c (.fn (.func 208) [] [])) [(.t 38)],none⟩),
  (.pure, ⟨some 40,.build [.lit (.int .i64 0), .lit (.int .i64 0), .lit (.slice none 0 0)] [(0, 1, (.t 34)), (1, 1, (.t 36)), (2, 1, (.t 39))],none⟩),
  (.made, ⟨some 6,.alloc [.lit (.int .i64 0), .lit (.int .i64 0), .lit (.slice none 0 0)],none⟩),
  (.loud true [], ⟨none, .store 3 (.t 6) (.t 40),none⟩)])
 (.seq (.seq (.reg [⟨some 41,.fieldA 0 (.t 5),none⟩,
 ⟨some 42,.load none (.t 41),none⟩,
 ⟨some 43,.len .slc (.t 42),none⟩,
 ⟨some 44,.mov (.c (.lit (.int .i64 0))),none⟩])
 (.block 0 (.loop (.seq (.reg [⟨some 45,.ar .lss (.t 44) (.t 43),none⟩])
 (.seq (.cond (.t 45)
 (.skip)
 (.exit 0))
 (.seq (.block 1 (.seq (.reg [⟨some 46,.mov (.t 44),none⟩,
 ⟨some 7,.mov (.t 46),none⟩])
 (.regD [(.read 0 0, ⟨some 47,.fieldA 2 (.t 6),none⟩),
  (.read 0 0, ⟨some 48,.load none (.t 47),none⟩),
  (.pure, ⟨some 49,.mov (.t 0),none⟩),
  (.read 0 0, ⟨some 50,.chk (.t 49),none⟩),
  (.read 0 0, ⟨some 51,.fieldA 0 (.t 50),none⟩),
  (.read 0 0, ⟨some 52,.fieldA 2 (.t 51),none⟩),
  (.read 0 0, ⟨some 53,.load none (.t 52),none⟩),
  (.read 0 0, ⟨some 54,.len .slc (.t 53),none⟩),
  (.pure, ⟨some 55,.mov (.t 7),none⟩),
  (.pure, ⟨some 56,.ar .add (.t 54) (.t 55),none⟩),
  (.pure, ⟨some 57,.build [.lit (.int .i64 0), .lit (.int .i64 0)] [(0, 1, (.c (.lit (.int .i64 3)))), (1, 1, (.t 56))],none⟩),
  (.made, ⟨some 58,.lits 2 1 [.lit (.int .i64 0), .lit (.int .i64 0)] [(0, 2, (.t 57))],none⟩),
  (.loud true [], ⟨some 59,.app 2 16 (.t 48) (.t 58),none⟩),
  (.read 1 1, ⟨some 60,.fieldA 2 (.t 6),none⟩),
  (.loud true [], ⟨none, .store 1 (.t 60) (.t 59),none⟩)])))
 (.reg [⟨some 61,.ar .add (.t 44) (.c (.lit (.int .i64 1))),none⟩,
 ⟨some 44,.mov (.t 61),none⟩])))))))
 (.seq (.seq (.reg [⟨some 62,.fieldA 1 (.t 5),none⟩,
 ⟨some 63,.load none (.t 62),none⟩,
 ⟨some 64,.len .slc (.t 63),none⟩,
 ⟨some 65,.mov (.c (.lit (.int .i64 0))),none⟩])
 (.block 2 (.loop (.seq (.reg [⟨some 66,.ar .lss (.t 65) (.t 64),none⟩])
 (.seq (.cond (.t 66)
 (.skip)
 (.exit 2))
 (.seq (.block 3 (.seq (.reg [⟨some 67,.mov (.t 65),none⟩,
 ⟨some 8,.mov (.t 67),none⟩])
 (.regD [(.read 0 0, ⟨some 68,.fieldA 2 (.t 6),none⟩),
  (.read 0 0, ⟨some 69,.load none (.t 68),none⟩),
  (.pure, ⟨some 70,.mov (.t 0),none⟩),
  (.read 0 0, ⟨some 71,.chk (.t 70),none⟩),
  (.read 0 0, ⟨some 72,.fieldA 0 (.t 71),none⟩),
  (.read 0 0, ⟨some 73,.fieldA 0 (.t 72),none⟩),
  (.read 0 0, ⟨some 74,.load none (.t 73),none⟩),
  (.read 0 0, ⟨some 75,.len .slc (.t 74),none⟩),
  (.pure, ⟨some 76,.mov (.t 8),none⟩),
  (.pure, ⟨some 77,.ar .add (.t 75) (.t 76),none⟩),
  (.pure, ⟨some 78,.build [.lit (.int .i64 0), .lit (.int .i64 0)] [(0, 1, (.c (.lit (.int .i64 4)))), (1, 1, (.t 77))],none⟩),
  (.made, ⟨some 79,.lits 2 1 [.lit (.int .i64 0), .lit (.int .i64 0)] [(0, 2, (.t 78))],none⟩),
  (.loud true [], ⟨some 80,.app 2 16 (.t 69) (.t 79),none⟩),
  (.read 1 1, ⟨some 81,.fieldA 2 (.t 6),none⟩),
  (.loud true [], ⟨none, .store 1 (.t 81) (.t 80),none⟩)])))
 (.reg [⟨some 82,.ar .add (.t 65) (.c (.lit (.int .i64 1))),none⟩,
 ⟨some 65,.mov (.t 82),none⟩])))))))
 (.seq (.seq (.reg [⟨some 83,.fieldA 0 (.t 5),none⟩,
 ⟨some 84,.load none (.t 83),none⟩,
 ⟨some 85,.len .slc (.t 84),none⟩,
 ⟨some 86,.mov (.c (.lit (.int .i64 0))),none⟩])
 (.block 4 (.loop (.seq (.reg [⟨some 87,.ar .lss (.t 86) (.t 85),none⟩])
 (.seq (.cond (.t 87)
 (.skip)
 (.exit 4))
 (.seq (.block 5 (.seq (.reg [⟨some 88,.mov (.t 86),none⟩,
 ⟨some 89,.idxA 2 (.t 84) (.t 86),none⟩,
 ⟨some 90,.load (some 2) (.t 89),none⟩,
 ⟨some 10,.alloc [.lit (.int .i64 0), .lit (.int .i64 0)],none⟩,
 ⟨some 9,.mov (.t 88),none⟩,
 ⟨none, .store 2 (.t 10) (.t 90),none⟩])
 (.regD [(.pure, ⟨some 91,.mov (.t 0),none⟩),
  (.pure, ⟨some 92,.mov (.t 0),none⟩),
  (.read 0 1, ⟨some 93,.chk (.t 92),none⟩),
  (.read 0 1, ⟨some 94,.fieldA 0 (.t 93),none⟩),
  (.read 0 1, ⟨some 95,.fieldA 2 (.t 94),none⟩),
  (.read 0 1, ⟨some 96,.load none (.t 95),none⟩),
  (.pure, ⟨some 97,.mov (.t 0),none⟩),
  (.read 0 1, ⟨some 98,.chk (.t 97),none⟩),
  (.read 0 1, ⟨some 99,.fieldA 0 (.t 98),none⟩),
  (.read 0 1, ⟨some 100,.fieldA 1 (.t 99),none⟩),
  (.read 0 1, ⟨some 101,.load none (.t 100),none⟩),
  (.read 0 1, ⟨some 102,.len .slc (.t 101),none⟩),
  (.pure, ⟨some 103,.mov (.t 9),none⟩),
  (.pure, ⟨some 104,.mov (.t 0),none⟩),
  (.read 0 0, ⟨some 105,.load (some 3) (.t 6),none⟩),
  (.read 0 0, ⟨some 106,.fieldA 0 (.t 10),none⟩),
  (.read 0 0, ⟨some 107,.load none (.t 106),none⟩),
  (.loud true [], ⟨some 108,.call (.c (.fn (.func 203) [] [])) [(.t 104), (.t 105), (.t 107)],none⟩),
  (.pure, ⟨some 109,.build [.lit (.int .i64 0), .lit (.int .i64 0), .lit (.int .i64 0), .lit (.slice none 0 0)] [(0, 1, (.t 102)), (1, 1, (.t 103)), (2, 1, (.t 108))],none⟩),
  (.made, ⟨some 110,.lits 4 1 [.lit (.int .i64 0), .lit (.int .i64 0), .lit (.int .i64 0), .lit (.slice none 0 0)] [(0, 4, (.t 109))],none⟩),
  (.loud true [], ⟨some 111,.app 4 48 (.t 96) (.t 110),none⟩),
  (.read 2 2, ⟨some 112,.chk (.t 91),none⟩),
  (.read 2 2, ⟨some 113,.fieldA 0 (.t 112),none⟩),
  (.read 2 2, ⟨some 114,.fieldA 2 (.t 113),none⟩),
  (.loud true [], ⟨none, .store 1 (.t 114) (.t 111),none⟩)])))
 (.reg [⟨some 115,.ar .add (.t 86) (.c (.lit (.int .i64 1))),none⟩,
 ⟨some 86,.mov (.t 115),none⟩])))))))
 (.seq (.seq (.reg [⟨some 116,.fieldA 1 (.t 5),none⟩,
 ⟨some 117,.load none (.t 116),none⟩,
 ⟨some 118,.len .slc (.t 117),none⟩,
 ⟨some 119,.mov (.c (.lit (.int .i64 0))),none⟩])
 (.block 6 (.loop (.seq (.reg [⟨some 120,.ar .lss (.t 119) (.t 118),none⟩])
 (.seq (.cond (.t 120)
 (.skip)
 (.exit 6))
 (.seq (.block 7 (.seq (.reg [⟨some 121,.idxA 2 (.t 117) (.t 119),none⟩,
 ⟨some 122,.load (some 2) (.t 121),none⟩,
 ⟨some 12,.alloc [.lit (.int .i64 0), .lit (.int .i64 0)],none⟩,
 ⟨none, .store 2 (.t 12) (.t 122),none⟩])
 (.regD [(.pure, ⟨some 123,.mov (.t 0),none⟩),
  (.pure, ⟨some 124,.mov (.t 0),none⟩),
  (.read 0 1, ⟨some 125,.chk (.t 124),none⟩),
  (.read 0 1, ⟨some 126,.fieldA 0 (.t 125),none⟩),
  (.read 0 1, ⟨some 127,.fieldA 0 (.t 126),none⟩),
  (.read 0 1, ⟨some 128,.load none (.t 127),none⟩),
  (.pure, ⟨some 129,.mov (.t 0),none⟩),
  (.read 0 0, ⟨some 130,.load (some 3) (.t 6),none⟩),
  (.read 0 0, ⟨some 131,.fieldA 0 (.t 12),none⟩),
  (.read 0 0, ⟨some 132,.load none (.t 131),none⟩),
  (.loud true [], ⟨some 133,.call (.c (.fn (.func 203) [] [])) [(.t 129), (.t 130), (.t 132)],none⟩),
  (.pure, ⟨some 134,.build [.lit (.int .i64 0), .lit (.bool false)] [(0, 1, (.t 133))],none⟩),
  (.made, ⟨some 135,.lits 2 1 [.lit (.int .i64 0), .lit (.bool false)] [(0, 2, (.t 134))],none⟩),
  (.loud true [], ⟨some 136,.app 2 16 (.t 128) (.t 135),none⟩),
  (.read 2 2, ⟨some 137,.chk (.t 123),none⟩),
  (.read 2 2, ⟨some 138,.fieldA 0 (.t 137),none⟩),
  (.read 2 2, ⟨some 139,.fieldA 0 (.t 138),none⟩),
  (.loud true [], ⟨none, .store 1 (.t 139) (.t 136),none⟩)])))
 (.reg [⟨some 140,.ar .add (.t 119) (.c (.lit (.int .i64 1))),none⟩,
 ⟨some 119,.mov (.t 140),none⟩])))))))
 (.seq (.regD [(.pure, ⟨some 141,.mov (.t 0),none⟩),
  (.pure, ⟨some 142,.mov (.t 0),none⟩),
  (.read 0 0, ⟨some 143,.chk (.t 142),none⟩),
  (.read 0 0, ⟨some 144,.fieldA 0 (.t 143),none⟩),
  (.read 0 0, ⟨some 145,.fieldA 1 (.t 144),none⟩),
  (.read 0 0, ⟨some 146,.load none (.t 145),none⟩),
  (.read 0 0, ⟨some 147,.load (some 3) (.t 6),none⟩),
  (.made, ⟨some 148,.lits 3 1 [.lit (.int .i64 0), .lit (.int .i64 0), .lit (.slice none 0 0)] [(0, 3, (.t 147))],none⟩),
  (.loud true [], ⟨some 149,.app 3 40 (.t 146) (.t 148),none⟩),
  (.read 1 1, ⟨some 150,.chk (.t 141),none⟩),
  (.read 1 1, ⟨some 151,.fieldA 0 (.t 150),none⟩),
  (.read 1 1, ⟨some 152,.fieldA 1 (.t 151),none⟩),
  (.loud true [], ⟨none, .store 1 (.t 152) (.t 149),none⟩)])
 (.seq (.reg [⟨some 153,.mov (.t 0),none⟩,
 ⟨some 154,.chk (.t 153),none⟩,
 ⟨some 155,.fieldA 0 (.t 154),none⟩,
 ⟨some 156,.fieldA 2 (.t 155),none⟩,
 ⟨some 157,.load none (.t 156),none⟩,
 ⟨some 158,.len .slc (.t 157),none⟩,
 ⟨some 159,.call (.c (.fn (.func 233) [] [])) [(.t 158), (.c (.lit (.int .i64 60)))],none⟩])
 (.seq (.reg [⟨some 160,.mov (.t 0),none⟩,
 ⟨some 161,.chk (.t 160),none⟩,
 ⟨some 162,.fieldA 0 (.t 161),none⟩,
 ⟨some 163,.fieldA 0 (.t 162),none⟩,
 ⟨some 164,.load none (.t 163),none⟩,
 ⟨some 165,.len .slc (.t 164),none⟩,
 ⟨some 166,.call (.c (.fn (.func 233) [] [])) [(.t 165), (.c (.lit (.int .i64 24)))],none⟩])
 (.seq (.reg [⟨some 167,.mov (.t 0),none⟩,
 ⟨some 168,.chk (.t 167),none⟩,
 ⟨some 169,.fieldA 0 (.t 168),none⟩,
 ⟨some 170,.fieldA 1 (.t 169),none⟩,
 ⟨some 171,.load none (.t 170),none⟩,
 ⟨some 172,.len .slc (.t 171),none⟩,
 ⟨some 173,.call (.c (.fn (.func 233) [] [])) [(.t 172), (.c (.lit (.int .i64 40)))],none⟩])
 (.seq (.seq (.reg [⟨some 174,.fieldA 1 (.t 5),none⟩,
 ⟨some 175,.load none (.t 174),none⟩,
 ⟨some 176,.len .slc (.t 175),none⟩,
 ⟨some 177,.mov (.c (.lit (.int .i64 0))),none⟩])
 (.block 8 (.loop (.seq (.reg [⟨some 178,.ar .lss (.t 177) (.t 176),none⟩])
 (.seq (.cond (.t 178)
 (.skip)
 (.exit 8))
 (.seq (.block 9 (.seq (.reg [⟨some 179,.mov (.t 177),none⟩,
 ⟨some 180,.idxA 2 (.t 175) (.t 177),none⟩,
 ⟨some 181,.load (some 2) (.t 180),none⟩,
 ⟨some 14,.alloc [.lit (.int .i64 0), .lit (.int .i64 0)],none⟩,
 ⟨some 13,.mov (.t 179),none⟩,
 ⟨none, .store 2 (.t 14) (.t 181),none⟩])
 (.regD [(.pure, ⟨some 182,.mov (.t 0),none⟩),
  (.read 0 1, ⟨some 183,.fieldA 1 (.t 14),none⟩),
  (.read 0 1, ⟨some 184,.load none (.t 183),none⟩),
  (.pure, ⟨some 185,.mov (.t 0),none⟩),
  (.read 0 0, ⟨some 186,.load (some 3) (.t 6),none⟩),
  (.pure, ⟨some 187,.mov (.t 13),none⟩),
  (.pure, ⟨some 188,.ar .add (.t 187) (.c (.lit (.int .i64 1))),none⟩),
  (.loud false [], ⟨some 189,.call (.c (.fn (.func 203) [] [])) [(.t 185), (.t 186), (.t 188)],none⟩),
  (.read 0 1, ⟨some 190,.fieldA 2 (.t 6),none⟩),
  (.read 0 1, ⟨some 191,.load none (.t 190),none⟩),
  (.loud true [], ⟨some 192,.call (.c (.fn (.func 234) [] [])) [(.t 182), (.t 184), (.t 189), (.t 191)],none⟩)])))
 (.reg [⟨some 193,.ar .add (.t 177) (.c (.lit (.int .i64 1))),none⟩,
 ⟨some 177,.mov (.t 193),none⟩])))))))
 (.regD [(.pure, ⟨some 194,.mov (.t 0),none⟩),
  (.read 0 0, ⟨some 195,.fieldA 3 (.t 4),none⟩),
  (.read 0 0, ⟨some 196,.load none (.t 195),none⟩),
  (.read 0 0, ⟨some 197,.idxA 1 (.t 196) (.c (.lit (.int .i64 0))),none⟩),
  (.read 0 0, ⟨some 198,.load none (.t 197),none⟩),
  (.read 0 0, ⟨some 199,.fieldA 1 (.t 3),none⟩),
  (.read 0 0, ⟨some 200,.load none (.t 199),none⟩),
  (.read 0 0, ⟨some 201,.fieldA 2 (.t 6),none⟩),
  (.read 0 0, ⟨some 202,.load none (.t 201),none⟩),
  (.loud true [], ⟨some 203,.call (.c (.fn (.func 234) [] [])) [(.t 194), (.t 198), (.t 200), (.t 202)],none⟩)])))))))))))))⟩
def f199 : F := ⟨34, [], none, .seq (.reg [⟨some 3,.box (.t 1),none⟩])
 (.seq (.regD [(.pure, ⟨some 5,.mov (.t 0),none⟩),
  (.read 0 0, ⟨some 6,.chk (.t 5),none⟩),
  (.read 0 0, ⟨some 7,.fieldA 4 (.t 6),none⟩),
  (.read 0 0, ⟨some 8,.fieldA 1 (.t 7),none⟩),
  (.read 0 0, ⟨some 9,.load none (.t 8),none⟩),
  (.read 0 0, ⟨some 10,.fieldA 0 (.t 3),none⟩),
  (.read 0 0, ⟨some 11,.load none (.t 10),none⟩),
  (.read 0 0, ⟨some 12,.idxA 4 (.t 9) (.t 11),none⟩),
  (.read 0 0, ⟨some 13,.load (some 4) (.t 12),none⟩),
  (.made, ⟨some 4,.alloc [.lit (.int .i64 0), .lit (.int .i64 0), .lit (.slice none 0 0), .lit (.slice none 0 0)],none⟩),
  (.loud true [], ⟨none, .store 4 (.t 4) (.t 13),none⟩)])
 (.regD [(.pure, ⟨some 14,.mov (.t 0),none⟩),
  (.read 0 3, ⟨some 15,.fieldA 3 (.t 4),none⟩),
  (.read 0 3, ⟨some 16,.load none (.t 15),none⟩),
  (.read 0 0, ⟨some 17,.fieldA 2 (.t 4),none⟩),
  (.read 0 0, ⟨some 18,.load none (.t 17),none⟩),
  (.read 0 0, ⟨some 19,.idxA 3 (.t 18) (.c (.lit (.int .i64 0))),none⟩),
  (.read 0 0, ⟨some 20,.load (some 3) (.t 19),none⟩),
  (.read 0 0, ⟨some 21,.fieldA 2 (.t 3),none⟩),
  (.read 0 0, ⟨some 22,.load none (.t 21),none⟩),
  (.loud false [], ⟨some 23,.call (.c (.fn (.func 231) [] [])) [(.t 20), (.t 22)],none⟩),
  (.loud false [], ⟨some 24,.call (.c (.fn (.func 236) [] [])) [(.t 23)],none⟩),
  (.pure, ⟨some 25,.ar .eql (.t 24) (.c (.lit (.int .i64 0))),none⟩),
  (.loud false [], ⟨some 26,.call (.c (.fn (.func 235) [] [])) [(.t 25)],none⟩),
  (.read 3 3, ⟨some 27,.idxA 1 (.t 16) (.t 26),none⟩),
  (.read 3 3, ⟨some 28,.load none (.t 27),none⟩),
  (.read 0 3, ⟨some 29,.fieldA 1 (.t 3),none⟩),
  (.read 0 3, ⟨some 30,.load none (.t 29),none⟩),
  (.read 0 3, ⟨some 31,.fieldA 2 (.t 3),none⟩),
  (.read 0 3, ⟨some 32,.load none (.t 31),none⟩),
  (.loud true [], ⟨some 33,.call (.c (.fn (.func 234) [] [])) [(.t 14), (.t 28), (.t 30), (.t 32)],none⟩)]))⟩
def f200 : F := ⟨30, [], none, .seq (.reg [⟨some 3,.box (.t 1),none⟩])
 (.seq (.regD [(.pure, ⟨some 4,.mov (.t 0),none⟩),
  (.pure, ⟨some 5,.mov (.t 0),none⟩),
  (.read 0 1, ⟨some 6,.chk (.t 5),none⟩),
  (.read 0 1, ⟨some 7,.fieldA 0 (.t 6),none⟩),
  (.read 0 1, ⟨some 8,.fieldA 3 (.t 7),none⟩),
  (.read 0 1, ⟨some 9,.load none (.t 8),none⟩),
  (.read 0 1, ⟨some 10,.fieldA 1 (.t 3),none⟩),
  (.read 0 1, ⟨some 11,.load none (.t 10),none⟩),
  (.read 0 1, ⟨some 12,.fieldA 0 (.t 3),none⟩),
  (.read 0 1, ⟨some 13,.load none (.t 12),none⟩),
  (.read 0 0, ⟨some 14,.fieldA 2 (.t 3),none⟩),
  (.read 0 0, ⟨some 15,.load none (.t 14),none⟩),
  (.loud true [], ⟨some 16,.call (.c (.fn (.func 208) [] [])) [(.t 15)],none⟩),
  (.pure, ⟨some 17,.build [.lit (.int .i64 0), .lit (.int .i64 0), .lit (.slice none 0 0)] [(0, 1, (.t 11)), (1, 1, (.t 13)), (2, 1, (.t 16))],none⟩),
  (.made, ⟨some 18,.lits 3 1 [.lit (.int .i64 0), .lit (.int .i64 0), .lit (.slice none 0 0)] [(0, 3, (.t 17))],none⟩),
  (.loud true [], ⟨some 19,.app 3 40 (.t 9) (.t 18),none⟩),
  (.read 2 2, ⟨some 20,.chk (.t 4),none⟩),
  (.read 2 2, ⟨some 21,.fieldA 0 (.t 20),none⟩),
  (.read 2 2, ⟨some 22,.fieldA 3 (.t 21),none⟩),
  (.loud true [], ⟨none, .store 1 (.t 22) (.t 19),none⟩)])
 (.reg [⟨some 23,.mov (.t 0),none⟩,
 ⟨some 24,.chk (.t 23),none⟩,
 ⟨some 25,.fieldA 0 (.t 24),none⟩,
 ⟨some 26,.fieldA 3 (.t 25),none⟩,
 ⟨some 27,.load none (.t 26),none⟩,
 ⟨some 28,.len .slc (.t 27),none⟩,
 ⟨some 29,.call (.c (.fn (.func 233) [] [])) [(.t 28), (.c (.lit (.int .i64 40)))],none⟩]))⟩
def f201 : F := ⟨17, [], none, .reg [⟨some 4,.mov (.t 1),none⟩,
 ⟨some 5,.ar .geq (.t 4) (.c (.lit (.int .i64 0))),none⟩,
 ⟨some 6,.mov (.t 5),none⟩,
 ⟨some 7,.mov (.t 1), (some (6, true))⟩,
 ⟨some 8,.mov (.t 0), (some (6, true))⟩,
 ⟨some 9,.chk (.t 8), (some (6, true))⟩,
 ⟨some 10,.fieldA 0 (.t 9), (some (6, true))⟩,
 ⟨some 11,.fieldA 0 (.t 10), (some (6, true))⟩,
 ⟨some 12,.load none (.t 11), (some (6, true))⟩,
 ⟨some 13,.len .slc (.t 12), (some (6, true))⟩,
 ⟨some 14,.ar .lss (.t 7) (.t 13), (some (6, true))⟩,
 ⟨some 15,.pick (.t 6) (.t 14) (.c (.lit (.bool false))),none⟩,
 ⟨some 16,.call (.c (.fn (.func 99) [] [])) [(.t 15)],none⟩]⟩
def f202 : F := ⟨23, [], none, .seq (.reg [⟨some 8,.mov (.t 1),none⟩,
 ⟨some 9,.len .slc (.t 8),none⟩,
 ⟨some 10,.mov (.t 2),none⟩,
 ⟨some 11,.ar .eql (.t 9) (.t 10),none⟩,
 ⟨some 12,.call (.c (.fn (.func 99) [] [])) [(.t 11)],none⟩])
 (.seq (.reg [⟨some 13,.mov (.t 1),none⟩,
 ⟨some 14,.len .slc (.t 13),none⟩,
 ⟨some 15,.mov (.c (.lit (.int .i64 0))),none⟩])
 (.block 0 (.loop (.seq (.reg [⟨some 16,.ar .lss (.t 15) (.t 14),none⟩])
 (.seq (.cond (.t 16)
 (.skip)
 (.exit 0))
 (.seq (.block 1 (.seq (.reg [⟨some 17,.idxA 2 (.t 13) (.t 15),none⟩,
 ⟨some 18,.load (some 2) (.t 17),none⟩,
 ⟨some 7,.alloc [.lit (.int .i64 0), .lit (.int .i64 0)],none⟩,
 ⟨none, .store 2 (.t 7) (.t 18),none⟩])
 (.reg [⟨some 19,.mov (.t 0),none⟩,
 ⟨some 20,.load (some 2) (.t 7),none⟩,
 ⟨some 21,.call (.c (.fn (.func 237) [] [])) [(.t 19), (.t 20)],none⟩])))
 (.reg [⟨some 22,.ar .add (.t 15) (.c (.lit (.int .i64 1))),none⟩,
 ⟨some 15,.mov (.t 22),none⟩])))))))⟩
def f203 : F := ⟨16, [.tmp 6], none, .seq (.reg [⟨some 4,.box (.t 1),none⟩,
 ⟨some 6,.mov (.c (.lit (.int .i64 0))),none⟩])
 (.seq (.seq (.reg [⟨some 7,.mov (.t 2),none⟩,
 ⟨some 8,.ar .eql (.t 7) (.c (.lit (.int .i64 0))),none⟩])
 (.cond (.t 8)
 (.seq (.reg [⟨some 9,.fieldA 1 (.t 4),none⟩,
 ⟨some 10,.load none (.t 9),none⟩,
 ⟨some 6,.mov (.t 10),none⟩])
 (.ret))
 (.skip)))
 (.seq (.reg [⟨some 11,.mov (.t 0),none⟩,
 ⟨some 12,.load (some 3) (.t 4),none⟩,
 ⟨some 13,.mov (.t 2),none⟩,
 ⟨some 14,.ar .sub (.t 13) (.c (.lit (.int .i64 1))),none⟩,
 ⟨some 15,.call (.c (.fn (.func 238) [] [])) [(.t 11), (.t 12), (.c (.lit (.bool false))), (.t 14)],none⟩,
 ⟨some 6,.mov (.t 15),none⟩])
 (.ret)))⟩
def f204 : F := ⟨22, [.tmp 4], none, .seq (.reg [⟨some 4,.mov (.c (.lit (.slice none 0 0))),none⟩])
 (.seq (.reg [⟨some 5,.mov (.c (.lit (.slice none 0 0))),none⟩])
 (.seq (.seq (.reg [⟨some 8,.mov (.t 0),none⟩,
 ⟨some 9,.len .slc (.t 8),none⟩,
 ⟨some 10,.mov (.c (.lit (.int .i64 0))),none⟩])
 (.block 0 (.loop (.seq (.reg [⟨some 11,.ar .lss (.t 10) (.t 9),none⟩])
 (.seq (.cond (.t 11)
 (.skip)
 (.exit 0))
 (.seq (.block 1 (.seq (.reg [⟨some 12,.idxA 2 (.t 8) (.t 10),none⟩,
 ⟨some 13,.load (some 2) (.t 12),none⟩,
 ⟨some 7,.alloc [.lit (.int .i64 0), .lit (.bool false)],none⟩,
 ⟨none, .store 2 (.t 7) (.t 13),none⟩])
 (.reg [⟨some 14,.mov (.t 5),none⟩,
 ⟨some 15,.mov (.t 1),none⟩,
 ⟨some 16,.load (some 2) (.t 7),none⟩,
 ⟨some 17,.call (.t 15) [(.t 16)],none⟩,
 ⟨some 18,.lits 2 1 [.lit (.int .i64 0), .lit (.bool false)] [(0, 2, (.t 17))],none⟩,
 ⟨some 19,.app 2 16 (.t 14) (.t 18),none⟩,
 ⟨some 5,.mov (.t 19),none⟩])))
 (.reg [⟨some 20,.ar .add (.t 10) (.c (.lit (.int .i64 1))),none⟩,
 ⟨some 10,.mov (.t 20),none⟩])))))))
 (.seq (.reg [⟨some 21,.mov (.t 5),none⟩,
 ⟨some 4,.mov (.t 21),none⟩])
 (.ret))))⟩
def f205 : F := ⟨4, [.cell 2 (some 2)], none, .seq (.reg [⟨some 1,.box (.t 0),none⟩,
 ⟨some 2,.alloc [.lit (.int .i64 0), .lit (.bool false)],none⟩])
 (.seq (.reg [⟨some 3,.load (some 2) (.t 1),none⟩,
 ⟨none, .store 2 (.t 2) (.t 3),none⟩])
 (.ret))⟩
def f206 : F := ⟨22, [.tmp 4], none, .seq (.reg [⟨some 4,.mov (.c (.lit (.slice none 0 0))),none⟩])
 (.seq (.reg [⟨some 5,.mov (.c (.lit (.slice none 0 0))),none⟩])
 (.seq (.seq (.reg [⟨some 8,.mov (.t 0),none⟩,
 ⟨some 9,.len .slc (.t 8),none⟩,
 ⟨some 10,.mov (.c (.lit (.int .i64 0))),none⟩])
 (.block 0 (.loop (.seq (.reg [⟨some 11,.ar .lss (.t 10) (.t 9),none⟩])
 (.seq (.cond (.t 11)
 (.skip)
 (.exit 0))
 (.seq (.block 1 (.seq (.reg [⟨some 12,.idxA 3 (.t 8) (.t 10),none⟩,
 ⟨some 13,.load (some 3) (.t 12),none⟩,
 ⟨some 7,.alloc [.lit (.int .i64 0), .lit (.int .i64 0), .lit (.slice none 0 0)],none⟩,
 ⟨none, .store 3 (.t 7) (.t 13),none⟩])
 (.reg [⟨some 14,.mov (.t 5),none⟩,
 ⟨some 15,.mov (.t 1),none⟩,
 ⟨some 16,.load (some 3) (.t 7),none⟩,
 ⟨some 17,.call (.t 15) [(.t 16)],none⟩,
 ⟨some 18,.lits 3 1 [.lit (.int .i64 0), .lit (.int .i64 0), .lit (.slice none 0 0)] [(0, 3, (.t 17))],none⟩,
 ⟨some 19,.app 3 40 (.t 14) (.t 18),none⟩,
 ⟨some 5,.mov (.t 19),none⟩])))
 (.reg [⟨some 20,.ar .add (.t 10) (.c (.lit (.int .i64 1))),none⟩,
 ⟨some 10,.mov (.t 20),none⟩])))))))
 (.seq (.reg [⟨some 21,.mov (.t 5),none⟩,
 ⟨some 4,.mov (.t 21),none⟩])
 (.ret))))⟩
def f207 : F := ⟨11, [.cell 2 (some 3)], none, .seq (.reg [⟨some 1,.box (.t 0),none⟩,
 ⟨some 2,.alloc [.lit (.int .i64 0), .lit (.int .i64 0), .lit (.slice none 0 0)],none⟩])
 (.seq (.regD [(.read 0 1, ⟨some 3,.fieldA 0 (.t 1),none⟩),
  (.read 0 1, ⟨some 4,.load none (.t 3),none⟩),
  (.read 0 1, ⟨some 5,.fieldA 1 (.t 1),none⟩),
  (.read 0 1, ⟨some 6,.load none (.t 5),none⟩),
  (.read 0 0, ⟨some 7,.fieldA 2 (.t 1),none⟩),
  (.read 0 0, ⟨some 8,.load none (.t 7),none⟩),
  (.loud true [], ⟨some 9,.call (.c (.fn (.func 208) [] [])) [(.t 8)],none⟩),
  (.pure, ⟨some 10,.build [.lit (.int .i64 0), .lit (.int .i64 0), .lit (.slice none 0 0)] [(0, 1, (.t 4)), (1, 1, (.t 6)), (2, 1, (.t 9))],none⟩),
  (.loud true [], ⟨none, .store 3 (.t 2) (.t 10),none⟩)])
 (.ret))⟩
def f208 : F := ⟨5, [.tmp 2], none, .seq (.reg [⟨some 2,.mov (.c (.lit (.slice none 0 0))),none⟩])
 (.seq (.reg [⟨some 3,.mov (.t 0),none⟩,
 ⟨some 4,.call (.c (.fn (.func 239) [] [])) [(.t 3), (.c (.fn (.func 240) [] []))],none⟩,
 ⟨some 2,.mov (.t 4),none⟩])
 (.ret))⟩
def f209 : F := ⟨22, [.tmp 4], none, .seq (.reg [⟨some 4,.mov (.c (.lit (.slice none 0 0))),none⟩])
 (.seq (.reg [⟨some 5,.mov (.c (.lit (.slice none 0 0))),none⟩])
 (.seq (.seq (.reg [⟨some 8,.mov (.t 0),none⟩,
 ⟨some 9,.len .slc (.t 8),none⟩,
 ⟨some 10,.mov (.c (.lit (.int .i64 0))),none⟩])
 (.block 0 (.loop (.seq (.reg [⟨some 11,.ar .lss (.t 10) (.t 9),none⟩])
 (.seq (.cond (.t 11)
 (.skip)
 (.exit 0))
 (.seq (.block 1 (.seq (.reg [⟨some 12,.idxA 4 (.t 8) (.t 10),none⟩,
 ⟨some 13,.load (some 4) (.t 12),none⟩,
 ⟨some 7,.alloc [.lit (.int .i64 0), .lit (.int .i64 0), .lit (.int .i64 0), .lit (.slice none 0 0)],none⟩,
 ⟨none, .store 4 (.t 7) (.t 13),none⟩])
 (.reg [⟨some 14,.mov (.t 5),none⟩,
 ⟨some 15,.mov (.t 1),none⟩,
 ⟨some 16,.load (some 4) (.t 7),none⟩,
 ⟨some 17,.call (.t 15) [(.t 16)],none⟩,
 ⟨some 18,.lits 4 1 [.lit (.int .i64 0), .lit (.int .i64 0), .lit (.int .i64 0), .lit (.slice none 0 0)] [(0, 4, (.t 17))],none⟩,
 ⟨some 19,.app 4 48 (.t 14) (.t 18),none⟩,
 ⟨some 5,.mov (.t 19),none⟩])))
 (.reg [⟨some 20,.ar .add (.t 10) (.c (.lit (.int .i64 1))),none⟩,
 ⟨some 10,.mov (.t 20),none⟩])))))))
 (.seq (.reg [⟨some 21,.mov (.t 5),none⟩,
 ⟨some 4,.mov (.t 21),none⟩])
 (.ret))))⟩
def f210 : F := ⟨13, [.cell 2 (some 4)], none, .seq (.reg [⟨some 1,.box (.t 0),none⟩,
 ⟨some 2,.alloc [.lit (.int .i64 0), .lit (.int .i64 0), .lit (.int .i64 0), .lit (.slice none 0 0)],none⟩])
 (.seq (.regD [(.read 0 1, ⟨some 3,.fieldA 0 (.t 1),none⟩),
  (.read 0 1, ⟨some 4,.load none (.t 3),none⟩),
  (.read 0 1, ⟨some 5,.fieldA 1 (.t 1),none⟩),
  (.read 0 1, ⟨some 6,.load none (.t 5),none⟩),
  (.read 0 1, ⟨some 7,.fieldA 2 (.t 1),none⟩),
  (.read 0 1, ⟨some 8,.load none (.t 7),none⟩),
  (.read 0 0, ⟨some 9,.fieldA 3 (.t 1),none⟩),
  (.read 0 0, ⟨some 10,.load none (.t 9),none⟩),
  (.loud true [], ⟨some 11,.call (.c (.fn (.func 211) [] [])) [(.t 10)],none⟩),
  (.pure, ⟨some 12,.build [.lit (.int .i64 0), .lit (.int .i64 0), .lit (.int .i64 0), .lit (.slice none 0 0)] [(0, 1, (.t 4)), (1, 1, (.t 6)), (2, 1, (.t 8)), (3, 1, (.t 11))],none⟩),
  (.loud true [], ⟨none, .store 4 (.t 2) (.t 12),none⟩)])
 (.ret))⟩
def f211 : F := ⟨5, [.tmp 2], none, .seq (.reg [⟨some 2,.mov (.c (.lit (.slice none 0 0))),none⟩])
 (.seq (.reg [⟨some 3,.mov (.t 0),none⟩,
 ⟨some 4,.call (.c (.fn (.func 241) [] [])) [(.t 3), (.c (.fn (.func 242) [] []))],none⟩,
 ⟨some 2,.mov (.t 4),none⟩])
 (.ret))⟩
def f212 : F := ⟨22, [.tmp 4], none, .seq (.reg [⟨some 4,.mov (.c (.lit (.slice none 0 0))),none⟩])
 (.seq (.reg [⟨some 5,.mov (.c (.lit (.slice none 0 0))),none⟩])
 (.seq (.seq (.reg [⟨some 8,.mov (.t 0),none⟩,
 ⟨some 9,.len .slc (.t 8),none⟩,
 ⟨some 10,.mov (.c (.lit (.int .i64 0))),none⟩])
 (.block 0 (.loop (.seq (.reg [⟨some 11,.ar .lss (.t 10) (.t 9),none⟩])
 (.seq (.cond (.t 11)
 (.skip)
 (.exit 0))
 (.seq (.block 1 (.seq (.reg [⟨some 12,.idxA 3 (.t 8) (.t 10),none⟩,
 ⟨some 13,.load (some 3) (.t 12),none⟩,
 ⟨some 7,.alloc [.lit (.int .i64 0), .lit (.int .i64 0), .lit (.slice none 0 0)],none⟩,
 ⟨none, .store 3 (.t 7) (.t 13),none⟩])
 (.reg [⟨some 14,.mov (.t 5),none⟩,
 ⟨some 15,.mov (.t 1),none⟩,
 ⟨some 16,.load (some 3) (.t 7),none⟩,
 ⟨some 17,.call (.t 15) [(.t 16)],none⟩,
 ⟨some 18,.lits 3 1 [.lit (.int .i64 0), .lit (.int .i64 0), .lit (.slice none 0 0)] [(0, 3, (.t 17))],none⟩,
 ⟨some 19,.app 3 40 (.t 14) (.t 18),none⟩,
 ⟨some 5,.mov (.t 19),none⟩])))
 (.reg [⟨some 20,.ar .add (.t 10) (.c (.lit (.int .i64 1))),none⟩,
 ⟨some 10,.mov (.t 20),none⟩])))))))
 (.seq (.reg [⟨some 21,.mov (.t 5),none⟩,
 ⟨some 4,.mov (.t 21),none⟩])
 (.ret))))⟩
def f213 : F := ⟨11, [.cell 2 (some 3)], none, .seq (.reg [⟨some 1,.box (.t 0),none⟩,
 ⟨some 2,.alloc [.lit (.int .i64 0), .lit (.int .i64 0), .lit (.slice none 0 0)],none⟩])
 (.seq (.regD [(.read 0 1, ⟨some 3,.fieldA 0 (.t 1),none⟩),
  (.read 0 1, ⟨some 4,.load none (.t 3),none⟩),
  (.read 0 1, ⟨some 5,.fieldA 1 (.t 1),none⟩),
  (.read 0 1, ⟨some 6,.load none (.t 5),none⟩),
  (.read 0 0, ⟨some 7,.fieldA 2 (.t 1),none⟩),
  (.read 0 0, ⟨some 8,.load none (.t 7),none⟩),
  (.loud true [], ⟨some 9,.call (.c (.fn (.func 208) [] [])) [(.t 8)],none⟩),
  (.pure, ⟨some 10,.build [.lit (.int .i64 0), .lit (.int .i64 0), .lit (.slice none 0 0)] [(0, 1, (.t 4)), (1, 1, (.t 6)), (2, 1, (.t 9))],none⟩),
  (.loud true [], ⟨none, .store 3 (.t 2) (.t 10),none⟩)])
 (.ret))⟩
def f214 : F := ⟨19, [.tmp 4], none, .seq (.reg [⟨some 4,.mov (.c (.lit (.int .i64 0))),none⟩])
 (.seq (.seq (.reg [⟨some 6,.mov (.t 0),none⟩,
 ⟨some 7,.len .slc (.t 6),none⟩,
 ⟨some 8,.mov (.c (.lit (.int .i64 0))),none⟩])
 (.block 0 (.loop (.seq (.reg [⟨some 9,.ar .lss (.t 8) (.t 7),none⟩])
 (.seq (.cond (.t 9)
 (.skip)
 (.exit 0))
 (.seq (.block 1 (.seq (.reg [⟨some 10,.mov (.t 8),none⟩,
 ⟨some 5,.mov (.t 10),none⟩])
 (.seq (.reg [⟨some 11,.mov (.t 1),none⟩,
 ⟨some 12,.mov (.t 0),none⟩,
 ⟨some 13,.mov (.t 5),none⟩,
 ⟨some 14,.idxA 1 (.t 12) (.t 13),none⟩,
 ⟨some 15,.load none (.t 14),none⟩,
 ⟨some 16,.call (.t 11) [(.t 15)],none⟩])
 (.cond (.t 16)
 (.seq (.reg [⟨some 17,.mov (.t 5),none⟩,
 ⟨some 4,.mov (.t 17),none⟩])
 (.ret))
 (.skip)))))
 (.reg [⟨some 18,.ar .add (.t 8) (.c (.lit (.int .i64 1))),none⟩,
 ⟨some 8,.mov (.t 18),none⟩])))))))
 (.seq (.reg [⟨some 4,.mov (.c (.lit (.int .i64 (-1)))),none⟩])
 (.ret)))⟩
def f215 : F := ⟨19, [.tmp 4], none, .seq (.reg [⟨some 4,.mov (.c (.lit (.int .i64 0))),none⟩])
 (.seq (.seq (.reg [⟨some 6,.mov (.t 0),none⟩,
 ⟨some 7,.len .slc (.t 6),none⟩,
 ⟨some 8,.mov (.c (.lit (.int .i64 0))),none⟩])
 (.block 0 (.loop (.seq (.reg [⟨some 9,.ar .lss (.t 8) (.t 7),none⟩])
 (.seq (.cond (.t 9)
 (.skip)
 (.exit 0))
 (.seq (.block 1 (.seq (.reg [⟨some 10,.mov (.t 8),none⟩,
 ⟨some 5,.mov (.t 10),none⟩])
 (.seq (.reg [⟨some 11,.mov (.t 1),none⟩,
 ⟨some 12,.mov (.t 0),none⟩,
 ⟨some 13,.mov (.t 5),none⟩,
 ⟨some 14,.idxA 1 (.t 12) (.t 13),none⟩,
 ⟨some 15,.load (some 1) (.t 14),none⟩,
 ⟨some 16,.call (.t 11) [(.t 15)],none⟩])
 (.cond (.t 16)
 (.seq (.reg [⟨some 17,.mov (.t 5),none⟩,
 ⟨some 4,.mov (.t 17),none⟩])
 (.ret))
 (.skip)))))
 (.reg [⟨some 18,.ar .add (.t 8) (.c (.lit (.int .i64 1))),none⟩,
 ⟨some 8,.mov (.t 18),none⟩])))))))
 (.seq (.reg [⟨some 4,.mov (.c (.lit (.int .i64 (-1)))),none⟩])
 (.ret)))⟩
def f216 : F := ⟨19, [.tmp 4], none, .seq (.reg [⟨some 4,.mov (.c (.lit (.int .i64 0))),none⟩])
 (.seq (.seq (.reg [⟨some 6,.mov (.t 0),none⟩,
 ⟨some 7,.len .slc (.t 6),none⟩,
 ⟨some 8,.mov (.c (.lit (.int .i64 0))),none⟩])
 (.block 0 (.loop (.seq (.reg [⟨some 9,.ar .lss (.t 8) (.t 7),none⟩])
 (.seq (.cond (.t 9)
 (.skip)
 (.exit 0))
 (.seq (.block 1 (.seq (.reg [⟨some 10,.mov (.t 8),none⟩,
 ⟨some 5,.mov (.t 10),none⟩])
 (.seq (.reg [⟨some 11,.mov (.t 1),none⟩,
 ⟨some 12,.mov (.t 0),none⟩,
 ⟨some 13,.mov (.t 5),none⟩,
 ⟨some 14,.idxA 2 (.t 12) (.t 13),none⟩,
 ⟨some 15,.load (some 2) (.t 14),none⟩,
 ⟨some 16,.call (.t 11) [(.t 15)],none⟩])
 (.cond (.t 16)
 (.seq (.reg [⟨some 17,.mov (.t 5),none⟩,
 ⟨some 4,.mov (.t 17),none⟩])
 (.ret))
 (.skip)))))
 (.reg [⟨some 18,.ar .add (.t 8) (.c (.lit (.int .i64 1))),none⟩,
 ⟨some 8,.mov (.t 18),none⟩])))))))
 (.seq (.reg [⟨some 4,.mov (.c (.lit (.int .i64 (-1)))),none⟩])
 (.ret)))⟩
def f217 : F := ⟨19, [.tmp 4], none, .seq (.reg [⟨some 4,.mov (.c (.lit (.int .i64 0))),none⟩])
 (.seq (.seq (.reg [⟨some 6,.mov (.t 0),none⟩,
 ⟨some 7,.len .slc (.t 6),none⟩,
 ⟨some 8,.mov (.c (.lit (.int .i64 0))),none⟩])
 (.block 0 (.loop (.seq (.reg [⟨some 9,.ar .lss (.t 8) (.t 7),none⟩])
 (.seq (.cond (.t 9)
 (.skip)
 (.exit 0))
 (.seq (.block 1 (.seq (.reg [⟨some 10,.mov (.t 8),none⟩,
 ⟨some 5,.mov (.t 10),none⟩])
 (.seq (.reg [⟨some 11,.mov (.t 1),none⟩,
 ⟨some 12,.mov (.t 0),none⟩,
 ⟨some 13,.mov (.t 5),none⟩,
 ⟨some 14,.idxA 2 (.t 12) (.t 13),none⟩,
 ⟨some 15,.load (some 2) (.t 14),none⟩,
 ⟨some 16,.call (.t 11) [(.t 15)],none⟩])
 (.cond (.t 16)
 (.seq (.reg [⟨some 17,.mov (.t 5),none⟩,
 ⟨some 4,.mov (.t 17),none⟩])
 (.ret))
 (.skip)))))
 (.reg [⟨some 18,.ar .add (.t 8) (.c (.lit (.int .i64 1))),none⟩,
 ⟨some 8,.mov (.t 18),none⟩])))))))
 (.seq (.reg [⟨some 4,.mov (.c (.lit (.int .i64 (-1)))),none⟩])
 (.ret)))⟩
def f218 : F := ⟨19, [.tmp 4], none, .seq (.reg [⟨some 4,.mov (.c (.lit (.int .i64 0))),none⟩])
 (.seq (.seq (.reg [⟨some 6,.mov (.t 0),none⟩,
 ⟨some 7,.len .slc (.t 6),none⟩,
 ⟨some 8,.mov (.c (.lit (.int .i64 0))),none⟩])
 (.block 0 (.loop (.seq (.reg [⟨some 9,.ar .lss (.t 8) (.t 7),none⟩])
 (.seq (.cond (.t 9)
 (.skip)
 (.exit 0))
 (.seq (.block 1 (.seq (.reg [⟨some 10,.mov (.t 8),none⟩,
 ⟨some 5,.mov (.t 10),none⟩])
 (.seq (.reg [⟨some 11,.mov (.t 1),none⟩,
 ⟨some 12,.mov (.t 0),none⟩,
 ⟨some 13,.mov (.t 5),none⟩,
 ⟨some 14,.idxA 4 (.t 12) (.t 13),none⟩,
 ⟨some 15,.load (some 4) (.t 14),none⟩,
 ⟨some 16,.call (.t 11) [(.t 15)],none⟩])
 (.cond (.t 16)
 (.seq (.reg [⟨some 17,.mov (.t 5),none⟩,
 ⟨some 4,.mov (.t 17),none⟩])
 (.ret))
 (.skip)))))
 (.reg [⟨some 18,.ar .add (.t 8) (.c (.lit (.int .i64 1))),none⟩,
 ⟨some 8,.mov (.t 18),none⟩])))))))
 (.seq (.reg [⟨some 4,.mov (.c (.lit (.int .i64 (-1)))),none⟩])
 (.ret)))⟩
def f219 : F := ⟨10, [.tmp 4, .cell 5 none], none, .seq (.reg [⟨some 2,.box (.t 0),none⟩,
 ⟨some 4,.mov (.c (.lit (.slice none 0 0))),none⟩,
 ⟨some 5,.alloc [.lit (.int .i64 0)],none⟩])
 (.seq (.reg [⟨none, .defer (.c (.fn (.func 243) [] [])) [(.t 5)],none⟩])
 (.seq (.reg [⟨some 6,.mov (.t 1),none⟩,
 ⟨some 7,.load (some 4) (.t 2),none⟩,
 ⟨some 8,.call (.c (.fn (.func 244) [] [])) [(.t 7)],none⟩,
 ⟨some 9,.call (.t 6) [(.t 8)],none⟩,
 ⟨some 4,.mov (.t 9),none⟩,
 ⟨none, .store 1 (.t 5) (.c (.lit (.int .i64 0))),none⟩])
 (.ret)))⟩
def f220 : F := ⟨22, [.tmp 4], none, .seq (.reg [⟨some 4,.mov (.c (.lit (.slice none 0 0))),none⟩])
 (.seq (.reg [⟨some 5,.mov (.c (.lit (.slice none 0 0))),none⟩])
 (.seq (.seq (.reg [⟨some 7,.fieldA 1 (.t 1),none⟩,
 ⟨some 8,.load none (.t 7),none⟩,
 ⟨some 9,.len .slc (.t 8),none⟩,
 ⟨some 10,.mov (.c (.lit (.int .i64 0))),none⟩])
 (.block 0 (.loop (.seq (.reg [⟨some 11,.ar .lss (.t 10) (.t 9),none⟩])
 (.seq (.cond (.t 11)
 (.skip)
 (.exit 0))
 (.seq (.block 1 (.seq (.reg [⟨some 12,.mov (.t 10),none⟩,
 ⟨some 6,.mov (.t 12),none⟩])
 (.reg [⟨some 13,.mov (.t 5),none⟩,
 ⟨some 14,.load none (.t 2),none⟩,
 ⟨some 15,.mov (.t 0),none⟩,
 ⟨some 16,.mov (.t 6),none⟩,
 ⟨some 17,.call (.t 14) [(.t 15), (.t 16)],none⟩,
 ⟨some 18,.lits 1 1 [.lit (.int .i64 0)] [(0, 1, (.t 17))],none⟩,
 ⟨some 19,.app 1 8 (.t 13) (.t 18),none⟩,
 ⟨some 5,.mov (.t 19),none⟩])))
 (.reg [⟨some 20,.ar .add (.t 10) (.c (.lit (.int .i64 1))),none⟩,
 ⟨some 10,.mov (.t 20),none⟩])))))))
 (.seq (.reg [⟨some 21,.mov (.t 5),none⟩,
 ⟨some 4,.mov (.t 21),none⟩])
 (.ret))))⟩
def f221 : F := ⟨28, [], none, .seq (.reg [⟨some 4,.mov (.t 0),none⟩,
 ⟨some 5,.len .slc (.t 4),none⟩,
 ⟨some 6,.ar .sub (.t 5) (.c (.lit (.int .i64 1))),none⟩,
 ⟨some 2,.mov (.c (.lit (.int .i64 0))),none⟩,
 ⟨some 3,.mov (.t 6),none⟩])
 (.block 0 (.loop (.seq (.seq (.reg [⟨some 7,.mov (.t 2),none⟩,
 ⟨some 8,.mov (.t 3),none⟩,
 ⟨some 9,.ar .lss (.t 7) (.t 8),none⟩])
 (.cond (.t 9)
 (.skip)
 (.exit 0)))
 (.seq (.block 1 (.regD [(.pure, ⟨some 14,.mov (.t 0),none⟩),
  (.pure, ⟨some 15,.mov (.t 2),none⟩),
  (.pure, ⟨some 16,.mov (.t 0),none⟩),
  (.pure, ⟨some 17,.mov (.t 3),none⟩),
  (.pure, ⟨some 18,.mov (.t 0),none⟩),
  (.pure, ⟨some 19,.mov (.t 3),none⟩),
  (.read 0 0, ⟨some 20,.idxA 3 (.t 18) (.t 19),none⟩),
  (.read 0 0, ⟨some 21,.load (some 3) (.t 20),none⟩),
  (.pure, ⟨some 22,.mov (.t 0),none⟩),
  (.pure, ⟨some 23,.mov (.t 2),none⟩),
  (.read 0 0, ⟨some 24,.idxA 3 (.t 22) (.t 23),none⟩),
  (.read 0 0, ⟨some 25,.load (some 3) (.t 24),none⟩),
  (.read 0 0, ⟨some 26,.idxA 3 (.t 14) (.t 15),none⟩),
  (.loud true [], ⟨none, .store 3 (.t 26) (.t 21),none⟩),
  (.read 1 1, ⟨some 27,.idxA 3 (.t 16) (.t 17),none⟩),
  (.loud true [], ⟨none, .store 3 (.t 27) (.t 25),none⟩)]))
 (.reg [⟨some 10,.mov (.t 2),none⟩,
 ⟨some 11,.ar .add (.t 10) (.c (.lit (.int .i64 1))),none⟩,
 ⟨some 12,.mov (.t 3),none⟩,
 ⟨some 13,.ar .sub (.t 12) (.c (.lit (.int .i64 1))),none⟩,
 ⟨some 2,.mov (.t 11),none⟩,
 ⟨some 3,.mov (.t 13),none⟩])))))⟩
def f231 : F := ⟨69, [.cell 4 (some 2)], none, .seq (.reg [⟨some 2,.box (.t 0),none⟩,
 ⟨some 4,.alloc [.lit (.int .i64 0), .lit (.int .i64 0)],none⟩])
 (.seq (.seq (.reg [⟨some 8,.fieldA 0 (.t 2),none⟩,
 ⟨some 9,.load none (.t 8),none⟩])
 (.block 0 (.seq (.reg [⟨some 11,.ar .eql (.t 9) (.c (.lit (.int .i64 1))),none⟩,
 ⟨some 10,.mov (.t 11),none⟩])
 (.cond (.t 10)
 (.seq (.reg [⟨some 12,.fieldA 1 (.t 2),none⟩,
 ⟨some 13,.load none (.t 12),none⟩,
 ⟨some 14,.build [.lit (.int .i64 0), .lit (.int .i64 0)] [(0, 1, (.c (.lit (.int .i64 1)))), (1, 1, (.t 13))],none⟩,
 ⟨none, .store 2 (.t 4) (.t 14),none⟩])
 (.ret))
 (.seq (.reg [⟨some 16,.ar .eql (.t 9) (.c (.lit (.int .i64 2))),none⟩,
 ⟨some 15,.mov (.t 16),none⟩])
 (.cond (.t 15)
 (.seq (.reg [⟨some 17,.mov (.t 1),none⟩,
 ⟨some 18,.fieldA 1 (.t 2),none⟩,
 ⟨some 19,.load none (.t 18),none⟩,
 ⟨some 20,.idxA 2 (.t 17) (.t 19),none⟩,
 ⟨some 21,.load (some 2) (.t 20),none⟩,
 ⟨none, .store 2 (.t 4) (.t 21),none⟩])
 (.ret))
 (.skip)))))))
 (.seq (.regD [(.read 0 0, ⟨some 22,.fieldA 2 (.t 2),none⟩),
  (.read 0 0, ⟨some 23,.load none (.t 22),none⟩),
  (.read 0 0, ⟨some 24,.idxA 3 (.t 23) (.c (.lit (.int .i64 0))),none⟩),
  (.read 0 0, ⟨some 25,.load (some 3) (.t 24),none⟩),
  (.pure, ⟨some 26,.mov (.t 1),none⟩),
  (.loud false [], ⟨some 27,.call (.c (.fn (.func 231) [] [])) [(.t 25), (.t 26)],none⟩),
  (.loud false [], ⟨some 28,.call (.c (.fn (.func 236) [] [])) [(.t 27)],none⟩),
  (.read 0 2, ⟨some 29,.fieldA 2 (.t 2),none⟩),
  (.read 0 2, ⟨some 30,.load none (.t 29),none⟩),
  (.read 0 2, ⟨some 31,.idxA 3 (.t 30) (.c (.lit (.int .i64 1))),none⟩),
  (.read 0 2, ⟨some 32,.load (some 3) (.t 31),none⟩),
  (.pure, ⟨some 33,.mov (.t 1),none⟩),
  (.loud true [], ⟨some 34,.call (.c (.fn (.func 231) [] [])) [(.t 32), (.t 33)],none⟩),
  (.loud true [], ⟨some 35,.call (.c (.fn (.func 236) [] [])) [(.t 34)],none⟩),
  (.pure, ⟨some 5,.mov (.t 28),none⟩),
  (.pure, ⟨some 6,.mov (.t 35),none⟩)])
 (.seq (.reg [⟨some 7,.mov (.c (.lit (.int .i64 0))),none⟩])
 (.seq (.seq (.reg [⟨some 36,.fieldA 0 (.t 2),none⟩,
 ⟨some 37,.load none (.t 36),none⟩])
 (.block 1 (.seq (.reg [⟨some 39,.ar .eql (.t 37) (.c (.lit (.int .i64 3))),none⟩,
 ⟨some 38,.mov (.t 39),none⟩])
 (.cond (.t 38)
 (.reg [⟨some 40,.mov (.t 5),none⟩,
 ⟨some 41,.mov (.t 6),none⟩,
 ⟨some 42,.ar .add (.t 40) (.t 41),none⟩,
 ⟨some 7,.mov (.t 42),none⟩])
 (.seq (.reg [⟨some 44,.ar .eql (.t 37) (.c (.lit (.int .i64 4))),none⟩,
 ⟨some 43,.mov (.t 44),none⟩])
 (.cond (.t 43)
 (.reg [⟨some 45,.mov (.t 5),none⟩,
 ⟨some 46,.mov (.t 6),none⟩,
 ⟨some 47,.ar .sub (.t 45) (.t 46),none⟩,
 ⟨some 7,.mov (.t 47),none⟩])
 (.seq (.reg [⟨some 49,.ar .eql (.t 37) (.c (.lit (.int .i64 5))),none⟩,
 ⟨some 48,.mov (.t 49),none⟩])
 (.cond (.t 48)
 (.reg [⟨some 50,.mov (.t 5),none⟩,
 ⟨some 51,.mov (.t 6),none⟩,
 ⟨some 52,.ar .mul (.t 50) (.t 51),none⟩,
 ⟨some 7,.mov (.t 52),none⟩])
 (.seq (.reg [⟨some 54,.ar .eql (.t 37) (.c (.lit (.int .i64 6))),none⟩,
 ⟨some 53,.mov (.t 54),none⟩])
 (.cond (.t 53)
 (.reg [⟨some 55,.mov (.t 5),none⟩,
 ⟨some 56,.mov (.t 6),none⟩,
 ⟨some 57,.ar .lss (.t 55) (.t 56),none⟩,
 ⟨some 58,.call (.c (.fn (.func 235) [] [])) [(.t 57)],none⟩,
 ⟨some 7,.mov (.t 58),none⟩])
 (.seq (.reg [⟨some 60,.ar .eql (.t 37) (.c (.lit (.int .i64 7))),none⟩,
 ⟨some 59,.mov (.t 60),none⟩])
 (.cond (.t 59)
 (.reg [⟨some 61,.mov (.t 5),none⟩,
 ⟨some 62,.mov (.t 6),none⟩,
 ⟨some 63,.ar .eql (.t 61) (.t 62),none⟩,
 ⟨some 64,.call (.c (.fn (.func 235) [] [])) [(.t 63)],none⟩,
 ⟨some 7,.mov (.t 64),none⟩])
 (.skip)))))))))))))
 (.seq (.reg [⟨some 65,.mov (.t 7),none⟩,
 ⟨some 66,.max (.t 65) (.c (.lit (.int .i64 (-1000000000)))),none⟩,
 ⟨some 67,.min (.t 66) (.c (.lit (.int .i64 1000000000))),none⟩,
 ⟨some 68,.build [.lit (.int .i64 0), .lit (.int .i64 0)] [(0, 1, (.c (.lit (.int .i64 1)))), (1, 1, (.t 67))],none⟩,
 ⟨none, .store 2 (.t 4) (.t 68),none⟩])
 (.ret))))))⟩
def f232 : F := ⟨28, [], none, .regD [(.pure, ⟨some 12,.mov (.t 0),none⟩),
  (.pure, ⟨some 13,.mov (.t 0),none⟩),
  (.read 0 1, ⟨some 14,.chk (.t 13),none⟩),
  (.read 0 1, ⟨some 15,.fieldA 11 (.t 14),none⟩),
  (.read 0 1, ⟨some 16,.load none (.t 15),none⟩),
  (.pure, ⟨some 17,.mov (.t 1),none⟩),
  (.pure, ⟨some 18,.mov (.t 2),none⟩),
  (.pure, ⟨some 19,.mov (.t 3),none⟩),
  (.pure, ⟨some 20,.mov (.t 4),none⟩),
  (.pure, ⟨some 21,.mov (.t 5),none⟩),
  (.loud true [], ⟨some 22,.call (.c (.fn (.func 208) [] [])) [(.t 21)],none⟩),
  (.pure, ⟨some 23,.build [.lit (.int .i64 0), .lit (.int .i64 0), .lit (.int .i64 0), .lit (.int .i64 0), .lit (.slice none 0 0)] [(0, 1, (.t 17)), (1, 1, (.t 18)), (2, 1, (.t 19)), (3, 1, (.t 20)), (4, 1, (.t 22))],none⟩),
  (.made, ⟨some 24,.lits 5 1 [.lit (.int .i64 0), .lit (.int .i64 0), .lit (.int .i64 0), .lit (.int .i64 0), .lit (.slice none 0 0)] [(0, 5, (.t 23))],none⟩),
  (.loud true [], ⟨some 25,.app 5 56 (.t 16) (.t 24),none⟩),
  (.read 2 2, ⟨some 26,.chk (.t 12),none⟩),
  (.read 2 2, ⟨some 27,.fieldA 11 (.t 26),none⟩),
  (.loud true [], ⟨none, .store 1 (.t 27) (.t 25),none⟩)]⟩
def f233 : F := ⟨8, [], none, .seq (.reg [⟨some 4,.mov (.t 0),none⟩,
 ⟨some 5,.mov (.t 1),none⟩,
 ⟨some 6,.ar .gtr (.t 4) (.t 5),none⟩])
 (.cond (.t 6)
 (.reg [⟨some 7,.call (.c (.fn (.func 163) [] [])) [(.c (.lit (.int .i64 3)))],none⟩])
 (.skip))⟩
def f234 : F := ⟨44, [], none, .seq (.reg [⟨some 9,.mov (.t 0),none⟩,
 ⟨some 10,.chk (.t 9),none⟩,
 ⟨some 11,.fieldA 12 (.t 10),none⟩,
 ⟨some 12,.load none (.t 11),none⟩,
 ⟨some 13,.ar .add (.t 12) (.c (.lit (.int .i64 1))),none⟩,
 ⟨some 14,.chk (.t 9),none⟩,
 ⟨some 15,.fieldA 12 (.t 14),none⟩,
 ⟨none, .store 1 (.t 15) (.t 13),none⟩])
 (.seq (.reg [⟨some 16,.mov (.t 0),none⟩,
 ⟨some 17,.chk (.t 16),none⟩,
 ⟨some 18,.fieldA 12 (.t 17),none⟩,
 ⟨some 19,.load none (.t 18),none⟩,
 ⟨some 20,.call (.c (.fn (.func 233) [] [])) [(.t 19), (.c (.lit (.int .i64 400)))],none⟩])
 (.seq (.regD [(.pure, ⟨some 21,.mov (.t 0),none⟩),
  (.read 0 0, ⟨some 22,.chk (.t 21),none⟩),
  (.read 0 0, ⟨some 23,.fieldA 10 (.t 22),none⟩),
  (.read 0 0, ⟨some 24,.load none (.t 23),none⟩),
  (.pure, ⟨some 25,.mov (.t 0),none⟩),
  (.read 0 0, ⟨some 26,.chk (.t 25),none⟩),
  (.read 0 0, ⟨some 27,.fieldA 4 (.t 26),none⟩),
  (.read 0 0, ⟨some 28,.fieldA 1 (.t 27),none⟩),
  (.read 0 0, ⟨some 29,.load none (.t 28),none⟩),
  (.pure, ⟨some 30,.mov (.t 1),none⟩),
  (.read 0 0, ⟨some 31,.idxA 4 (.t 29) (.t 30),none⟩),
  (.read 0 0, ⟨some 32,.fieldA 0 (.t 31),none⟩),
  (.read 0 0, ⟨some 33,.load none (.t 32),none⟩),
  (.read 0 0, ⟨some 34,.look (.one (.int .i64)) (.lit (.nilFunc)) false (.t 24) (.t 33),none⟩),
  (.pure, ⟨some 8,.mov (.t 34),none⟩)])
 (.seq (.reg [⟨some 35,.mov (.t 8),none⟩,
 ⟨some 36,.eqNil true .fn (.t 35),none⟩])
 (.cond (.t 36)
 (.reg [⟨some 37,.mov (.t 8),none⟩,
 ⟨some 38,.mov (.t 0),none⟩,
 ⟨some 39,.mov (.t 1),none⟩,
 ⟨some 40,.mov (.t 2),none⟩,
 ⟨some 41,.mov (.t 3),none⟩,
 ⟨some 42,.build [.lit (.int .i64 0), .lit (.int .i64 0), .lit (.slice none 0 0)] [(0, 1, (.t 39)), (1, 1, (.t 40)), (2, 1, (.t 41))],none⟩,
 ⟨some 43,.call (.t 37) [(.t 38), (.t 42)],none⟩])
 (.skip)))))⟩
def f235 : F := ⟨4, [.tmp 2], none, .seq (.reg [⟨some 2,.mov (.c (.lit (.int .i64 0))),none⟩])
 (.seq (.seq (.reg [⟨some 3,.mov (.t 0),none⟩])
 (.cond (.t 3)
 (.seq (.reg [⟨some 2,.mov (.c (.lit (.int .i64 1))),none⟩])
 (.ret))
 (.skip)))
 (.seq (.reg [⟨some 2,.mov (.c (.lit (.int .i64 0))),none⟩])
 (.ret)))⟩
def f236 : F := ⟨8, [.tmp 2], none, .seq (.reg [⟨some 1,.box (.t 0),none⟩,
 ⟨some 2,.mov (.c (.lit (.int .i64 0))),none⟩])
 (.seq (.seq (.reg [⟨some 3,.fieldA 0 (.t 1),none⟩,
 ⟨some 4,.load none (.t 3),none⟩,
 ⟨some 5,.ar .eql (.t 4) (.c (.lit (.int .i64 1))),none⟩])
 (.cond (.t 5)
 (.seq (.reg [⟨some 6,.fieldA 1 (.t 1),none⟩,
 ⟨some 7,.load none (.t 6),none⟩,
 ⟨some 2,.mov (.t 7),none⟩])
 (.ret))
 (.skip)))
 (.seq (.reg [⟨some 2,.mov (.c (.lit (.int .i64 0))),none⟩])
 (.ret)))⟩
def f237 : F := ⟨49, [], none, .seq (.reg [⟨some 3,.box (.t 1),none⟩])
 (.seq (.reg [⟨some 4,.mov (.c (.lit (.int .i64 0))),none⟩,
 ⟨some 5,.mov (.c (.lit (.int .i64 0))),none⟩])
 (.seq (.seq (.reg [⟨some 6,.fieldA 0 (.t 3),none⟩,
 ⟨some 7,.load none (.t 6),none⟩])
 (.block 0 (.seq (.reg [⟨some 10,.ar .eql (.t 7) (.c (.lit (.int .i64 1))),none⟩,
 ⟨some 9,.mov (.t 10),none⟩])
 (.cond (.t 9)
 (.reg [⟨some 4,.mov (.c (.lit (.int .i64 (-1000000000)))),none⟩,
 ⟨some 5,.mov (.c (.lit (.int .i64 1000000000))),none⟩])
 (.seq (.reg [⟨some 12,.ar .eql (.t 7) (.c (.lit (.int .i64 2))),none⟩,
 ⟨some 11,.mov (.t 12),none⟩])
 (.cond (.t 11)
 (.reg [⟨some 13,.mov (.t 0),none⟩,
 ⟨some 14,.chk (.t 13),none⟩,
 ⟨some 15,.fieldA 4 (.t 14),none⟩,
 ⟨some 16,.fieldA 0 (.t 15),none⟩,
 ⟨some 17,.load none (.t 16),none⟩,
 ⟨some 18,.len .slc (.t 17),none⟩,
 ⟨some 19,.ar .sub (.t 18) (.c (.lit (.int .i64 1))),none⟩,
 ⟨some 5,.mov (.t 19),none⟩])
 (.seq (.reg [⟨some 21,.ar .eql (.t 7) (.c (.lit (.int .i64 3))),none⟩,
 ⟨some 20,.mov (.t 21),none⟩])
 (.cond (.t 20)
 (.reg [⟨some 22,.mov (.t 0),none⟩,
 ⟨some 23,.chk (.t 22),none⟩,
 ⟨some 24,.fieldA 0 (.t 23),none⟩,
 ⟨some 25,.fieldA 2 (.t 24),none⟩,
 ⟨some 26,.load none (.t 25),none⟩,
 ⟨some 27,.len .slc (.t 26),none⟩,
 ⟨some 28,.ar .sub (.t 27) (.c (.lit (.int .i64 1))),none⟩,
 ⟨some 5,.mov (.t 28),none⟩])
 (.seq (.reg [⟨some 30,.ar .eql (.t 7) (.c (.lit (.int .i64 4))),none⟩,
 ⟨some 29,.mov (.t 30),none⟩])
 (.cond (.t 29)
 (.reg [⟨some 31,.mov (.t 0),none⟩,
 ⟨some 32,.chk (.t 31),none⟩,
 ⟨some 33,.fieldA 0 (.t 32),none⟩,
 ⟨some 34,.fieldA 0 (.t 33),none⟩,
 ⟨some 35,.load none (.t 34),none⟩,
 ⟨some 36,.len .slc (.t 35),none⟩,
 ⟨some 37,.ar .sub (.t 36) (.c (.lit (.int .i64 1))),none⟩,
 ⟨some 5,.mov (.t 37),none⟩])
 (.reg [⟨some 8,.call (.c (.fn (.func 163) [] [])) [(.c (.lit (.int .i64 2)))],none⟩])))))))))))
 (.reg [⟨some 38,.fieldA 1 (.t 3),none⟩,
 ⟨some 39,.load none (.t 38),none⟩,
 ⟨some 40,.mov (.t 4),none⟩,
 ⟨some 41,.ar .geq (.t 39) (.t 40),none⟩,
 ⟨some 42,.mov (.t 41),none⟩,
 ⟨some 43,.fieldA 1 (.t 3), (some (42, true))⟩,
 ⟨some 44,.load none (.t 43), (some (42, true))⟩,
 ⟨some 45,.mov (.t 5), (some (42, true))⟩,
 ⟨some 46,.ar .leq (.t 44) (.t 45), (some (42, true))⟩,
 ⟨some 47,.pick (.t 42) (.t 46) (.c (.lit (.bool false))),none⟩,
 ⟨some 48,.call (.c (.fn (.func 99) [] [])) [(.t 47)],none⟩])))⟩
def f238 : F := ⟨41, [.tmp 8], none, .seq (.reg [⟨some 5,.box (.t 1),none⟩,
 ⟨some 8,.mov (.c (.lit (.int .i64 0))),none⟩])
 (.seq (.regD [(.pure, ⟨some 11,.mov (.t 0),none⟩),
  (.read 0 0, ⟨some 12,.chk (.t 11),none⟩),
  (.read 0 0, ⟨some 13,.fieldA 4 (.t 12),none⟩),
  (.read 0 0, ⟨some 14,.fieldA 2 (.t 13),none⟩),
  (.read 0 0, ⟨some 15,.load none (.t 14),none⟩),
  (.read 0 0, ⟨some 16,.fieldA 0 (.t 5),none⟩),
  (.read 0 0, ⟨some 17,.load none (.t 16),none⟩),
  (.read 0 0, ⟨some 18,.idxA 3 (.t 15) (.t 17),none⟩),
  (.read 0 0, ⟨some 19,.load (some 3) (.t 18),none⟩),
  (.made, ⟨some 9,.alloc [.lit (.slice none 0 0), .lit (.slice none 0 0), .lit (.slice none 0 0)],none⟩),
  (.loud true [], ⟨none, .store 3 (.t 9) (.t 19),none⟩)])
 (.seq (.reg [⟨some 20,.fieldA 2 (.t 5),none⟩,
 ⟨some 21,.load none (.t 20),none⟩,
 ⟨some 22,.len .slc (.t 21),none⟩,
 ⟨some 23,.fieldA 1 (.t 9),none⟩,
 ⟨some 24,.load none (.t 23),none⟩,
 ⟨some 25,.len .slc (.t 24),none⟩,
 ⟨some 26,.ar .sub (.t 22) (.t 25),none⟩,
 ⟨some 10,.mov (.t 26),none⟩])
 (.seq (.seq (.reg [⟨some 27,.mov (.t 2),none⟩])
 (.cond (.t 27)
 (.reg [⟨some 28,.mov (.t 10),none⟩,
 ⟨some 29,.fieldA 0 (.t 9),none⟩,
 ⟨some 30,.load none (.t 29),none⟩,
 ⟨some 31,.len .slc (.t 30),none⟩,
 ⟨some 32,.ar .sub (.t 28) (.t 31),none⟩,
 ⟨some 10,.mov (.t 32),none⟩])
 (.skip)))
 (.seq (.reg [⟨some 33,.fieldA 2 (.t 5),none⟩,
 ⟨some 34,.load none (.t 33),none⟩,
 ⟨some 35,.mov (.t 10),none⟩,
 ⟨some 36,.mov (.t 3),none⟩,
 ⟨some 37,.ar .add (.t 35) (.t 36),none⟩,
 ⟨some 38,.idxA 2 (.t 34) (.t 37),none⟩,
 ⟨some 39,.fieldA 1 (.t 38),none⟩,
 ⟨some 40,.load none (.t 39),none⟩,
 ⟨some 8,.mov (.t 40),none⟩])
 (.ret)))))⟩
def f239 : F := ⟨22, [.tmp 4], none, .seq (.reg [⟨some 4,.mov (.c (.lit (.slice none 0 0))),none⟩])
 (.seq (.reg [⟨some 5,.mov (.c (.lit (.slice none 0 0))),none⟩])
 (.seq (.seq (.reg [⟨some 8,.mov (.t 0),none⟩,
 ⟨some 9,.len .slc (.t 8),none⟩,
 ⟨some 10,.mov (.c (.lit (.int .i64 0))),none⟩])
 (.block 0 (.loop (.seq (.reg [⟨some 11,.ar .lss (.t 10) (.t 9),none⟩])
 (.seq (.cond (.t 11)
 (.skip)
 (.exit 0))
 (.seq (.block 1 (.seq (.reg [⟨some 12,.idxA 2 (.t 8) (.t 10),none⟩,
 ⟨some 13,.load (some 2) (.t 12),none⟩,
 ⟨some 7,.alloc [.lit (.int .i64 0), .lit (.int .i64 0)],none⟩,
 ⟨none, .store 2 (.t 7) (.t 13),none⟩])
 (.reg [⟨some 14,.mov (.t 5),none⟩,
 ⟨some 15,.mov (.t 1),none⟩,
 ⟨some 16,.load (some 2) (.t 7),none⟩,
 ⟨some 17,.call (.t 15) [(.t 16)],none⟩,
 ⟨some 18,.lits 2 1 [.lit (.int .i64 0), .lit (.int .i64 0)] [(0, 2, (.t 17))],none⟩,
 ⟨some 19,.app 2 16 (.t 14) (.t 18),none⟩,
 ⟨some 5,.mov (.t 19),none⟩])))
 (.reg [⟨some 20,.ar .add (.t 10) (.c (.lit (.int .i64 1))),none⟩,
 ⟨some 10,.mov (.t 20),none⟩])))))))
 (.seq (.reg [⟨some 21,.mov (.t 5),none⟩,
 ⟨some 4,.mov (.t 21),none⟩])
 (.ret))))⟩
def f240 : F := ⟨4, [.cell 2 (some 2)], none, .seq (.reg [⟨some 1,.box (.t 0),none⟩,
 ⟨some 2,.alloc [.lit (.int .i64 0), .lit (.int .i64 0)],none⟩])
 (.seq (.reg [⟨some 3,.load (some 2) (.t 1),none⟩,
 ⟨none, .store 2 (.t 2) (.t 3),none⟩])
 (.ret))⟩
def f241 : F := ⟨22, [.tmp 4], none, .seq (.reg [⟨some 4,.mov (.c (.lit (.slice none 0 0))),none⟩])
 (.seq (.reg [⟨some 5,.mov (.c (.lit (.slice none 0 0))),none⟩])
 (.seq (.seq (.reg [⟨some 8,.mov (.t 0),none⟩,
 ⟨some 9,.len .slc (.t 8),none⟩,
 ⟨some 10,.mov (.c (.lit (.int .i64 0))),none⟩])
 (.block 0 (.loop (.seq (.reg [⟨some 11,.ar .lss (.t 10) (.t 9),none⟩])
 (.seq (.cond (.t 11)
 (.skip)
 (.exit 0))
 (.seq (.block 1 (.seq (.reg [⟨some 12,.idxA 1 (.t 8) (.t 10),none⟩,
 ⟨some 13,.load (some 1) (.t 12),none⟩,
 ⟨some 7,.alloc [.lit (.slice none 0 0)],none⟩,
 ⟨none, .store 1 (.t 7) (.t 13),none⟩])
 (.reg [⟨some 14,.mov (.t 5),none⟩,
 ⟨some 15,.mov (.t 1),none⟩,
 ⟨some 16,.load (some 1) (.t 7),none⟩,
 ⟨some 17,.call (.t 15) [(.t 16)],none⟩,
 ⟨some 18,.lits 1 1 [.lit (.slice none 0 0)] [(0, 1, (.t 17))],none⟩,
 ⟨some 19,.app 1 24 (.t 14) (.t 18),none⟩,
 ⟨some 5,.mov (.t 19),none⟩])))
 (.reg [⟨some 20,.ar .add (.t 10) (.c (.lit (.int .i64 1))),none⟩,
 ⟨some 10,.mov (.t 20),none⟩])))))))
 (.seq (.reg [⟨some 21,.mov (.t 5),none⟩,
 ⟨some 4,.mov (.t 21),none⟩])
 (.ret))))⟩
def f242 : F := ⟨7, [.cell 2 (some 1)], none, .seq (.reg [⟨some 1,.box (.t 0),none⟩,
 ⟨some 2,.alloc [.lit (.slice none 0 0)],none⟩])
 (.seq (.reg [⟨some 3,.fieldA 0 (.t 1),none⟩,
 ⟨some 4,.load none (.t 3),none⟩,
 ⟨some 5,.call (.c (.fn (.func 208) [] [])) [(.t 4)],none⟩,
 ⟨some 6,.build [.lit (.slice none 0 0)] [(0, 1, (.t 5))],none⟩,
 ⟨none, .store 1 (.t 2) (.t 6),none⟩])
 (.ret))⟩
def f243 : F := ⟨20, [], (some (5, 2)), .seq (.reg [⟨some 6,.mov (.t 2),none⟩,
 ⟨some 7,.eqNil true .ifc (.t 6),none⟩])
 (.cond (.t 7)
 (.seq (.reg [⟨some 9,.mov (.t 2),none⟩,
 ⟨some 10,.assert 325 (.agg [.lit (.int .i64 0)]) true (.t 9),none⟩,
 ⟨some 8,.mov (.t 10),none⟩,
 ⟨some 11,.ext (.t 8) 0,none⟩,
 ⟨some 12,.ext (.t 8) 1,none⟩,
 ⟨some 3,.alloc [.lit (.int .i64 0)],none⟩,
 ⟨none, .store 1 (.t 3) (.t 11),none⟩,
 ⟨some 4,.mov (.t 12),none⟩])
 (.seq (.seq (.reg [⟨some 13,.mov (.t 4),none⟩,
 ⟨some 14,.not (.t 13),none⟩])
 (.cond (.t 14)
 (.reg [⟨some 15,.mov (.t 2),none⟩,
 ⟨none, .panic (.t 15),none⟩])
 (.skip)))
 (.reg [⟨some 16,.mov (.t 0),none⟩,
 ⟨some 17,.fieldA 0 (.t 3),none⟩,
 ⟨some 18,.load none (.t 17),none⟩,
 ⟨some 19,.chk (.t 16),none⟩,
 ⟨none, .store 1 (.t 19) (.t 18),none⟩])))
 (.skip))⟩
def f244 : F := ⟨87, [.tmp 2], none, .seq (.reg [⟨some 1,.box (.t 0),none⟩,
 ⟨some 2,.mov (.c (.lit (.pointer none))),none⟩])
 (.seq (.reg [⟨some 6,.fieldA 0 (.t 1),none⟩,
 ⟨some 7,.load none (.t 6),none⟩,
 ⟨some 8,.len .slc (.t 7),none⟩,
 ⟨some 9,.ar .leq (.t 8) (.c (.lit (.int .i64 12))),none⟩,
 ⟨some 10,.mov (.t 9),none⟩,
 ⟨some 11,.fieldA 1 (.t 1), (some (10, true))⟩,
 ⟨some 12,.load none (.t 11), (some (10, true))⟩,
 ⟨some 13,.len .slc (.t 12), (some (10, true))⟩,
 ⟨some 14,.ar .leq (.t 13) (.c (.lit (.int .i64 60))), (some (10, true))⟩,
 ⟨some 15,.pick (.t 10) (.t 14) (.c (.lit (.bool false))),none⟩,
 ⟨some 16,.mov (.t 15),none⟩,
 ⟨some 17,.fieldA 2 (.t 1), (some (16, true))⟩,
 ⟨some 18,.load none (.t 17), (some (16, true))⟩,
 ⟨some 19,.len .slc (.t 18), (some (16, true))⟩,
 ⟨some 20,.ar .leq (.t 19) (.c (.lit (.int .i64 12))), (some (16, true))⟩,
 ⟨some 21,.pick (.t 16) (.t 20) (.c (.lit (.bool false))),none⟩,
 ⟨some 22,.call (.c (.fn (.func 246) [] [])) [(.t 21)],none⟩])
 (.seq (.seq (.reg [⟨some 23,.fieldA 0 (.t 1),none⟩,
 ⟨some 24,.load none (.t 23),none⟩,
 ⟨some 25,.len .slc (.t 24),none⟩,
 ⟨some 26,.mov (.c (.lit (.int .i64 0))),none⟩])
 (.block 0 (.loop (.seq (.reg [⟨some 27,.ar .lss (.t 26) (.t 25),none⟩])
 (.seq (.cond (.t 27)
 (.skip)
 (.exit 0))
 (.seq (.block 1 (.seq (.reg [⟨some 28,.mov (.t 26),none⟩,
 ⟨some 29,.idxA 1 (.t 24) (.t 26),none⟩,
 ⟨some 30,.load none (.t 29),none⟩,
 ⟨some 3,.mov (.t 28),none⟩,
 ⟨some 4,.mov (.t 30),none⟩])
 (.reg [⟨some 31,.mov (.t 4),none⟩,
 ⟨some 32,.call (.c (.fn (.func 247) [] [])) [(.t 31)],none⟩,
 ⟨some 33,.mov (.t 32),none⟩,
 ⟨some 34,.mov (.t 3), (some (33, true))⟩,
 ⟨some 35,.ar .eql (.t 34) (.c (.lit (.int .i64 0))), (some (33, true))⟩,
 ⟨some 36,.mov (.t 35), (some (33, true))⟩,
 ⟨some 37,.fieldA 0 (.t 1), (some (36, false))⟩,
 ⟨some 38,.load none (.t 37), (some (36, false))⟩,
 ⟨some 39,.mov (.t 3), (some (36, false))⟩,
 ⟨some 40,.ar .sub (.t 39) (.c (.lit (.int .i64 1))), (some (36, false))⟩,
 ⟨some 41,.idxA 1 (.t 38) (.t 40), (some (36, false))⟩,
 ⟨some 42,.load none (.t 41), (some (36, false))⟩,
 ⟨some 43,.mov (.t 4), (some (36, false))⟩,
 ⟨some 44,.ar .lss (.t 42) (.t 43), (some (36, false))⟩,
 ⟨some 45,.pick (.t 36) (.c (.lit (.bool true))) (.t 44), (some (33, true))⟩,
 ⟨some 46,.pick (.t 33) (.t 45) (.c (.lit (.bool false))),none⟩,
 ⟨some 47,.call (.c (.fn (.func 246) [] [])) [(.t 46)],none⟩])))
 (.reg [⟨some 48,.ar .add (.t 26) (.c (.lit (.int .i64 1))),none⟩,
 ⟨some 26,.mov (.t 48),none⟩])))))))
 (.seq (.regD [(.read 0 0, ⟨some 49,.load (some 4) (.t 1),none⟩),
  (.read 0 0, ⟨some 50,.fieldA 1 (.t 1),none⟩),
  (.read 0 0, ⟨some 51,.load none (.t 50),none⟩),
  (.read 0 0, ⟨some 52,.len .slc (.t 51),none⟩),
  (.made, ⟨some 53,.makeS 1 8 [.lit (.int .i64 0)] (.t 52) (.t 52),none⟩),
  (.read 0 0, ⟨some 54,.fieldA 1 (.t 1),none⟩),
  (.read 0 0, ⟨some 55,.load none (.t 54),none⟩),
  (.read 0 0, ⟨some 56,.len .slc (.t 55),none⟩),
  (.made, ⟨some 57,.makeS 1 1 [.lit (.bool false)] (.t 56) (.t 56),none⟩),
  (.read 0 0, ⟨some 58,.fieldA 2 (.t 1),none⟩),
  (.read 0 0, ⟨some 59,.load none (.t 58),none⟩),
  (.read 0 0, ⟨some 60,.len .slc (.t 59),none⟩),
  (.made, ⟨some 61,.makeS 1 1 [.lit (.bool false)] (.t 60) (.t 60),none⟩),
  (.pure, ⟨some 62,.build [.lit (.slice none 0 0), .lit (.slice none 0 0), .lit (.slice none 0 0), .lit (.int .i64 0), .lit (.slice none 0 0), .lit (.slice none 0 0), .lit (.slice none 0 0)] [(0, 4, (.t 49)), (4, 1, (.t 53)), (5, 1, (.t 57)), (6, 1, (.t 61))],none⟩),
  (.made, ⟨some 63,.box (.t 62),none⟩),
  (.pure, ⟨some 5,.mov (.t 63),none⟩)])
 (.seq (.reg [⟨some 64,.mov (.t 5),none⟩,
 ⟨some 65,.fieldA 3 (.t 1),none⟩,
 ⟨some 66,.load none (.t 65),none⟩,
 ⟨some 67,.fieldA 0 (.t 1),none⟩,
 ⟨some 68,.load none (.t 67),none⟩,
 ⟨some 69,.len .slc (.t 68),none⟩,
 ⟨some 70,.call (.c (.fn (.func 248) [] [])) [(.t 64), (.t 66), (.t 69)],none⟩])
 (.seq (.reg [⟨some 71,.mov (.t 5),none⟩,
 ⟨some 72,.chk (.t 71),none⟩,
 ⟨some 73,.fieldA 5 (.t 72),none⟩,
 ⟨some 74,.load none (.t 73),none⟩,
 ⟨some 75,.call (.c (.fn (.func 249) [] [])) [(.t 74), (.c (.lit (.bool false)))],none⟩,
 ⟨some 76,.not (.t 75),none⟩,
 ⟨some 77,.mov (.t 76),none⟩,
 ⟨some 78,.mov (.t 5), (some (77, true))⟩,
 ⟨some 79,.chk (.t 78), (some (77, true))⟩,
 ⟨some 80,.fieldA 6 (.t 79), (some (77, true))⟩,
 ⟨some 81,.load none (.t 80), (some (77, true))⟩,
 ⟨some 82,.call (.c (.fn (.func 249) [] [])) [(.t 81), (.c (.lit (.bool false)))], (some (77, true))⟩,
 ⟨some 83,.not (.t 82), (some (77, true))⟩,
 ⟨some 84,.pick (.t 77) (.t 83) (.c (.lit (.bool false))),none⟩,
 ⟨some 85,.call (.c (.fn (.func 246) [] [])) [(.t 84)],none⟩])
 (.seq (.reg [⟨some 86,.mov (.t 5),none⟩,
 ⟨some 2,.mov (.t 86),none⟩])
 (.ret)))))))⟩
def f246 : F := ⟨6, [], none, .seq (.reg [⟨some 2,.mov (.t 0),none⟩,
 ⟨some 3,.not (.t 2),none⟩])
 (.cond (.t 3)
 (.reg [⟨some 4,.build [.lit (.int .i64 0)] [(0, 1, (.c (.lit (.int .i64 2))))],none⟩,
 ⟨some 5,.iface 325 (.t 4),none⟩,
 ⟨none, .panic (.t 5),none⟩])
 (.skip))⟩
def f247 : F := ⟨34, [.tmp 2], none, .seq (.reg [⟨some 2,.mov (.c (.lit (.bool false))),none⟩])
 (.seq (.seq (.reg [⟨some 4,.mov (.t 0),none⟩,
 ⟨some 5,.len .str (.t 4),none⟩,
 ⟨some 6,.mov (.c (.lit (.int .i64 0))),none⟩])
 (.block 0 (.loop (.seq (.reg [⟨some 7,.ar .lss (.t 6) (.t 5),none⟩])
 (.seq (.cond (.t 7)
 (.skip)
 (.exit 0))
 (.seq (.block 1 (.seq (.reg [⟨some 8,.mov (.t 6),none⟩,
 ⟨some 3,.mov (.t 8),none⟩])
 (.seq (.reg [⟨some 9,.mov (.t 0),none⟩,
 ⟨some 10,.mov (.t 3),none⟩,
 ⟨some 11,.idxS (.t 9) (.t 10),none⟩,
 ⟨some 12,.ar .lss (.t 11) (.c (.lit (.int .u8 97))),none⟩,
 ⟨some 13,.mov (.t 12),none⟩,
 ⟨some 14,.mov (.t 0), (some (13, false))⟩,
 ⟨some 15,.mov (.t 3), (some (13, false))⟩,
 ⟨some 16,.idxS (.t 14) (.t 15), (some (13, false))⟩,
 ⟨some 17,.ar .gtr (.t 16) (.c (.lit (.int .u8 122))), (some (13, false))⟩,
 ⟨some 18,.pick (.t 13) (.c (.lit (.bool true))) (.t 17),none⟩])
 (.cond (.t 18)
 (.seq (.reg [⟨some 2,.mov (.c (.lit (.bool false))),none⟩])
 (.ret))
 (.skip)))))
 (.reg [⟨some 19,.ar .add (.t 6) (.c (.lit (.int .i64 1))),none⟩,
 ⟨some 6,.mov (.t 19),none⟩])))))))
 (.seq (.reg [⟨some 20,.mov (.t 0),none⟩,
 ⟨some 21,.len .str (.t 20),none⟩,
 ⟨some 22,.ar .gtr (.t 21) (.c (.lit (.int .i64 0))),none⟩,
 ⟨some 23,.mov (.t 22),none⟩,
 ⟨some 24,.mov (.t 0), (some (23, true))⟩,
 ⟨some 25,.len .str (.t 24), (some (23, true))⟩,
 ⟨some 26,.ar .leq (.t 25) (.c (.lit (.int .i64 8))), (some (23, true))⟩,
 ⟨some 27,.pick (.t 23) (.t 26) (.c (.lit (.bool false))),none⟩,
 ⟨some 28,.mov (.t 27),none⟩,
 ⟨some 29,.call (.c (.fn (.func 250) [] [])) [], (some (28, true))⟩,
 ⟨some 30,.mov (.t 0), (some (28, true))⟩,
 ⟨some 31,.look (.one (.string)) (.lit (.bool false)) false (.t 29) (.t 30), (some (28, true))⟩,
 ⟨some 32,.not (.t 31), (some (28, true))⟩,
 ⟨some 33,.pick (.t 28) (.t 32) (.c (.lit (.bool false))),none⟩,
 ⟨some 2,.mov (.t 33),none⟩])
 (.ret)))⟩
def f248 : F := ⟨231, [], none, .seq (.reg [⟨some 18,.mov (.t 1),none⟩,
 ⟨some 19,.ar .geq (.t 18) (.c (.lit (.int .i64 0))),none⟩,
 ⟨some 20,.mov (.t 19),none⟩,
 ⟨some 21,.mov (.t 1), (some (20, true))⟩,
 ⟨some 22,.mov (.t 0), (some (20, true))⟩,
 ⟨some 23,.chk (.t 22), (some (20, true))⟩,
 ⟨some 24,.fieldA 0 (.t 23), (some (20, true))⟩,
 ⟨some 25,.fieldA 1 (.t 24), (some (20, true))⟩,
 ⟨some 26,.load none (.t 25), (some (20, true))⟩,
 ⟨some 27,.len .slc (.t 26), (some (20, true))⟩,
 ⟨some 28,.ar .lss (.t 21) (.t 27), (some (20, true))⟩,
 ⟨some 29,.pick (.t 20) (.t 28) (.c (.lit (.bool false))),none⟩,
 ⟨some 30,.mov (.t 29),none⟩,
 ⟨some 31,.mov (.t 0), (some (30, true))⟩,
 ⟨some 32,.chk (.t 31), (some (30, true))⟩,
 ⟨some 33,.fieldA 5 (.t 32), (some (30, true))⟩,
 ⟨some 34,.load none (.t 33), (some (30, true))⟩,
 ⟨some 35,.mov (.t 1), (some (30, true))⟩,
 ⟨some 36,.idxA 1 (.t 34) (.t 35), (some (30, true))⟩,
 ⟨some 37,.load none (.t 36), (some (30, true))⟩,
 ⟨some 38,.not (.t 37), (some (30, true))⟩,
 ⟨some 39,.pick (.t 30) (.t 38) (.c (.lit (.bool false))),none⟩,
 ⟨some 40,.call (.c (.fn (.func 246) [] [])) [(.t 39)],none⟩])
 (.seq (.regD [(.pure, ⟨some 41,.mov (.t 0),none⟩),
  (.read 0 0, ⟨some 42,.chk (.t 41),none⟩),
  (.read 0 0, ⟨some 43,.fieldA 5 (.t 42),none⟩),
  (.read 0 0, ⟨some 44,.load none (.t 43),none⟩),
  (.pure, ⟨some 45,.mov (.t 1),none⟩),
  (.pure, ⟨some 46,.mov (.t 0),none⟩),
  (.read 0 0, ⟨some 47,.chk (.t 46),none⟩),
  (.read 0 0, ⟨some 48,.fieldA 4 (.t 47),none⟩),
  (.read 0 0, ⟨some 49,.load none (.t 48),none⟩),
  (.pure, ⟨some 50,.mov (.t 1),none⟩),
  (.pure, ⟨some 51,.mov (.t 2),none⟩),
  (.read 0 0, ⟨some 52,.idxA 1 (.t 44) (.t 45),none⟩),
  (.loud true [], ⟨none, .store 1 (.t 52) (.c (.lit (.bool true))),none⟩),
  (.read 1 1, ⟨some 53,.idxA 1 (.t 49) (.t 50),none⟩),
  (.loud true [], ⟨none, .store 1 (.t 53) (.t 51),none⟩)])
 (.seq (.reg [⟨some 54,.mov (.t 0),none⟩,
 ⟨some 55,.chk (.t 54),none⟩,
 ⟨some 56,.fieldA 0 (.t 55),none⟩,
 ⟨some 57,.fieldA 1 (.t 56),none⟩,
 ⟨some 58,.load none (.t 57),none⟩,
 ⟨some 59,.mov (.t 1),none⟩,
 ⟨some 60,.idxA 4 (.t 58) (.t 59),none⟩,
 ⟨some 61,.load (some 4) (.t 60),none⟩,
 ⟨some 6,.alloc [.lit (.int .i64 0), .lit (.int .i64 0), .lit (.slice none 0 0), .lit (.slice none 0 0)],none⟩,
 ⟨none, .store 4 (.t 6) (.t 61),none⟩])
 (.seq (.reg [⟨some 62,.fieldA 0 (.t 6),none⟩,
 ⟨some 63,.load none (.t 62),none⟩,
 ⟨some 64,.call (.c (.fn (.func 251) [] [])) [(.t 63)],none⟩,
 ⟨some 7,.mov (.t 64),none⟩])
 (.seq (.regD [(.pure, ⟨some 65,.mov (.t 7),none⟩),
  (.read 0 0, ⟨some 66,.eqNil true .ifc (.t 65),none⟩),
  (.pure, ⟨some 67,.mov (.t 66),none⟩),
  (.read 0 1, ⟨some 68,.fieldA 3 (.t 6), (some (67, true))⟩),
  (.read 0 1, ⟨some 69,.load none (.t 68), (some (67, true))⟩),
  (.read 0 1, ⟨some 70,.len .slc (.t 69), (some (67, true))⟩),
  (.pure, ⟨some 71,.mov (.t 7), (some (67, true))⟩),
  (.loud true [], ⟨some 72,.inv [(333, 274), (334, 275), (335, 276), (336, 277), (340, 278)] (.t 71) [], (some (67, true))⟩),
  (.pure, ⟨some 73,.ar .eql (.t 70) (.t 72), (some (67, true))⟩),
  (.pure, ⟨some 74,.pick (.t 67) (.t 73) (.c (.lit (.bool false))),none⟩),
  (.loud true [], ⟨some 75,.call (.c (.fn (.func 246) [] [])) [(.t 74)],none⟩)])
 (.seq (.reg [⟨some 8,.mov (.c (.lit (.int .i64 0))),none⟩])
 (.seq (.seq (.reg [⟨some 76,.mov (.t 7),none⟩])
 (.block 0 (.seq (.reg [⟨some 81,.assert 333 (.agg []) true (.t 76),none⟩,
 ⟨some 82,.ext (.t 81) 1,none⟩,
 ⟨some 83,.ext (.t 81) 0,none⟩])
 (.cond (.t 82)
 (.seq (.reg [⟨some 84,.fieldA 2 (.t 6),none⟩,
 ⟨some 85,.load none (.t 84),none⟩,
 ⟨some 86,.len .slc (.t 85),none⟩,
 ⟨some 87,.min (.t 86) (.c (.lit (.int .i64 3))),none⟩,
 ⟨some 8,.mov (.t 87),none⟩])
 (.reg [⟨some 88,.fieldA 1 (.t 6),none⟩,
 ⟨some 89,.load none (.t 88),none⟩,
 ⟨some 90,.ar .geq (.t 89) (.c (.lit (.int .i64 0))),none⟩,
 ⟨some 91,.mov (.t 90),none⟩,
 ⟨some 92,.fieldA 1 (.t 6), (some (91, true))⟩,
 ⟨some 93,.load none (.t 92), (some (91, true))⟩,
 ⟨some 94,.mov (.t 2), (some (91, true))⟩,
 ⟨some 95,.ar .lss (.t 93) (.t 94), (some (91, true))⟩,
 ⟨some 96,.pick (.t 91) (.t 95) (.c (.lit (.bool false))),none⟩,
 ⟨some 97,.call (.c (.fn (.func 246) [] [])) [(.t 96)],none⟩]))
 (.seq (.reg [⟨some 98,.assert 334 (.agg []) true (.t 76),none⟩,
 ⟨some 99,.ext (.t 98) 1,none⟩,
 ⟨some 100,.ext (.t 98) 0,none⟩])
 (.cond (.t 99)
 (.reg [⟨some 101,.fieldA 1 (.t 6),none⟩,
 ⟨some 102,.load none (.t 101),none⟩,
 ⟨some 103,.ar .geq (.t 102) (.c (.lit (.int .i64 0))),none⟩,
 ⟨some 104,.mov (.t 103),none⟩,
 ⟨some 105,.fieldA 1 (.t 6), (some (104, true))⟩,
 ⟨some 106,.load none (.t 105), (some (104, true))⟩,
 ⟨some 107,.mov (.t 2), (some (104, true))⟩,
 ⟨some 108,.ar .lss (.t 106) (.t 107), (some (104, true))⟩,
 ⟨some 109,.pick (.t 104) (.t 108) (.c (.lit (.bool false))),none⟩,
 ⟨some 110,.call (.c (.fn (.func 246) [] [])) [(.t 109)],none⟩])
 (.seq (.reg [⟨some 111,.assert 335 (.agg []) true (.t 76),none⟩,
 ⟨some 112,.ext (.t 111) 1,none⟩,
 ⟨some 113,.ext (.t 111) 0,none⟩])
 (.cond (.t 112)
 (.regD [(.read 0 0, ⟨some 114,.fieldA 1 (.t 6),none⟩),
  (.read 0 0, ⟨some 115,.load none (.t 114),none⟩),
  (.pure, ⟨some 116,.ar .geq (.t 115) (.c (.lit (.int .i64 0))),none⟩),
  (.pure, ⟨some 117,.mov (.t 116),none⟩),
  (.read 0 0, ⟨some 118,.fieldA 1 (.t 6), (some (117, true))⟩),
  (.read 0 0, ⟨some 119,.load none (.t 118), (some (117, true))⟩),
  (.pure, ⟨some 120,.mov (.t 0), (some (117, true))⟩),
  (.read 0 0, ⟨some 121,.chk (.t 120), (some (117, true))⟩),
  (.read 0 0, ⟨some 122,.fieldA 0 (.t 121), (some (117, true))⟩),
  (.read 0 0, ⟨some 123,.fieldA 2 (.t 122), (some (117, true))⟩),
  (.read 0 0, ⟨some 124,.load none (.t 123), (some (117, true))⟩),
  (.read 0 0, ⟨some 125,.len .slc (.t 124), (some (117, true))⟩),
  (.pure, ⟨some 126,.ar .lss (.t 119) (.t 125), (some (117, true))⟩),
  (.pure, ⟨some 127,.pick (.t 117) (.t 126) (.c (.lit (.bool false))),none⟩),
  (.pure, ⟨some 128,.mov (.t 127),none⟩),
  (.pure, ⟨some 129,.mov (.t 0), (some (128, true))⟩),
  (.read 0 0, ⟨some 130,.chk (.t 129), (some (128, true))⟩),
  (.read 0 0, ⟨some 131,.fieldA 6 (.t 130), (some (128, true))⟩),
  (.read 0 0, ⟨some 132,.load none (.t 131), (some (128, true))⟩),
  (.read 0 0, ⟨some 133,.fieldA 1 (.t 6), (some (128, true))⟩),
  (.read 0 0, ⟨some 134,.load none (.t 133), (some (128, true))⟩),
  (.read 0 0, ⟨some 135,.idxA 1 (.t 132) (.t 134), (some (128, true))⟩),
  (.read 0 0, ⟨some 136,.load none (.t 135), (some (128, true))⟩),
  (.pure, ⟨some 137,.not (.t 136), (some (128, true))⟩),
  (.pure, ⟨some 138,.pick (.t 128) (.t 137) (.c (.lit (.bool false))),none⟩),
  (.loud true [], ⟨some 139,.call (.c (.fn (.func 246) [] [])) [(.t 138)],none⟩)])
 (.seq (.reg [⟨some 140,.assert 336 (.agg []) true (.t 76),none⟩,
 ⟨some 141,.ext (.t 140) 1,none⟩,
 ⟨some 142,.ext (.t 140) 0,none⟩])
 (.cond (.t 141)
 (.seq (.reg [⟨some 8,.mov (.c (.lit (.int .i64 1))),none⟩])
 (.reg [⟨some 143,.fieldA 1 (.t 6),none⟩,
 ⟨some 144,.load none (.t 143),none⟩,
 ⟨some 145,.ar .eql (.t 144) (.c (.lit (.int .i64 0))),none⟩,
 ⟨some 146,.call (.c (.fn (.func 246) [] [])) [(.t 145)],none⟩]))
 (.reg [⟨some 77,.fieldA 1 (.t 6),none⟩,
 ⟨some 78,.load none (.t 77),none⟩,
 ⟨some 79,.ar .eql (.t 78) (.c (.lit (.int .i64 0))),none⟩,
 ⟨some 80,.call (.c (.fn (.func 246) [] [])) [(.t 79)],none⟩])))))))))))
 (.seq (.reg [⟨some 147,.fieldA 2 (.t 6),none⟩,
 ⟨some 148,.load none (.t 147),none⟩,
 ⟨some 149,.len .slc (.t 148),none⟩,
 ⟨some 150,.mov (.t 8),none⟩,
 ⟨some 151,.ar .eql (.t 149) (.t 150),none⟩,
 ⟨some 152,.call (.c (.fn (.func 246) [] [])) [(.t 151)],none⟩])
 (.seq (.seq (.reg [⟨some 153,.fieldA 2 (.t 6),none⟩,
 ⟨some 154,.load none (.t 153),none⟩,
 ⟨some 155,.len .slc (.t 154),none⟩,
 ⟨some 156,.mov (.c (.lit (.int .i64 0))),none⟩])
 (.block 1 (.loop (.seq (.reg [⟨some 157,.ar .lss (.t 156) (.t 155),none⟩])
 (.seq (.cond (.t 157)
 (.skip)
 (.exit 1))
 (.seq (.block 2 (.seq (.reg [⟨some 158,.idxA 3 (.t 154) (.t 156),none⟩,
 ⟨some 159,.load (some 3) (.t 158),none⟩,
 ⟨some 10,.alloc [.lit (.int .i64 0), .lit (.int .i64 0), .lit (.slice none 0 0)],none⟩,
 ⟨none, .store 3 (.t 10) (.t 159),none⟩])
 (.reg [⟨some 160,.load (some 3) (.t 10),none⟩,
 ⟨some 161,.mov (.t 2),none⟩,
 ⟨some 162,.call (.c (.fn (.func 252) [] [])) [(.t 160), (.t 161)],none⟩])))
 (.reg [⟨some 163,.ar .add (.t 156) (.c (.lit (.int .i64 1))),none⟩,
 ⟨some 156,.mov (.t 163),none⟩])))))))
 (.seq (.seq (.reg [⟨some 164,.fieldA 0 (.t 6),none⟩,
 ⟨some 165,.load none (.t 164),none⟩,
 ⟨some 166,.ar .eql (.t 165) (.c (.lit (.int .i64 4))),none⟩])
 (.cond (.t 166)
 (.seq (.regD [(.pure, ⟨some 167,.mov (.t 0),none⟩),
  (.read 0 0, ⟨some 168,.chk (.t 167),none⟩),
  (.read 0 0, ⟨some 169,.fieldA 6 (.t 168),none⟩),
  (.read 0 0, ⟨some 170,.load none (.t 169),none⟩),
  (.read 0 0, ⟨some 171,.fieldA 1 (.t 6),none⟩),
  (.read 0 0, ⟨some 172,.load none (.t 171),none⟩),
  (.read 0 0, ⟨some 173,.idxA 1 (.t 170) (.t 172),none⟩),
  (.loud true [], ⟨none, .store 1 (.t 173) (.c (.lit (.bool true))),none⟩)])
 (.seq (.regD [(.pure, ⟨some 174,.mov (.t 0),none⟩),
  (.read 0 0, ⟨some 175,.chk (.t 174),none⟩),
  (.read 0 0, ⟨some 176,.fieldA 0 (.t 175),none⟩),
  (.read 0 0, ⟨some 177,.fieldA 2 (.t 176),none⟩),
  (.read 0 0, ⟨some 178,.load none (.t 177),none⟩),
  (.read 0 0, ⟨some 179,.fieldA 1 (.t 6),none⟩),
  (.read 0 0, ⟨some 180,.load none (.t 179),none⟩),
  (.read 0 0, ⟨some 181,.idxA 3 (.t 178) (.t 180),none⟩),
  (.read 0 0, ⟨some 182,.load (some 3) (.t 181),none⟩),
  (.made, ⟨some 11,.alloc [.lit (.slice none 0 0), .lit (.slice none 0 0), .lit (.slice none 0 0)],none⟩),
  (.loud true [], ⟨none, .store 3 (.t 11) (.t 182),none⟩)])
 (.seq (.reg [⟨some 183,.load (some 3) (.t 11),none⟩,
 ⟨some 184,.call (.c (.fn (.func 253) [] [])) [(.t 183)],none⟩])
 (.seq (.reg [⟨some 185,.mov (.t 2),none⟩,
 ⟨some 186,.load (some 3) (.t 11),none⟩,
 ⟨some 187,.call (.c (.fn (.func 254) [] [])) [(.t 186)],none⟩,
 ⟨some 188,.ar .add (.t 185) (.t 187),none⟩,
 ⟨some 2,.mov (.t 188),none⟩])
 (.seq (.seq (.reg [⟨some 189,.fieldA 2 (.t 11),none⟩,
 ⟨some 190,.load none (.t 189),none⟩,
 ⟨some 191,.len .slc (.t 190),none⟩,
 ⟨some 192,.mov (.c (.lit (.int .i64 0))),none⟩])
 (.block 3 (.loop (.seq (.reg [⟨some 193,.ar .lss (.t 192) (.t 191),none⟩])
 (.seq (.cond (.t 193)
 (.skip)
 (.exit 3))
 (.seq (.block 4 (.seq (.reg [⟨some 194,.idxA 3 (.t 190) (.t 192),none⟩,
 ⟨some 195,.load (some 3) (.t 194),none⟩,
 ⟨some 13,.alloc [.lit (.int .i64 0), .lit (.slice none 0 0), .lit (.int .i64 0)],none⟩,
 ⟨none, .store 3 (.t 13) (.t 195),none⟩])
 (.regD [(.pure, ⟨some 196,.mov (.t 0),none⟩),
  (.read 0 1, ⟨some 197,.fieldA 2 (.t 13),none⟩),
  (.read 0 1, ⟨some 198,.load none (.t 197),none⟩),
  (.pure, ⟨some 199,.mov (.t 2),none⟩),
  (.read 0 0, ⟨some 200,.load (some 3) (.t 11),none⟩),
  (.read 0 0, ⟨some 201,.load (some 3) (.t 13),none⟩),
  (.loud true [], ⟨some 202,.call (.c (.fn (.func 255) [] [])) [(.t 200), (.t 201)],none⟩),
  (.pure, ⟨some 203,.ar .add (.t 199) (.t 202),none⟩),
  (.loud true [], ⟨some 204,.call (.c (.fn (.func 248) [] [])) [(.t 196), (.t 198), (.t 203)],none⟩)])))
 (.reg [⟨some 205,.ar .add (.t 192) (.c (.lit (.int .i64 1))),none⟩,
 ⟨some 192,.mov (.t 205),none⟩])))))))
 (.seq (.reg [⟨some 206,.fieldA 1 (.t 11),none⟩,
 ⟨some 207,.load none (.t 206),none⟩,
 ⟨some 208,.len .slc (.t 207),none⟩,
 ⟨some 209,.mov (.c (.lit (.int .i64 0))),none⟩])
 (.block 5 (.loop (.seq (.reg [⟨some 210,.ar .lss (.t 209) (.t 208),none⟩])
 (.seq (.cond (.t 210)
 (.skip)
 (.exit 5))
 (.seq (.block 6 (.seq (.reg [⟨some 211,.idxA 2 (.t 207) (.t 209),none⟩,
 ⟨some 212,.load (some 2) (.t 211),none⟩,
 ⟨some 15,.alloc [.lit (.int .i64 0), .lit (.int .i64 0)],none⟩,
 ⟨none, .store 2 (.t 15) (.t 212),none⟩])
 (.reg [⟨some 213,.mov (.t 0),none⟩,
 ⟨some 214,.fieldA 1 (.t 15),none⟩,
 ⟨some 215,.load none (.t 214),none⟩,
 ⟨some 216,.mov (.t 2),none⟩,
 ⟨some 217,.call (.c (.fn (.func 248) [] [])) [(.t 213), (.t 215), (.t 216)],none⟩])))
 (.reg [⟨some 218,.ar .add (.t 209) (.c (.lit (.int .i64 1))),none⟩,
 ⟨some 209,.mov (.t 218),none⟩]))))))))))))
 (.skip)))
 (.seq (.reg [⟨some 219,.fieldA 3 (.t 6),none⟩,
 ⟨some 220,.load none (.t 219),none⟩,
 ⟨some 221,.len .slc (.t 220),none⟩,
 ⟨some 222,.mov (.c (.lit (.int .i64 0))),none⟩])
 (.block 7 (.loop (.seq (.reg [⟨some 223,.ar .lss (.t 222) (.t 221),none⟩])
 (.seq (.cond (.t 223)
 (.skip)
 (.exit 7))
 (.seq (.block 8 (.seq (.reg [⟨some 224,.idxA 1 (.t 220) (.t 222),none⟩,
 ⟨some 225,.load none (.t 224),none⟩,
 ⟨some 17,.mov (.t 225),none⟩])
 (.reg [⟨some 226,.mov (.t 0),none⟩,
 ⟨some 227,.mov (.t 17),none⟩,
 ⟨some 228,.mov (.t 2),none⟩,
 ⟨some 229,.call (.c (.fn (.func 248) [] [])) [(.t 226), (.t 227), (.t 228)],none⟩])))
 (.reg [⟨some 230,.ar .add (.t 222) (.c (.lit (.int .i64 1))),none⟩,
 ⟨some 222,.mov (.t 230),none⟩]))))))))))))))))⟩
def f249 : F := ⟨9, [.tmp 4], none, .seq (.reg [⟨some 4,.mov (.c (.lit (.bool false))),none⟩])
 (.seq (.reg [⟨some 5,.mov (.t 0),none⟩,
 ⟨some 6,.mov (.t 1),none⟩,
 ⟨some 7,.call (.c (.fn (.func 256) [] [])) [(.t 5), (.t 6)],none⟩,
 ⟨some 8,.ar .geq (.t 7) (.c (.lit (.int .i64 0))),none⟩,
 ⟨some 4,.mov (.t 8),none⟩])
 (.ret))⟩
def f250 : F := ⟨3, [.tmp 0], none, .seq (.reg [⟨some 0,.mov (.c (.lit (.map none))),none⟩])
 (.seq (.reg [⟨some 1,.makeM,none⟩,
 ⟨none, .upd (.one (.string)) (.t 1) (.c (.lit (.string ⟨#[97, 110, 100]⟩))) (.c (.lit (.bool true))),none⟩,
 ⟨none, .upd (.one (.string)) (.t 1) (.c (.lit (.string ⟨#[100, 101, 102]⟩))) (.c (.lit (.bool true))),none⟩,
 ⟨none, .upd (.one (.string)) (.t 1) (.c (.lit (.string ⟨#[101, 108, 115, 101]⟩))) (.c (.lit (.bool true))),none⟩,
 ⟨none, .upd (.one (.string)) (.t 1) (.c (.lit (.string ⟨#[103, 111]⟩))) (.c (.lit (.bool true))),none⟩,
 ⟨none, .upd (.one (.string)) (.t 1) (.c (.lit (.string ⟨#[105, 102]⟩))) (.c (.lit (.bool true))),none⟩,
 ⟨none, .upd (.one (.string)) (.t 1) (.c (.lit (.string ⟨#[105, 110]⟩))) (.c (.lit (.bool true))),none⟩,
 ⟨none, .upd (.one (.string)) (.t 1) (.c (.lit (.string ⟨#[112, 108, 97, 99, 101]⟩))) (.c (.lit (.bool true))),none⟩,
 ⟨none, .upd (.one (.string)) (.t 1) (.c (.lit (.string ⟨#[115, 116, 111, 112]⟩))) (.c (.lit (.bool true))),none⟩,
 ⟨none, .upd (.one (.string)) (.t 1) (.c (.lit (.string ⟨#[116, 104, 101, 110]⟩))) (.c (.lit (.bool true))),none⟩,
 ⟨none, .upd (.one (.string)) (.t 1) (.c (.lit (.string ⟨#[119, 97, 116, 99, 104]⟩))) (.c (.lit (.bool true))),none⟩,
 ⟨some 2,.mov (.t 1),none⟩,
 ⟨some 0,.mov (.t 2),none⟩])
 (.ret))⟩
def f251 : F := ⟨28, [.tmp 2], none, .seq (.reg [⟨some 2,.mov (.c (.lit (.nilIface))),none⟩])
 (.seq (.seq (.reg [⟨some 3,.mov (.t 0),none⟩])
 (.block 0 (.seq (.seq (.reg [⟨some 5,.ar .eql (.t 3) (.c (.lit (.int .i64 1))),none⟩,
 ⟨some 4,.mov (.t 5),none⟩])
 (.cond (.t 4)
 (.skip)
 (.reg [⟨some 6,.ar .eql (.t 3) (.c (.lit (.int .i64 7))),none⟩,
 ⟨some 4,.mov (.t 6),none⟩])))
 (.cond (.t 4)
 (.seq (.reg [⟨some 7,.iface 340 (.c (.lit (.int .i64 0))),none⟩,
 ⟨some 2,.mov (.t 7),none⟩])
 (.ret))
 (.seq (.reg [⟨some 9,.ar .eql (.t 3) (.c (.lit (.int .i64 3))),none⟩,
 ⟨some 8,.mov (.t 9),none⟩])
 (.cond (.t 8)
 (.seq (.reg [⟨some 10,.iface 340 (.c (.lit (.int .i64 2))),none⟩,
 ⟨some 2,.mov (.t 10),none⟩])
 (.ret))
 (.seq (.reg [⟨some 12,.ar .eql (.t 3) (.c (.lit (.int .i64 2))),none⟩,
 ⟨some 11,.mov (.t 12),none⟩])
 (.cond (.t 11)
 (.seq (.reg [⟨some 13,.build [] [],none⟩,
 ⟨some 14,.iface 333 (.t 13),none⟩,
 ⟨some 2,.mov (.t 14),none⟩])
 (.ret))
 (.seq (.reg [⟨some 16,.ar .eql (.t 3) (.c (.lit (.int .i64 5))),none⟩,
 ⟨some 15,.mov (.t 16),none⟩])
 (.cond (.t 15)
 (.seq (.reg [⟨some 17,.build [] [],none⟩,
 ⟨some 18,.iface 336 (.t 17),none⟩,
 ⟨some 2,.mov (.t 18),none⟩])
 (.ret))
 (.seq (.seq (.reg [⟨some 20,.ar .eql (.t 3) (.c (.lit (.int .i64 6))),none⟩,
 ⟨some 19,.mov (.t 20),none⟩])
 (.cond (.t 19)
 (.skip)
 (.reg [⟨some 21,.ar .eql (.t 3) (.c (.lit (.int .i64 8))),none⟩,
 ⟨some 19,.mov (.t 21),none⟩])))
 (.cond (.t 19)
 (.seq (.reg [⟨some 22,.build [] [],none⟩,
 ⟨some 23,.iface 334 (.t 22),none⟩,
 ⟨some 2,.mov (.t 23),none⟩])
 (.ret))
 (.seq (.reg [⟨some 25,.ar .eql (.t 3) (.c (.lit (.int .i64 4))),none⟩,
 ⟨some 24,.mov (.t 25),none⟩])
 (.cond (.t 24)
 (.seq (.reg [⟨some 26,.build [] [],none⟩,
 ⟨some 27,.iface 335 (.t 26),none⟩,
 ⟨some 2,.mov (.t 27),none⟩])
 (.ret))
 (.skip)))))))))))))))
 (.seq (.reg [⟨some 2,.mov (.c (.lit (.nilIface))),none⟩])
 (.ret)))⟩
def f252 : F := ⟨10, [], none, .seq (.reg [⟨some 2,.box (.t 0),none⟩,
 ⟨some 3,.box (.t 1),none⟩])
 (.seq (.reg [⟨some 4,.alloc [.lit (.int .i64 0)],none⟩,
 ⟨none, .store 1 (.t 4) (.c (.lit (.int .i64 0))),none⟩])
 (.seq (.reg [⟨some 5,.alloc [.lit (.nilFunc)],none⟩])
 (.seq (.reg [⟨some 6,.func (.func 257) [] [(.t 4), (.t 3), (.t 5)],none⟩,
 ⟨none, .store 1 (.t 5) (.t 6),none⟩])
 (.reg [⟨some 7,.load none (.t 5),none⟩,
 ⟨some 8,.load (some 3) (.t 2),none⟩,
 ⟨some 9,.call (.t 7) [(.t 8), (.c (.lit (.int .i64 1)))],none⟩]))))⟩
def f253 : F := ⟨142, [], none, .seq (.reg [⟨some 1,.box (.t 0),none⟩])
 (.seq (.reg [⟨some 12,.fieldA 0 (.t 1),none⟩,
 ⟨some 13,.load none (.t 12),none⟩,
 ⟨some 14,.len .slc (.t 13),none⟩,
 ⟨some 15,.ar .leq (.t 14) (.c (.lit (.int .i64 30))),none⟩,
 ⟨some 16,.mov (.t 15),none⟩,
 ⟨some 17,.fieldA 1 (.t 1), (some (16, true))⟩,
 ⟨some 18,.load none (.t 17), (some (16, true))⟩,
 ⟨some 19,.len .slc (.t 18), (some (16, true))⟩,
 ⟨some 20,.ar .leq (.t 19) (.c (.lit (.int .i64 30))), (some (16, true))⟩,
 ⟨some 21,.pick (.t 16) (.t 20) (.c (.lit (.bool false))),none⟩,
 ⟨some 22,.mov (.t 21),none⟩,
 ⟨some 23,.fieldA 2 (.t 1), (some (22, true))⟩,
 ⟨some 24,.load none (.t 23), (some (22, true))⟩,
 ⟨some 25,.len .slc (.t 24), (some (22, true))⟩,
 ⟨some 26,.ar .leq (.t 25) (.c (.lit (.int .i64 30))), (some (22, true))⟩,
 ⟨some 27,.pick (.t 22) (.t 26) (.c (.lit (.bool false))),none⟩,
 ⟨some 28,.call (.c (.fn (.func 246) [] [])) [(.t 27)],none⟩])
 (.seq (.reg [⟨some 29,.func (.func 258) [] [(.t 1)],none⟩,
 ⟨some 2,.mov (.t 29),none⟩])
 (.seq (.seq (.reg [⟨some 30,.fieldA 0 (.t 1),none⟩,
 ⟨some 31,.load none (.t 30),none⟩,
 ⟨some 32,.len .slc (.t 31),none⟩,
 ⟨some 33,.mov (.c (.lit (.int .i64 0))),none⟩])
 (.block 0 (.loop (.seq (.reg [⟨some 34,.ar .lss (.t 33) (.t 32),none⟩])
 (.seq (.cond (.t 34)
 (.skip)
 (.exit 0))
 (.seq (.block 1 (.seq (.reg [⟨some 35,.idxA 2 (.t 31) (.t 33),none⟩,
 ⟨some 36,.load (some 2) (.t 35),none⟩,
 ⟨some 4,.alloc [.lit (.int .i64 0), .lit (.int .i64 0)],none⟩,
 ⟨none, .store 2 (.t 4) (.t 36),none⟩])
 (.seq (.reg [⟨some 37,.mov (.t 2),none⟩,
 ⟨some 38,.fieldA 0 (.t 4),none⟩,
 ⟨some 39,.load none (.t 38),none⟩,
 ⟨some 40,.call (.t 37) [(.t 39)],none⟩])
 (.reg [⟨some 41,.fieldA 1 (.t 4),none⟩,
 ⟨some 42,.load none (.t 41),none⟩,
 ⟨some 43,.ar .geq (.t 42) (.c (.lit (.int .i64 0))),none⟩,
 ⟨some 44,.mov (.t 43),none⟩,
 ⟨some 45,.fieldA 1 (.t 4), (some (44, true))⟩,
 ⟨some 46,.load none (.t 45), (some (44, true))⟩,
 ⟨some 47,.ar .leq (.t 46) (.c (.lit (.int .i64 3))), (some (44, true))⟩,
 ⟨some 48,.pick (.t 44) (.t 47) (.c (.lit (.bool false))),none⟩,
 ⟨some 49,.call (.c (.fn (.func 246) [] [])) [(.t 48)],none⟩]))))
 (.reg [⟨some 50,.ar .add (.t 33) (.c (.lit (.int .i64 1))),none⟩,
 ⟨some 33,.mov (.t 50),none⟩])))))))
 (.seq (.seq (.reg [⟨some 51,.fieldA 1 (.t 1),none⟩,
 ⟨some 52,.load none (.t 51),none⟩,
 ⟨some 53,.len .slc (.t 52),none⟩,
 ⟨some 54,.mov (.c (.lit (.int .i64 0))),none⟩])
 (.block 2 (.loop (.seq (.reg [⟨some 55,.ar .lss (.t 54) (.t 53),none⟩])
 (.seq (.cond (.t 55)
 (.skip)
 (.exit 2))
 (.seq (.block 3 (.seq (.reg [⟨some 56,.mov (.t 54),none⟩,
 ⟨some 57,.idxA 2 (.t 52) (.t 54),none⟩,
 ⟨some 58,.load (some 2) (.t 57),none⟩,
 ⟨some 6,.alloc [.lit (.int .i64 0), .lit (.int .i64 0)],none⟩,
 ⟨some 5,.mov (.t 56),none⟩,
 ⟨none, .store 2 (.t 6) (.t 58),none⟩])
 (.reg [⟨some 59,.fieldA 0 (.t 6),none⟩,
 ⟨some 60,.load none (.t 59),none⟩,
 ⟨some 61,.ar .geq (.t 60) (.c (.lit (.int .i64 0))),none⟩,
 ⟨some 62,.mov (.t 61),none⟩,
 ⟨some 63,.fieldA 0 (.t 6), (some (62, true))⟩,
 ⟨some 64,.load none (.t 63), (some (62, true))⟩,
 ⟨some 65,.mov (.t 5), (some (62, true))⟩,
 ⟨some 66,.ar .leq (.t 64) (.t 65), (some (62, true))⟩,
 ⟨some 67,.pick (.t 62) (.t 66) (.c (.lit (.bool false))),none⟩,
 ⟨some 68,.call (.c (.fn (.func 246) [] [])) [(.t 67)],none⟩])))
 (.reg [⟨some 69,.ar .add (.t 54) (.c (.lit (.int .i64 1))),none⟩,
 ⟨some 54,.mov (.t 69),none⟩])))))))
 (.seq (.reg [⟨some 70,.makeM,none⟩,
 ⟨some 7,.mov (.t 70),none⟩])
 (.seq (.seq (.reg [⟨some 71,.fieldA 2 (.t 1),none⟩,
 ⟨some 72,.load none (.t 71),none⟩,
 ⟨some 73,.len .slc (.t 72),none⟩,
 ⟨some 74,.mov (.c (.lit (.int .i64 0))),none⟩])
 (.block 4 (.loop (.seq (.reg [⟨some 75,.ar .lss (.t 74) (.t 73),none⟩])
 (.seq (.cond (.t 75)
 (.skip)
 (.exit 4))
 (.seq (.block 5 (.seq (.reg [⟨some 76,.idxA 3 (.t 72) (.t 74),none⟩,
 ⟨some 77,.load (some 3) (.t 76),none⟩,
 ⟨some 9,.alloc [.lit (.int .i64 0), .lit (.slice none 0 0), .lit (.int .i64 0)],none⟩,
 ⟨none, .store 3 (.t 9) (.t 77),none⟩])
 (.seq (.reg [⟨some 78,.mov (.t 2),none⟩,
 ⟨some 79,.fieldA 0 (.t 9),none⟩,
 ⟨some 80,.load none (.t 79),none⟩,
 ⟨some 81,.call (.t 78) [(.t 80)],none⟩])
 (.seq (.reg [⟨some 82,.fieldA 1 (.t 9),none⟩,
 ⟨some 83,.load none (.t 82),none⟩,
 ⟨some 84,.len .slc (.t 83),none⟩,
 ⟨some 85,.ar .gtr (.t 84) (.c (.lit (.int .i64 0))),none⟩,
 ⟨some 86,.mov (.t 85),none⟩,
 ⟨some 87,.fieldA 1 (.t 9), (some (86, true))⟩,
 ⟨some 88,.load none (.t 87), (some (86, true))⟩,
 ⟨some 89,.len .slc (.t 88), (some (86, true))⟩,
 ⟨some 90,.ar .leq (.t 89) (.c (.lit (.int .i64 3))), (some (86, true))⟩,
 ⟨some 91,.pick (.t 86) (.t 90) (.c (.lit (.bool false))),none⟩,
 ⟨some 92,.call (.c (.fn (.func 246) [] [])) [(.t 91)],none⟩])
 (.seq (.reg [⟨some 93,.fieldA 1 (.t 9),none⟩,
 ⟨some 94,.load none (.t 93),none⟩,
 ⟨some 95,.len .slc (.t 94),none⟩,
 ⟨some 96,.mov (.c (.lit (.int .i64 0))),none⟩])
 (.block 6 (.loop (.seq (.reg [⟨some 97,.ar .lss (.t 96) (.t 95),none⟩])
 (.seq (.cond (.t 97)
 (.skip)
 (.exit 6))
 (.seq (.block 7 (.seq (.reg [⟨some 98,.mov (.t 96),none⟩,
 ⟨some 99,.idxA 1 (.t 94) (.t 96),none⟩,
 ⟨some 100,.load none (.t 99),none⟩,
 ⟨some 10,.mov (.t 98),none⟩,
 ⟨some 11,.mov (.t 100),none⟩])
 (.seq (.regD [(.pure, ⟨some 101,.mov (.t 11),none⟩),
  (.pure, ⟨some 102,.ar .geq (.t 101) (.c (.lit (.int .i64 0))),none⟩),
  (.pure, ⟨some 103,.mov (.t 102),none⟩),
  (.pure, ⟨some 104,.mov (.t 11), (some (103, true))⟩),
  (.read 0 0, ⟨some 105,.fieldA 0 (.t 1), (some (103, true))⟩),
  (.read 0 0, ⟨some 106,.load none (.t 105), (some (103, true))⟩),
  (.read 0 0, ⟨some 107,.len .slc (.t 106), (some (103, true))⟩),
  (.pure, ⟨some 108,.ar .lss (.t 104) (.t 107), (some (103, true))⟩),
  (.pure, ⟨some 109,.pick (.t 103) (.t 108) (.c (.lit (.bool false))),none⟩),
  (.pure, ⟨some 110,.mov (.t 109),none⟩),
  (.read 0 0, ⟨some 111,.fieldA 0 (.t 1), (some (110, true))⟩),
  (.read 0 0, ⟨some 112,.load none (.t 111), (some (110, true))⟩),
  (.pure, ⟨some 113,.mov (.t 11), (some (110, true))⟩),
  (.read 0 0, ⟨some 114,.idxA 2 (.t 112) (.t 113), (some (110, true))⟩),
  (.read 0 0, ⟨some 115,.fieldA 0 (.t 114), (some (110, true))⟩),
  (.read 0 0, ⟨some 116,.load none (.t 115), (some (110, true))⟩),
  (.read 0 0, ⟨some 117,.fieldA 0 (.t 9), (some (110, true))⟩),
  (.read 0 0, ⟨some 118,.load none (.t 117), (some (110, true))⟩),
  (.pure, ⟨some 119,.ar .eql (.t 116) (.t 118), (some (110, true))⟩),
  (.pure, ⟨some 120,.pick (.t 110) (.t 119) (.c (.lit (.bool false))),none⟩),
  (.pure, ⟨some 121,.mov (.t 120),none⟩),
  (.read 0 0, ⟨some 122,.fieldA 1 (.t 9), (some (121, true))⟩),
  (.read 0 0, ⟨some 123,.load none (.t 122), (some (121, true))⟩),
  (.pure, ⟨some 124,.mov (.t 10), (some (121, true))⟩),
  (.read 0 0, ⟨some 125,.slice 1 (.t 123) none (some (.t 124)), (some (121, true))⟩),
  (.pure, ⟨some 126,.mov (.t 11), (some (121, true))⟩),
  (.loud true [], ⟨some 127,.call (.c (.fn (.func 12) [] [])) [(.t 125), (.t 126)], (some (121, true))⟩),
  (.pure, ⟨some 128,.not (.t 127), (some (121, true))⟩),
  (.pure, ⟨some 129,.pick (.t 121) (.t 128) (.c (.lit (.bool false))),none⟩),
  (.loud true [], ⟨some 130,.call (.c (.fn (.func 246) [] [])) [(.t 129)],none⟩)])
 (.reg [⟨some 131,.mov (.t 7),none⟩,
 ⟨some 132,.mov (.t 11),none⟩,
 ⟨none, .upd (.one (.int .i64)) (.t 131) (.t 132) (.c (.lit (.bool true))),none⟩]))))
 (.reg [⟨some 133,.ar .add (.t 96) (.c (.lit (.int .i64 1))),none⟩,
 ⟨some 96,.mov (.t 133),none⟩])))))))))))
 (.reg [⟨some 134,.ar .add (.t 74) (.c (.lit (.int .i64 1))),none⟩,
 ⟨some 74,.mov (.t 134),none⟩])))))))
 (.reg [⟨some 135,.mov (.t 7),none⟩,
 ⟨some 136,.len .map (.t 135),none⟩,
 ⟨some 137,.fieldA 0 (.t 1),none⟩,
 ⟨some 138,.load none (.t 137),none⟩,
 ⟨some 139,.len .slc (.t 138),none⟩,
 ⟨some 140,.ar .eql (.t 136) (.t 139),none⟩,
 ⟨some 141,.call (.c (.fn (.func 246) [] [])) [(.t 140)],none⟩])))))))⟩
def f254 : F := ⟨10, [.tmp 2], none, .seq (.reg [⟨some 1,.box (.t 0),none⟩,
 ⟨some 2,.mov (.c (.lit (.int .i64 0))),none⟩])
 (.seq (.reg [⟨some 3,.fieldA 0 (.t 1),none⟩,
 ⟨some 4,.load none (.t 3),none⟩,
 ⟨some 5,.len .slc (.t 4),none⟩,
 ⟨some 6,.fieldA 1 (.t 1),none⟩,
 ⟨some 7,.load none (.t 6),none⟩,
 ⟨some 8,.len .slc (.t 7),none⟩,
 ⟨some 9,.ar .add (.t 5) (.t 8),none⟩,
 ⟨some 2,.mov (.t 9),none⟩])
 (.ret))⟩
def f255 : F := ⟨25, [.tmp 4], none, .seq (.reg [⟨some 2,.box (.t 0),none⟩,
 ⟨some 3,.box (.t 1),none⟩,
 ⟨some 4,.mov (.c (.lit (.int .i64 0))),none⟩])
 (.seq (.reg [⟨some 5,.mov (.c (.lit (.int .i64 0))),none⟩])
 (.seq (.seq (.reg [⟨some 8,.fieldA 1 (.t 3),none⟩,
 ⟨some 9,.load none (.t 8),none⟩,
 ⟨some 10,.len .slc (.t 9),none⟩,
 ⟨some 11,.mov (.c (.lit (.int .i64 0))),none⟩])
 (.block 0 (.loop (.seq (.reg [⟨some 12,.ar .lss (.t 11) (.t 10),none⟩])
 (.seq (.cond (.t 12)
 (.skip)
 (.exit 0))
 (.seq (.block 1 (.seq (.reg [⟨some 13,.idxA 1 (.t 9) (.t 11),none⟩,
 ⟨some 14,.load none (.t 13),none⟩,
 ⟨some 7,.mov (.t 14),none⟩])
 (.reg [⟨some 15,.mov (.t 5),none⟩,
 ⟨some 16,.fieldA 0 (.t 2),none⟩,
 ⟨some 17,.load none (.t 16),none⟩,
 ⟨some 18,.mov (.t 7),none⟩,
 ⟨some 19,.idxA 2 (.t 17) (.t 18),none⟩,
 ⟨some 20,.fieldA 1 (.t 19),none⟩,
 ⟨some 21,.load none (.t 20),none⟩,
 ⟨some 22,.ar .add (.t 15) (.t 21),none⟩,
 ⟨some 5,.mov (.t 22),none⟩])))
 (.reg [⟨some 23,.ar .add (.t 11) (.c (.lit (.int .i64 1))),none⟩,
 ⟨some 11,.mov (.t 23),none⟩])))))))
 (.seq (.reg [⟨some 24,.mov (.t 5),none⟩,
 ⟨some 4,.mov (.t 24),none⟩])
 (.ret))))⟩
def f256 : F := ⟨19, [.tmp 4], none, .seq (.reg [⟨some 4,.mov (.c (.lit (.int .i64 0))),none⟩])
 (.seq (.seq (.reg [⟨some 6,.mov (.t 0),none⟩,
 ⟨some 7,.len .slc (.t 6),none⟩,
 ⟨some 8,.mov (.c (.lit (.int .i64 0))),none⟩])
 (.block 0 (.loop (.seq (.reg [⟨some 9,.ar .lss (.t 8) (.t 7),none⟩])
 (.seq (.cond (.t 9)
 (.skip)
 (.exit 0))
 (.seq (.block 1 (.seq (.reg [⟨some 10,.mov (.t 8),none⟩,
 ⟨some 5,.mov (.t 10),none⟩])
 (.seq (.reg [⟨some 11,.mov (.t 1),none⟩,
 ⟨some 12,.mov (.t 0),none⟩,
 ⟨some 13,.mov (.t 5),none⟩,
 ⟨some 14,.idxA 1 (.t 12) (.t 13),none⟩,
 ⟨some 15,.load none (.t 14),none⟩,
 ⟨some 16,.eqB false (.t 11) (.t 15),none⟩])
 (.cond (.t 16)
 (.seq (.reg [⟨some 17,.mov (.t 5),none⟩,
 ⟨some 4,.mov (.t 17),none⟩])
 (.ret))
 (.skip)))))
 (.reg [⟨some 18,.ar .add (.t 8) (.c (.lit (.int .i64 1))),none⟩,
 ⟨some 8,.mov (.t 18),none⟩])))))))
 (.seq (.reg [⟨some 4,.mov (.c (.lit (.int .i64 (-1)))),none⟩])
 (.ret)))⟩
def f257 : F := ⟨85, [], none, .seq (.reg [⟨some 5,.box (.t 0),none⟩])
 (.seq (.reg [⟨some 9,.load none (.t 2),none⟩,
 ⟨some 10,.ar .add (.t 9) (.c (.lit (.int .i64 1))),none⟩,
 ⟨none, .store 1 (.t 2) (.t 10),none⟩])
 (.seq (.reg [⟨some 11,.load none (.t 2),none⟩,
 ⟨some 12,.ar .leq (.t 11) (.c (.lit (.int .i64 60))),none⟩,
 ⟨some 13,.mov (.t 12),none⟩,
 ⟨some 14,.mov (.t 1), (some (13, true))⟩,
 ⟨some 15,.ar .leq (.t 14) (.c (.lit (.int .i64 12))), (some (13, true))⟩,
 ⟨some 16,.pick (.t 13) (.t 15) (.c (.lit (.bool false))),none⟩,
 ⟨some 17,.call (.c (.fn (.func 246) [] [])) [(.t 16)],none⟩])
 (.seq (.seq (.reg [⟨some 18,.fieldA 0 (.t 5),none⟩,
 ⟨some 19,.load none (.t 18),none⟩])
 (.block 0 (.seq (.reg [⟨some 22,.ar .eql (.t 19) (.c (.lit (.int .i64 1))),none⟩,
 ⟨some 21,.mov (.t 22),none⟩])
 (.cond (.t 21)
 (.reg [⟨some 23,.fieldA 1 (.t 5),none⟩,
 ⟨some 24,.load none (.t 23),none⟩,
 ⟨some 25,.ar .geq (.t 24) (.c (.lit (.int .i64 (-1000000000)))),none⟩,
 ⟨some 26,.mov (.t 25),none⟩,
 ⟨some 27,.fieldA 1 (.t 5), (some (26, true))⟩,
 ⟨some 28,.load none (.t 27), (some (26, true))⟩,
 ⟨some 29,.ar .leq (.t 28) (.c (.lit (.int .i64 1000000000))), (some (26, true))⟩,
 ⟨some 30,.pick (.t 26) (.t 29) (.c (.lit (.bool false))),none⟩,
 ⟨some 31,.mov (.t 30),none⟩,
 ⟨some 32,.fieldA 2 (.t 5), (some (31, true))⟩,
 ⟨some 33,.load none (.t 32), (some (31, true))⟩,
 ⟨some 34,.len .slc (.t 33), (some (31, true))⟩,
 ⟨some 35,.ar .eql (.t 34) (.c (.lit (.int .i64 0))), (some (31, true))⟩,
 ⟨some 36,.pick (.t 31) (.t 35) (.c (.lit (.bool false))),none⟩,
 ⟨some 37,.call (.c (.fn (.func 246) [] [])) [(.t 36)],none⟩])
 (.seq (.reg [⟨some 39,.ar .eql (.t 19) (.c (.lit (.int .i64 2))),none⟩,
 ⟨some 38,.mov (.t 39),none⟩])
 (.cond (.t 38)
 (.reg [⟨some 40,.fieldA 1 (.t 5),none⟩,
 ⟨some 41,.load none (.t 40),none⟩,
 ⟨some 42,.ar .geq (.t 41) (.c (.lit (.int .i64 0))),none⟩,
 ⟨some 43,.mov (.t 42),none⟩,
 ⟨some 44,.fieldA 1 (.t 5), (some (43, true))⟩,
 ⟨some 45,.load none (.t 44), (some (43, true))⟩,
 ⟨some 46,.load none (.t 3), (some (43, true))⟩,
 ⟨some 47,.ar .lss (.t 45) (.t 46), (some (43, true))⟩,
 ⟨some 48,.pick (.t 43) (.t 47) (.c (.lit (.bool false))),none⟩,
 ⟨some 49,.mov (.t 48),none⟩,
 ⟨some 50,.fieldA 2 (.t 5), (some (49, true))⟩,
 ⟨some 51,.load none (.t 50), (some (49, true))⟩,
 ⟨some 52,.len .slc (.t 51), (some (49, true))⟩,
 ⟨some 53,.ar .eql (.t 52) (.c (.lit (.int .i64 0))), (some (49, true))⟩,
 ⟨some 54,.pick (.t 49) (.t 53) (.c (.lit (.bool false))),none⟩,
 ⟨some 55,.call (.c (.fn (.func 246) [] [])) [(.t 54)],none⟩])
 (.seq (.seq (.reg [⟨some 57,.ar .eql (.t 19) (.c (.lit (.int .i64 3))),none⟩,
 ⟨some 56,.mov (.t 57),none⟩])
 (.cond (.t 56)
 (.skip)
 (.seq (.reg [⟨some 58,.ar .eql (.t 19) (.c (.lit (.int .i64 4))),none⟩,
 ⟨some 56,.mov (.t 58),none⟩])
 (.cond (.t 56)
 (.skip)
 (.seq (.reg [⟨some 59,.ar .eql (.t 19) (.c (.lit (.int .i64 5))),none⟩,
 ⟨some 56,.mov (.t 59),none⟩])
 (.cond (.t 56)
 (.skip)
 (.seq (.reg [⟨some 60,.ar .eql (.t 19) (.c (.lit (.int .i64 6))),none⟩,
 ⟨some 56,.mov (.t 60),none⟩])
 (.cond (.t 56)
 (.skip)
 (.reg [⟨some 61,.ar .eql (.t 19) (.c (.lit (.int .i64 7))),none⟩,
 ⟨some 56,.mov (.t 61),none⟩])))))))))
 (.cond (.t 56)
 (.reg [⟨some 62,.fieldA 1 (.t 5),none⟩,
 ⟨some 63,.load none (.t 62),none⟩,
 ⟨some 64,.ar .eql (.t 63) (.c (.lit (.int .i64 0))),none⟩,
 ⟨some 65,.mov (.t 64),none⟩,
 ⟨some 66,.fieldA 2 (.t 5), (some (65, true))⟩,
 ⟨some 67,.load none (.t 66), (some (65, true))⟩,
 ⟨some 68,.len .slc (.t 67), (some (65, true))⟩,
 ⟨some 69,.ar .eql (.t 68) (.c (.lit (.int .i64 2))), (some (65, true))⟩,
 ⟨some 70,.pick (.t 65) (.t 69) (.c (.lit (.bool false))),none⟩,
 ⟨some 71,.call (.c (.fn (.func 246) [] [])) [(.t 70)],none⟩])
 (.reg [⟨some 20,.call (.c (.fn (.func 246) [] [])) [(.c (.lit (.bool false)))],none⟩])))))))))
 (.seq (.reg [⟨some 72,.fieldA 2 (.t 5),none⟩,
 ⟨some 73,.load none (.t 72),none⟩,
 ⟨some 74,.len .slc (.t 73),none⟩,
 ⟨some 75,.mov (.c (.lit (.int .i64 0))),none⟩])
 (.block 1 (.loop (.seq (.reg [⟨some 76,.ar .lss (.t 75) (.t 74),none⟩])
 (.seq (.cond (.t 76)
 (.skip)
 (.exit 1))
 (.seq (.block 2 (.seq (.reg [⟨some 77,.idxA 3 (.t 73) (.t 75),none⟩,
 ⟨some 78,.load (some 3) (.t 77),none⟩,
 ⟨some 8,.alloc [.lit (.int .i64 0), .lit (.int .i64 0), .lit (.slice none 0 0)],none⟩,
 ⟨none, .store 3 (.t 8) (.t 78),none⟩])
 (.reg [⟨some 79,.load none (.t 4),none⟩,
 ⟨some 80,.load (some 3) (.t 8),none⟩,
 ⟨some 81,.mov (.t 1),none⟩,
 ⟨some 82,.ar .add (.t 81) (.c (.lit (.int .i64 1))),none⟩,
 ⟨some 83,.call (.t 79) [(.t 80), (.t 82)],none⟩])))
 (.reg [⟨some 84,.ar .add (.t 75) (.c (.lit (.int .i64 1))),none⟩,
 ⟨some 75,.mov (.t 84),none⟩]))))))))))⟩
def f258 : F := ⟨13, [], none, .reg [⟨some 3,.mov (.t 0),none⟩,
 ⟨some 4,.ar .geq (.t 3) (.c (.lit (.int .i64 0))),none⟩,
 ⟨some 5,.mov (.t 4),none⟩,
 ⟨some 6,.mov (.t 0), (some (5, true))⟩,
 ⟨some 7,.fieldA 1 (.t 1), (some (5, true))⟩,
 ⟨some 8,.load none (.t 7), (some (5, true))⟩,
 ⟨some 9,.len .slc (.t 8), (some (5, true))⟩,
 ⟨some 10,.ar .leq (.t 6) (.t 9), (some (5, true))⟩,
 ⟨some 11,.pick (.t 5) (.t 10) (.c (.lit (.bool false))),none⟩,
 ⟨some 12,.call (.c (.fn (.func 246) [] [])) [(.t 11)],none⟩]⟩
def f274 : F := ⟨3, [.tmp 2], none, .seq (.reg [⟨some 1,.box (.t 0),none⟩,
 ⟨some 2,.mov (.c (.lit (.int .i64 0))),none⟩])
 (.seq (.reg [⟨some 2,.mov (.c (.lit (.int .i64 0))),none⟩])
 (.ret))⟩
def f275 : F := ⟨3, [.tmp 2], none, .seq (.reg [⟨some 1,.box (.t 0),none⟩,
 ⟨some 2,.mov (.c (.lit (.int .i64 0))),none⟩])
 (.seq (.reg [⟨some 2,.mov (.c (.lit (.int .i64 1))),none⟩])
 (.ret))⟩
def f276 : F := ⟨3, [.tmp 2], none, .seq (.reg [⟨some 1,.box (.t 0),none⟩,
 ⟨some 2,.mov (.c (.lit (.int .i64 0))),none⟩])
 (.seq (.reg [⟨some 2,.mov (.c (.lit (.int .i64 1))),none⟩])
 (.ret))⟩
def f277 : F := ⟨3, [.tmp 2], none, .seq (.reg [⟨some 1,.box (.t 0),none⟩,
 ⟨some 2,.mov (.c (.lit (.int .i64 0))),none⟩])
 (.seq (.reg [⟨some 2,.mov (.c (.lit (.int .i64 2))),none⟩])
 (.ret))⟩
def f278 : F := ⟨4, [.tmp 2], none, .seq (.reg [⟨some 2,.mov (.c (.lit (.int .i64 0))),none⟩])
 (.seq (.reg [⟨some 3,.mov (.t 0),none⟩,
 ⟨some 2,.mov (.t 3),none⟩])
 (.ret))⟩
def fsT : T F := (.node none (.node none (.node none (.node none (.node (some f15) (.node none (.node (some f63) (.node (some f127) (.node (some f255) .leaf .leaf) .leaf) .leaf) (.node (some f95) (.node (some f159) .leaf .leaf) .leaf)) (.node (some f47) (.node none .leaf (.node (some f207) .leaf .leaf)) (.node (some f111) (.node (some f175) .leaf .leaf) (.node (some f239) .leaf .leaf)))) (.node (some f23) (.node (some f39) (.node (some f71) (.node (some f135) .leaf .leaf) (.node (some f199) .leaf .leaf)) (.node (some f103) (.node (some f167) .leaf .leaf) (.node (some f231) .leaf .leaf))) (.node (some f55) (.node none .leaf (.node (some f215) .leaf .leaf)) (.node (some f119) .leaf (.node (some f247) .leaf .leaf))))) (.node (some f11) (.node (some f19) (.node none (.node (some f67) (.node (some f131) .leaf .leaf) (.node (some f195) .leaf .leaf)) (.node (some f99) (.node (some f163) .leaf .leaf) .leaf)) (.node none (.node none (.node none (.node (some f275) .leaf .leaf) .leaf) (.node (some f211) .leaf .leaf)) (.node (some f115) .leaf (.node (some f243) .leaf .leaf)))) (.node none (.node (some f43) (.node none (.node (some f139) .leaf .leaf) (.node (some f203) .leaf .leaf)) (.node (some f107) (.node (some f171) .leaf .leaf) (.node (some f235) .leaf .leaf))) (.node (some f59) (.node none .leaf (.node (some f219) .leaf .leaf)) (.node (some f123) .leaf (.node (some f251) .leaf .leaf)))))) (.node (some f5) (.node (some f9) (.node (some f17) (.node none (.node (some f65) (.node none (.node (some f257) .leaf .leaf) .leaf) .leaf) (.node (some f97) (.node (some f161) .leaf .leaf) .leaf)) (.node (some f49) (.node none .leaf (.node (some f209) .leaf .leaf)) (.node (some f113) (.node (some f177) .leaf .leaf) (.node (some f241) .leaf .leaf)))) (.node (some f25) (.node (some f41) (.node none (.node (some f137) .leaf .leaf) (.node (some f201) .leaf .leaf)) (.node (some f105) (.node (some f169) .leaf .leaf) (.node (some f233) .leaf .leaf))) (.node (some f57) (.node none .leaf (.node (some f217) .leaf .leaf)) (.node (some f121) .leaf (.node (some f249) .leaf .leaf))))) (.node (some f13) (.node (some f21) (.node (some f37) (.node (some f69) (.node (some f133) .leaf .leaf) (.node (some f197) .leaf .leaf)) (.node (some f101) (.node (some f165) .leaf .leaf) .leaf)) (.node (some f53) (.node none (.node none (.node (some f277) .leaf .leaf) .leaf) (.node (some f213) .leaf .leaf)) (.node (some f117) .leaf .leaf))) (.node none (.node (some f45) (.node none (.node (some f141) .leaf .leaf) (.node (some f205) .leaf .leaf)) (.node (some f109) (.node (some f173) .leaf .leaf) (.node (some f237) .leaf .leaf))) (.node (some f61) (.node (some f93) (.node (some f157) .leaf .leaf) (.node (some f221) .leaf .leaf)) (.node (some f125) .leaf (.node (some f253) .leaf .leaf))))))) (.node none (.node (some f4) (.node none (.node (some f16) (.node none (.node (some f64) (.node (some f128) (.node (some f256) .leaf .leaf) .leaf) .leaf) (.node (some f96) (.node (some f160) .leaf .leaf) .leaf)) (.node (some f48) (.node none (.node (some f144) .leaf .leaf) (.node (some f208) .leaf .leaf)) (.node (some f112) (.node (some f176) .leaf .leaf) (.node (some f240) .leaf .leaf)))) (.node (some f24) (.node (some f40) (.node none (.node (some f136) .leaf .leaf) (.node (some f200) .leaf .leaf)) (.node (some f104) (.node (some f168) .leaf .leaf) (.node (some f232) .leaf .leaf))) (.node (some f56) (.node none .leaf (.node (some f216) .leaf .leaf)) (.node (some f120) .leaf (.node (some f248) .leaf .leaf))))) (.node (some f12) (.node (some f20) (.node (some f36) (.node (some f68) (.node (some f132) .leaf .leaf) (.node (some f196) .leaf .leaf)) (.node (some f100) (.node (some f164) .leaf .leaf) .leaf)) (.node (some f52) (.node none (.node (some f148) (.node (some f276) .leaf .leaf) .leaf) (.node (some f212) .leaf .leaf)) (.node (some f116) .leaf (.node (some f244) .leaf .leaf)))) (.node none (.node (some f44) (.node none (.node (some f140) .leaf .leaf) (.node (some f204) .leaf .leaf)) (.node (some f108) (.node (some f172) .leaf .leaf) (.node (some f236) .leaf .leaf))) (.node (some f60) (.node (some f92) (.node (some f156) .leaf .leaf) (.node (some f220) .leaf .leaf)) (.node (some f124) .leaf (.node (some f252) .leaf .leaf)))))) (.node (some f6) (.node none (.node (some f18) (.node none (.node (some f66) (.node (some f130) (.node (some f258) .leaf .leaf) .leaf) .leaf) (.node (some f98) (.node (some f162) .leaf .leaf) .leaf)) (.node (some f50) (.node none (.node none (.node (some f274) .leaf .leaf) .leaf) (.node (some f210) .leaf .leaf)) (.node (some f114) (.node (some f178) .leaf .leaf) (.node (some f242) .leaf .leaf)))) (.node none (.node (some f42) (.node none (.node (some f138) .leaf .leaf) (.node (some f202) .leaf .leaf)) (.node (some f106) (.node (some f170) .leaf .leaf) (.node (some f234) .leaf .leaf))) (.node (some f58) (.node none .leaf (.node (some f218) .leaf .leaf)) (.node (some f122) .leaf (.node (some f250) .leaf .leaf))))) (.node (some f14) (.node (some f22) (.node (some f38) (.node (some f70) (.node (some f134) .leaf .leaf) (.node (some f198) .leaf .leaf)) (.node (some f102) (.node (some f166) .leaf .leaf) .leaf)) (.node (some f54) (.node none (.node none (.node (some f278) .leaf .leaf) .leaf) (.node (some f214) .leaf .leaf)) (.node (some f118) .leaf (.node (some f246) .leaf .leaf)))) (.node none (.node (some f46) (.node none (.node (some f142) .leaf .leaf) (.node (some f206) .leaf .leaf)) (.node (some f110) (.node (some f174) .leaf .leaf) (.node (some f238) .leaf .leaf))) (.node (some f62) (.node (some f94) (.node (some f158) .leaf .leaf) .leaf) (.node (some f126) .leaf (.node (some f254) .leaf .leaf))))))))
noncomputable def fs : Fs := T.get fsT
noncomputable def sp : Sp := fun id => cond (Nat.beq id 51) (some insert1) none
end A
end Go.Proofs.YtcohlhplpogopaaGreat

