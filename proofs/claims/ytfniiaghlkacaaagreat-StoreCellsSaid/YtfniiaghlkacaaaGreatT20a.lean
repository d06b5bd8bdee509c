/- Functions of the program, read. -/
import Derived.Test.YtfniiaghlkacaaaGreatGm5
import Derived.KernelRfl
namespace Go.AM.T20
open Go Go.AM Go.AM.G
set_option linter.unusedVariables false
set_option maxRecDepth 8000
def d29r0 : D := .reg false [⟨(.some 0), .mv (.c (.s (.bool false))), .none, 0⟩] []
def d29r1 : D := .reg false [⟨(.some 18), .call 31 [], .none, 0⟩, ⟨(.some 1), .alloc 27 [(.int .i64 0), (.int .i64 0), (.int .i64 0), (.int .i64 0), (.int .i64 0), (.int .i64 0), (.int .i64 0), (.int .i64 0), (.int .i64 0), (.int .i64 0), (.int .i64 0), (.int .i64 0), (.int .i64 0), (.int .i64 0), (.int .i64 0), (.int .i64 0), (.int .i64 0), (.int .i64 0), (.int .i64 0), (.int .i64 0), (.int .i64 0), (.int .i64 0), (.int .i64 0), (.int .i64 0), (.int .i64 0), (.int .u64 0)], .none, 0⟩, ⟨.none, .st 26 (.t 1) (.t 18), .none, 0⟩] []
def d29r2 : D := .reg false [⟨(.some 19), .call 33 [(.c (.s (.int .i64 256)))], .none, 0⟩, ⟨(.some 2), .mv (.t 19), .none, 0⟩] []
def d29r3 : D := .reg false [⟨(.some 21), .ld true 26 (.t 1), .none, 0⟩, ⟨(.some 22), .mv (.t 2), .none, 0⟩, ⟨(.some 23), .call 34 [(.t 21), (.t 22)], .none, 0⟩, ⟨(.some 20), .mv (.t 23), .none, 0⟩, ⟨(.some 24), .ext (.t 20) 0, .none, 0⟩, ⟨(.some 25), .ext (.t 20) 1, .none, 0⟩, ⟨(.some 3), .mv (.t 24), .none, 0⟩, ⟨(.some 4), .mv (.t 25), .none, 0⟩] []
def d29r4 : D := .reg false [⟨(.some 26), .mv (.t 4), .none, 0⟩, ⟨(.some 27), .bin .neq (.t 26) (.c (.s (.int .i64 0))), .none, 0⟩, ⟨(.some 28), .mv (.t 27), .none, 0⟩, ⟨(.some 29), .mv (.t 3), (.some (28, false)), 0⟩, ⟨(.some 30), .eqv .ptr false (.t 29) (.c (.s (.ptr .none))), (.some (28, false)), 0⟩, ⟨(.some 31), .pick (.t 28) (.c (.s (.bool true))) (.t 30), .none, 0⟩, ⟨(.some 32), .mv (.t 31), .none, 0⟩, ⟨(.some 33), .mv (.t 2), (.some (32, false)), 0⟩, ⟨(.some 34), .eqv .ptr false (.t 33) (.c (.s (.ptr .none))), (.some (32, false)), 0⟩, ⟨(.some 35), .pick (.t 32) (.c (.s (.bool true))) (.t 34), .none, 0⟩] []
def d29r5 : D := .reg false [⟨(.some 0), .mv (.c (.s (.bool false))), .none, 0⟩] []
def d29r6 : D := .reg false [⟨(.some 36), .mv (.t 3), .none, 0⟩, ⟨(.some 37), .call 35 [(.t 36)], .none, 0⟩, ⟨(.some 38), .mv (.t 3), .none, 0⟩, ⟨(.some 39), .call 37 [(.t 38)], .none, 0⟩, ⟨(.some 5), .mv (.t 37), .none, 0⟩, ⟨(.some 6), .mv (.t 39), .none, 0⟩] []
def d29r7 : D := .reg false [⟨(.some 41), .mv (.t 3), .none, 0⟩, ⟨(.some 42), .build [(.int .i64 0), (.int .i64 0), (.int .i64 0), (.int .i64 0), (.int .i64 0), (.int .i64 0), (.int .i64 0), (.int .i64 0)] [(0, 1, (.c (.s (.int .i64 3))))], .none, 0⟩, ⟨(.some 43), .call 36 [(.t 41), (.t 42)], .none, 0⟩, ⟨(.some 40), .mv (.t 43), .none, 0⟩, ⟨(.some 44), .ext (.t 40) 0, .none, 0⟩, ⟨(.some 45), .ext (.t 40) 1, .none, 0⟩, ⟨(.some 7), .alloc 44 [(.int .i64 0), (.int .i64 0), (.int .i64 0), (.bool false), (.int .i64 0), (.int .i64 0), (.int .i64 0), (.int .i64 0)], .none, 0⟩, ⟨.none, .st 8 (.t 7) (.t 44), .none, 0⟩, ⟨(.some 8), .mv (.t 45), .none, 0⟩] []
def d29r8 : D := .reg false [⟨(.some 47), .mv (.t 3), .none, 0⟩, ⟨(.some 48), .build [(.int .i64 0), (.int .i64 0), (.int .i64 0), (.int .i64 0), (.int .i64 0), (.int .i64 0), (.int .i64 0), (.int .i64 0)] [(0, 1, (.c (.s (.int .i64 9))))], .none, 0⟩, ⟨(.some 49), .call 36 [(.t 47), (.t 48)], .none, 0⟩, ⟨(.some 46), .mv (.t 49), .none, 0⟩, ⟨(.some 50), .ext (.t 46) 0, .none, 0⟩, ⟨(.some 51), .ext (.t 46) 1, .none, 0⟩, ⟨(.some 9), .alloc 44 [(.int .i64 0), (.int .i64 0), (.int .i64 0), (.bool false), (.int .i64 0), (.int .i64 0), (.int .i64 0), (.int .i64 0)], .none, 0⟩, ⟨.none, .st 8 (.t 9) (.t 50), .none, 0⟩, ⟨(.some 10), .mv (.t 51), .none, 0⟩] []
def d29r9 : D := .reg false [⟨(.some 53), .ld true 26 (.t 1), .none, 0⟩, ⟨(.some 54), .mv (.t 2), .none, 0⟩, ⟨(.some 55), .call 34 [(.t 53), (.t 54)], .none, 0⟩, ⟨(.some 52), .mv (.t 55), .none, 0⟩, ⟨(.some 56), .ext (.t 52) 0, .none, 0⟩, ⟨(.some 57), .ext (.t 52) 1, .none, 0⟩, ⟨(.some 11), .mv (.t 56), .none, 0⟩, ⟨(.some 12), .mv (.t 57), .none, 0⟩] []
def d29r10 : D := .reg true [⟨(.some 59), .ld true 26 (.t 1), .none, 0⟩, ⟨(.some 60), .call 33 [(.c (.s (.int .i64 255)))], .none, 0⟩, ⟨(.some 61), .call 34 [(.t 59), (.t 60)], .none, 3⟩, ⟨(.some 58), .mv (.t 61), .none, 7⟩, ⟨(.some 62), .ext (.t 58) 0, .none, 15⟩, ⟨(.some 63), .ext (.t 58) 1, .none, 15⟩, ⟨(.some 13), .mv (.t 62), .none, 31⟩, ⟨(.some 14), .mv (.t 63), .none, 127⟩] []
def d29r11 : D := .reg false [⟨(.some 64), .mv (.t 11), .none, 0⟩, ⟨(.some 65), .eqv .ptr false (.t 64) (.c (.s (.ptr .none))), .none, 0⟩, ⟨(.some 66), .mv (.t 65), .none, 0⟩, ⟨(.some 67), .mv (.t 3), (.some (66, false)), 0⟩, ⟨(.some 68), .call 38 [(.t 67)], (.some (66, false)), 0⟩, ⟨(.some 69), .eqv .ptr false (.t 68) (.c (.s (.ptr .none))), (.some (66, false)), 0⟩, ⟨(.some 70), .pick (.t 66) (.c (.s (.bool true))) (.t 69), .none, 0⟩, ⟨(.some 71), .mv (.t 70), .none, 0⟩, ⟨(.some 72), .mv (.t 11), (.some (71, false)), 0⟩, ⟨(.some 73), .call 38 [(.t 72)], (.some (71, false)), 0⟩, ⟨(.some 74), .eqv .ptr false (.t 73) (.c (.s (.ptr .none))), (.some (71, false)), 0⟩, ⟨(.some 75), .pick (.t 71) (.c (.s (.bool true))) (.t 74), .none, 0⟩] []
def d29r12 : D := .reg false [⟨(.some 0), .mv (.c (.s (.bool false))), .none, 0⟩] []
def d29r13 : D := .reg false [⟨(.some 15), .mv (.c (.s (.ptr .none))), .none, 0⟩] []
def d29r14 : D := .reg false [⟨(.some 77), .mv (.t 15), .none, 0⟩, ⟨(.some 78), .build [(.int .i64 0), (.int .i64 0), (.int .i64 0), (.int .i64 0), (.int .i64 0), (.int .i64 0), (.int .i64 0), (.int .i64 0)] [(0, 1, (.c (.s (.int .i64 3))))], .none, 0⟩, ⟨(.some 79), .call 36 [(.t 77), (.t 78)], .none, 0⟩, ⟨(.some 76), .mv (.t 79), .none, 0⟩, ⟨(.some 80), .ext (.t 76) 0, .none, 0⟩, ⟨(.some 81), .ext (.t 76) 1, .none, 0⟩, ⟨(.some 16), .alloc 44 [(.int .i64 0), (.int .i64 0), (.int .i64 0), (.bool false), (.int .i64 0), (.int .i64 0), (.int .i64 0), (.int .i64 0)], .none, 0⟩, ⟨.none, .st 8 (.t 16) (.t 80), .none, 0⟩, ⟨(.some 17), .mv (.t 81), .none, 0⟩] []
def d29r15 : D := .reg true [⟨(.some 82), .mv (.t 5), .none, 0⟩, ⟨(.some 83), .bin .eql (.t 82) (.c (.s (.int .u32 1))), .none, 1⟩, ⟨(.some 84), .mv (.t 83), .none, 3⟩, ⟨(.some 85), .mv (.t 8), (.some (84, true)), 7⟩, ⟨(.some 86), .bin .eql (.t 85) (.c (.s (.int .i64 0))), (.some (84, true)), 15⟩, ⟨(.some 87), .pick (.t 84) (.t 86) (.c (.s (.bool false))), .none, 31⟩, ⟨(.some 88), .mv (.t 87), .none, 63⟩, ⟨(.some 89), .fld 3 (.t 7), (.some (88, true)), 127⟩, ⟨(.some 90), .ld false 1 (.t 89), (.some (88, true)), 255⟩, ⟨(.some 91), .pick (.t 88) (.t 90) (.c (.s (.bool false))), .none, 511⟩, ⟨(.some 92), .mv (.t 91), .none, 1023⟩, ⟨(.some 93), .mv (.t 10), (.some (92, true)), 2047⟩, ⟨(.some 94), .bin .eql (.t 93) (.c (.s (.int .i64 1))), (.some (92, true)), 4095⟩, ⟨(.some 95), .pick (.t 92) (.t 94) (.c (.s (.bool false))), .none, 8191⟩, ⟨(.some 96), .mv (.t 95), .none, 16383⟩, ⟨(.some 97), .mv (.t 3), (.some (96, true)), 32767⟩, ⟨(.some 98), .call 37 [(.t 97)], (.some (96, true)), 65535⟩, ⟨(.some 99), .mv (.t 6), (.some (96, true)), 32767⟩, ⟨(.some 100), .bin .sub (.t 99) (.c (.s (.int .i64 1))), (.some (96, true)), 163839⟩, ⟨(.some 101), .bin .eql (.t 98) (.t 100), (.some (96, true)), 524287⟩, ⟨(.some 102), .pick (.t 96) (.t 101) (.c (.s (.bool false))), .none, 1048575⟩, ⟨(.some 103), .mv (.t 102), .none, 2097151⟩, ⟨(.some 104), .mv (.t 12), (.some (103, true)), 4194303⟩, ⟨(.some 105), .bin .eql (.t 104) (.c (.s (.int .i64 0))), (.some (103, true)), 8388607⟩, ⟨(.some 106), .pick (.t 103) (.t 105) (.c (.s (.bool false))), .none, 16777215⟩, ⟨(.some 107), .mv (.t 106), .none, 33554431⟩, ⟨(.some 108), .mv (.t 11), (.some (107, true)), 67108863⟩, ⟨(.some 109), .call 38 [(.t 108)], (.some (107, true)), 134217727⟩, ⟨(.some 110), .call 39 [(.t 109)], (.some (107, true)), 268435455⟩, ⟨(.some 111), .bin .eql (.t 110) (.c (.s (.int .i64 1))), (.some (107, true)), 536870911⟩, ⟨(.some 112), .pick (.t 107) (.t 111) (.c (.s (.bool false))), .none, 1073741823⟩, ⟨(.some 113), .mv (.t 112), .none, 2147483647⟩, ⟨(.some 114), .mv (.t 11), (.some (113, true)), 4294967295⟩, ⟨(.some 115), .call 38 [(.t 114)], (.some (113, true)), 8589934591⟩, ⟨(.some 116), .mv (.t 3), (.some (113, true)), 4294967295⟩, ⟨(.some 117), .call 38 [(.t 116)], (.some (113, true)), 34359738367⟩, ⟨(.some 118), .call 40 [(.t 115), (.t 117)], (.some (113, true)), 68719476735⟩, ⟨(.some 119), .pick (.t 113) (.t 118) (.c (.s (.bool false))), .none, 137438953471⟩, ⟨(.some 120), .mv (.t 119), .none, 274877906943⟩, ⟨(.some 121), .mv (.t 11), (.some (120, true)), 549755813887⟩, ⟨(.some 122), .call 37 [(.t 121)], (.some (120, true)), 1099511627775⟩, ⟨(.some 123), .mv (.t 6), (.some (120, true)), 549755813887⟩, ⟨(.some 124), .bin .sub (.t 123) (.c (.s (.int .i64 1))), (.some (120, true)), 2748779069439⟩, ⟨(.some 125), .bin .eql (.t 122) (.t 124), (.some (120, true)), 8796093022207⟩, ⟨(.some 126), .pick (.t 120) (.t 125) (.c (.s (.bool false))), .none, 17592186044415⟩, ⟨(.some 127), .mv (.t 126), .none, 35184372088831⟩, ⟨(.some 128), .mv (.t 14), (.some (127, true)), 70368744177663⟩, ⟨(.some 129), .bin .eql (.t 128) (.c (.s (.int .i64 1))), (.some (127, true)), 140737488355327⟩, ⟨(.some 130), .pick (.t 127) (.t 129) (.c (.s (.bool false))), .none, 281474976710655⟩, ⟨(.some 131), .mv (.t 130), .none, 562949953421311⟩, ⟨(.some 132), .ld true 26 (.t 1), (.some (131, true)), 1125899906842623⟩, ⟨(.some 133), .call 30 [(.t 132), (.c (.s (.sl .none 0 0 true 1))), (.c (.s (.int .u32 5)))], (.some (131, true)), 2251799813685247⟩, ⟨(.some 134), .len (.sl 0) (.t 133), (.some (131, true)), 4503599627370495⟩, ⟨(.some 135), .bin .eql (.t 134) (.c (.s (.int .i64 1))), (.some (131, true)), 9007199254740991⟩, ⟨(.some 136), .pick (.t 131) (.t 135) (.c (.s (.bool false))), .none, 18014398509481983⟩, ⟨(.some 137), .mv (.t 136), .none, 36028797018963967⟩, ⟨(.some 138), .ld true 26 (.t 1), (.some (137, true)), 72057594037927935⟩, ⟨(.some 139), .mkslice 5 [(.int .u8 0)] 1 (.c (.s (.int .i64 49))) (.c (.s (.int .i64 49))), (.some (137, true)), 72057594037927935⟩, ⟨(.some 140), .call 30 [(.t 138), (.t 139), (.c (.s (.int .u32 5)))], (.some (137, true)), 288230376151711743⟩, ⟨(.some 141), .len (.sl 0) (.t 140), (.some (137, true)), 576460752303423487⟩, ⟨(.some 142), .bin .eql (.t 141) (.c (.s (.int .i64 2))), (.some (137, true)), 1152921504606846975⟩, ⟨(.some 143), .pick (.t 137) (.t 142) (.c (.s (.bool false))), .none, 2305843009213693951⟩, ⟨(.some 144), .mv (.t 143), .none, 4611686018427387903⟩, ⟨(.some 145), .mv (.t 17), (.some (144, true)), 9223372036854775807⟩, ⟨(.some 146), .bin .eql (.t 145) (.c (.s (.int .i64 1))), (.some (144, true)), 18446744073709551615⟩, ⟨(.some 147), .pick (.t 144) (.t 146) (.c (.s (.bool false))), .none, 36893488147419103231⟩, ⟨(.some 148), .mv (.t 147), .none, 73786976294838206463⟩, ⟨(.some 149), .mv (.t 15), (.some (148, true)), 147573952589676412927⟩, ⟨(.some 150), .call 37 [(.t 149)], (.some (148, true)), 295147905179352825855⟩, ⟨(.some 151), .bin .eql (.t 150) (.c (.s (.int .i64 0))), (.some (148, true)), 590295810358705651711⟩, ⟨(.some 152), .pick (.t 148) (.t 151) (.c (.s (.bool false))), .none, 1180591620717411303423⟩, ⟨(.some 0), .mv (.t 152), .none, 2361183241434822606847⟩] []
/-- quorumite/quorumitelaw20.told -/
def d29 : Df := ⟨8, [.t 0], (.seq d29r0 (.seq d29r1 (.seq d29r2 (.seq d29r3 (.seq (.seq d29r4 (.cond .none (.t 35) (.seq d29r5 .ret) .skip)) (.seq d29r6 (.seq d29r7 (.seq d29r8 (.seq d29r9 (.seq d29r10 (.seq (.seq d29r11 (.cond .none (.t 75) (.seq d29r12 .ret) .skip)) (.seq d29r13 (.seq d29r14 (.seq d29r15 .ret))))))))))))))⟩
noncomputable def g29 (fx : Fx) (cl : Cl) (h0 : H) : R :=
  obh (cl 31 [] h0) fun v0 h1 =>
  obh (mkv (.alloc 27 [(.int .i64 0), (.int .i64 0), (.int .i64 0), (.int .i64 0), (.int .i64 0), (.int .i64 0), (.int .i64 0), (.int .i64 0), (.int .i64 0), (.int .i64 0), (.int .i64 0), (.int .i64 0), (.int .i64 0), (.int .i64 0), (.int .i64 0), (.int .i64 0), (.int .i64 0), (.int .i64 0), (.int .i64 0), (.int .i64 0), (.int .i64 0), (.int .i64 0), (.int .i64 0), (.int .i64 0), (.int .i64 0), (.int .u64 0)]) h1) fun v1 h2 =>
  F.ob (st 26 v1 v0 h2) fun h3 =>
  obh (cl 33 [(.s (.int .i64 256))] h3) fun v2 h4 =>
  F.ob (ld true 26 v1 h4) fun v3 =>
  obh (cl 34 [v3, v2] h4) fun v4 h5 =>
  F.ob (pv (.ext (.c v4) 0)) fun v5 =>
  F.ob (pv (.ext (.c v4) 1)) fun v6 =>
  F.ob (F.bin .neq v6 (.s (.int .i64 0))) fun v7 =>
  F.ob (gd v7 false (some v5) (some nought)) fun v8 =>
  F.ob (gd v7 false (pv (.eqv .ptr false (.c v8) (.c (.s (.ptr .none))))) (some nought)) fun v9 =>
  F.ob (pv (.pick (.c v7) (.c (.s (.bool true))) (.c v9))) fun v10 =>
  F.ob (gd v10 false (some v2) (some nought)) fun v11 =>
  F.ob (gd v10 false (pv (.eqv .ptr false (.c v11) (.c (.s (.ptr .none))))) (some nought)) fun v12 =>
  F.ob (pv (.pick (.c v10) (.c (.s (.bool true))) (.c v12))) fun v13 =>
  cnd v13 (
  out [(.s (.bool false))] h5) (
  obh (cl 35 [v5] h5) fun v14 h6 =>
  obh (cl 37 [v5] h6) fun v15 h7 =>
  F.ob (pv (.build [(.int .i64 0), (.int .i64 0), (.int .i64 0), (.int .i64 0), (.int .i64 0), (.int .i64 0), (.int .i64 0), (.int .i64 0)] [(0, 1, .c (.s (.int .i64 3)))])) fun v16 =>
  obh (cl 36 [v5, v16] h7) fun v17 h8 =>
  F.ob (pv (.ext (.c v17) 0)) fun v18 =>
  F.ob (pv (.ext (.c v17) 1)) fun v19 =>
  obh (mkv (.alloc 44 [(.int .i64 0), (.int .i64 0), (.int .i64 0), (.bool false), (.int .i64 0), (.int .i64 0), (.int .i64 0), (.int .i64 0)]) h8) fun v20 h9 =>
  F.ob (st 8 v20 v18 h9) fun h10 =>
  F.ob (pv (.build [(.int .i64 0), (.int .i64 0), (.int .i64 0), (.int .i64 0), (.int .i64 0), (.int .i64 0), (.int .i64 0), (.int .i64 0)] [(0, 1, .c (.s (.int .i64 9)))])) fun v21 =>
  obh (cl 36 [v5, v21] h10) fun v22 h11 =>
  F.ob (pv (.ext (.c v22) 0)) fun v23 =>
  F.ob (pv (.ext (.c v22) 1)) fun v24 =>
  obh (mkv (.alloc 44 [(.int .i64 0), (.int .i64 0), (.int .i64 0), (.bool false), (.int .i64 0), (.int .i64 0), (.int .i64 0), (.int .i64 0)]) h11) fun v25 h12 =>
  F.ob (st 8 v25 v23 h12) fun h13 =>
  F.ob (ld true 26 v1 h13) fun v26 =>
  obh (cl 34 [v26, v2] h13) fun v27 h14 =>
  F.ob (pv (.ext (.c v27) 0)) fun v28 =>
  F.ob (pv (.ext (.c v27) 1)) fun v29 =>
  F.ob (rdd (.ld true 26 (.c v1)) [] h14) fun v30 =>
  obh (chk Prod.snd [⟨none, .ld true 26 (.c v1), v30, 0⟩] (cl 33 [(.s (.int .i64 255))] h14)) fun v31 h15 =>
  obh (cl 34 [v30, v31] h15) fun v32 h16 =>
  F.ob (pv (.ext (.c v32) 0)) fun v33 =>
  F.ob (pv (.ext (.c v32) 1)) fun v34 =>
  F.ob (pv (.eqv .ptr false (.c v28) (.c (.s (.ptr .none))))) fun v35 =>
  F.ob (gd v35 false (some v5) (some nought)) fun v36 =>
  obh (gd v35 false (cl 38 [v36] h16) (some (nought, h16))) fun v37 h17 =>
  F.ob (gd v35 false (pv (.eqv .ptr false (.c v37) (.c (.s (.ptr .none))))) (some nought)) fun v38 =>
  F.ob (pv (.pick (.c v35) (.c (.s (.bool true))) (.c v38))) fun v39 =>
  F.ob (gd v39 false (some v28) (some nought)) fun v40 =>
  obh (gd v39 false (cl 38 [v40] h17) (some (nought, h17))) fun v41 h18 =>
  F.ob (gd v39 false (pv (.eqv .ptr false (.c v41) (.c (.s (.ptr .none))))) (some nought)) fun v42 =>
  F.ob (pv (.pick (.c v39) (.c (.s (.bool true))) (.c v42))) fun v43 =>
  cnd v43 (
  out [(.s (.bool false))] h18) (
  F.ob (pv (.build [(.int .i64 0), (.int .i64 0), (.int .i64 0), (.int .i64 0), (.int .i64 0), (.int .i64 0), (.int .i64 0), (.int .i64 0)] [(0, 1, .c (.s (.int .i64 3)))])) fun v44 =>
  obh (cl 36 [(.s (.ptr .none)), v44] h18) fun v45 h19 =>
  F.ob (pv (.ext (.c v45) 0)) fun v46 =>
  F.ob (pv (.ext (.c v45) 1)) fun v47 =>
  obh (mkv (.alloc 44 [(.int .i64 0), (.int .i64 0), (.int .i64 0), (.bool false), (.int .i64 0), (.int .i64 0), (.int .i64 0), (.int .i64 0)]) h19) fun v48 h20 =>
  F.ob (st 8 v48 v46 h20) fun h21 =>
  F.ob (F.bin .eql v14 (.s (.int .u32 1))) fun v49 =>
  F.ob (gd v49 true (some v19) (some nought)) fun v50 =>
  F.ob (gd v49 true (F.bin .eql v50 (.s (.int .i64 0))) (some nought)) fun v51 =>
  F.ob (pv (.pick (.c v49) (.c v51) (.c (.s (.bool false))))) fun v52 =>
  F.ob (gd v52 true (fld 3 v20) (some nought)) fun v53 =>
  F.ob (gd v52 true (rdd (.ld false 1 (.c v53)) [] h21) (some nought)) fun v54 =>
  F.ob (pv (.pick (.c v52) (.c v54) (.c (.s (.bool false))))) fun v55 =>
  F.ob (gd v55 true (some v24) (some nought)) fun v56 =>
  F.ob (gd v55 true (F.bin .eql v56 (.s (.int .i64 1))) (some nought)) fun v57 =>
  F.ob (pv (.pick (.c v55) (.c v57) (.c (.s (.bool false))))) fun v58 =>
  F.ob (gd v58 true (some v5) (some nought)) fun v59 =>
  obh (gd v58 true (cl 37 [v59] h21) (some (nought, h21))) fun v60 h22 =>
  F.ob (gd v58 true (some v15) (some nought)) fun v61 =>
  F.ob (gd v58 true (F.bin .sub v61 (.s (.int .i64 1))) (some nought)) fun v62 =>
  F.ob (gd v58 true (F.bin .eql v60 v62) (some nought)) fun v63 =>
  F.ob (pv (.pick (.c v58) (.c v63) (.c (.s (.bool false))))) fun v64 =>
  F.ob (gd v64 true (some v29) (some nought)) fun v65 =>
  F.ob (gd v64 true (F.bin .eql v65 (.s (.int .i64 0))) (some nought)) fun v66 =>
  F.ob (pv (.pick (.c v64) (.c v66) (.c (.s (.bool false))))) fun v67 =>
  F.ob (gd v67 true (some v28) (some nought)) fun v68 =>
  obh (gd v67 true (cl 38 [v68] h22) (some (nought, h22))) fun v69 h23 =>
  obh (gd v67 true (cl 39 [v69] h23) (some (nought, h23))) fun v70 h24 =>
  F.ob (gd v67 true (F.bin .eql v70 (.s (.int .i64 1))) (some nought)) fun v71 =>
  F.ob (pv (.pick (.c v67) (.c v71) (.c (.s (.bool false))))) fun v72 =>
  F.ob (gd v72 true (some v28) (some nought)) fun v73 =>
  obh (gd v72 true (cl 38 [v73] h24) (some (nought, h24))) fun v74 h25 =>
  F.ob (gd v72 true (some v5) (some nought)) fun v75 =>
  obh (gd v72 true (cl 38 [v75] h25) (some (nought, h25))) fun v76 h26 =>
  obh (gd v72 true (cl 40 [v74, v76] h26) (some (nought, h26))) fun v77 h27 =>
  F.ob (pv (.pick (.c v72) (.c v77) (.c (.s (.bool false))))) fun v78 =>
  F.ob (gd v78 true (some v28) (some nought)) fun v79 =>
  obh (gd v78 true (cl 37 [v79] h27) (some (nought, h27))) fun v80 h28 =>
  F.ob (gd v78 true (some v15) (some nought)) fun v81 =>
  F.ob (gd v78 true (F.bin .sub v81 (.s (.int .i64 1))) (some nought)) fun v82 =>
  F.ob (gd v78 true (F.bin .eql v80 v82) (some nought)) fun v83 =>
  F.ob (pv (.pick (.c v78) (.c v83) (.c (.s (.bool false))))) fun v84 =>
  F.ob (gd v84 true (some v34) (some nought)) fun v85 =>
  F.ob (gd v84 true (F.bin .eql v85 (.s (.int .i64 1))) (some nought)) fun v86 =>
  F.ob (pv (.pick (.c v84) (.c v86) (.c (.s (.bool false))))) fun v87 =>
  F.ob (gd v87 true (rdd (.ld true 26 (.c v1)) [] h28) (some nought)) fun v88 =>
  obh (gd v87 true (cl 30 [v88, (.s (.sl .none 0 0 true 1)), (.s (.int .u32 5))] h28) (some (nought, h28))) fun v89 h29 =>
  F.ob (gd v87 true (pv (.len (.sl 0) (.c v89))) (some nought)) fun v90 =>
  F.ob (gd v87 true (F.bin .eql v90 (.s (.int .i64 1))) (some nought)) fun v91 =>
  F.ob (pv (.pick (.c v87) (.c v91) (.c (.s (.bool false))))) fun v92 =>
  F.ob (gd v92 true (rdd (.ld true 26 (.c v1)) [] h29) (some nought)) fun v93 =>
  obh (gd v92 true (mkv (.mkslice 5 [(.int .u8 0)] 1 (.c (.s (.int .i64 49))) (.c (.s (.int .i64 49)))) h29) (some (nought, h29))) fun v94 h30 =>
  obh (gd v92 true (cl 30 [v93, v94, (.s (.int .u32 5))] h30) (some (nought, h30))) fun v95 h31 =>
  F.ob (gd v92 true (pv (.len (.sl 0) (.c v95))) (some nought)) fun v96 =>
  F.ob (gd v92 true (F.bin .eql v96 (.s (.int .i64 2))) (some nought)) fun v97 =>
  F.ob (pv (.pick (.c v92) (.c v97) (.c (.s (.bool false))))) fun v98 =>
  F.ob (gd v98 true (some v47) (some nought)) fun v99 =>
  F.ob (gd v98 true (F.bin .eql v99 (.s (.int .i64 1))) (some nought)) fun v100 =>
  F.ob (pv (.pick (.c v98) (.c v100) (.c (.s (.bool false))))) fun v101 =>
  F.ob (gd v101 true (some (.s (.ptr .none))) (some nought)) fun v102 =>
  obh (gd v101 true (cl 37 [v102] h31) (some (nought, h31))) fun v103 h32 =>
  F.ob (gd v101 true (F.bin .eql v103 (.s (.int .i64 0))) (some nought)) fun v104 =>
  F.ob (pv (.pick (.c v101) (.c v104) (.c (.s (.bool false))))) fun v105 =>
  out [v105] h32))
theorem e29 : (fun (fx : Fx) (cl : Cl) (h0 : H) => denF fx cl d29 [] h0) = g29 := by kernel_rfl
def d40r0 : D := .reg false [⟨(.some 4), .mv (.c (.s (.bool false))), .none, 0⟩] []
def d40r1 : D := .reg false [⟨(.some 5), .mv (.t 0), .none, 0⟩, ⟨(.some 6), .eqv .ptr true (.t 5) (.c (.s (.ptr .none))), .none, 0⟩, ⟨(.some 7), .mv (.t 6), .none, 0⟩, ⟨(.some 8), .mv (.t 1), (.some (7, true)), 0⟩, ⟨(.some 9), .eqv .ptr true (.t 8) (.c (.s (.ptr .none))), (.some (7, true)), 0⟩, ⟨(.some 10), .pick (.t 7) (.t 9) (.c (.s (.bool false))), .none, 0⟩, ⟨(.some 11), .mv (.t 10), .none, 0⟩, ⟨(.some 12), .mv (.t 0), (.some (11, true)), 0⟩, ⟨(.some 13), .call 47 [(.t 12)], (.some (11, true)), 0⟩, ⟨(.some 14), .mv (.t 1), (.some (11, true)), 0⟩, ⟨(.some 15), .call 47 [(.t 14)], (.some (11, true)), 0⟩, ⟨(.some 16), .call 91 [(.t 13), (.t 15)], (.some (11, true)), 0⟩, ⟨(.some 17), .pick (.t 11) (.t 16) (.c (.s (.bool false))), .none, 0⟩, ⟨(.some 4), .mv (.t 17), .none, 0⟩] []
/-- (*quorumite/state.State).Same -/
def d40 : Df := ⟨5, [.t 4], (.seq d40r0 (.seq d40r1 .ret))⟩
noncomputable def g40 (fx : Fx) (cl : Cl) (a0 a1 : AV) (h0 : H) : R :=
  F.ob (pv (.eqv .ptr true (.c a0) (.c (.s (.ptr .none))))) fun v0 =>
  F.ob (gd v0 true (some a1) (some nought)) fun v1 =>
  F.ob (gd v0 true (pv (.eqv .ptr true (.c v1) (.c (.s (.ptr .none))))) (some nought)) fun v2 =>
  F.ob (pv (.pick (.c v0) (.c v2) (.c (.s (.bool false))))) fun v3 =>
  F.ob (gd v3 true (some a0) (some nought)) fun v4 =>
  obh (gd v3 true (cl 47 [v4] h0) (some (nought, h0))) fun v5 h1 =>
  F.ob (gd v3 true (some a1) (some nought)) fun v6 =>
  obh (gd v3 true (cl 47 [v6] h1) (some (nought, h1))) fun v7 h2 =>
  obh (gd v3 true (cl 91 [v5, v7] h2) (some (nought, h2))) fun v8 h3 =>
  F.ob (pv (.pick (.c v3) (.c v8) (.c (.s (.bool false))))) fun v9 =>
  out [v9] h3
theorem e40 : (fun (fx : Fx) (cl : Cl) (a0 a1 : AV) (h0 : H) => denF fx cl d40 [a0, a1] h0) = g40 := by kernel_rfl
def d39r0 : D := .reg false [⟨(.some 2), .mv (.c (.s (.int .i64 0))), .none, 0⟩] []
def d39r1 : D := .reg false [⟨(.some 3), .mv (.t 0), .none, 0⟩, ⟨(.some 4), .eqv .ptr false (.t 3) (.c (.s (.ptr .none))), .none, 0⟩] []
def d39r2 : D := .reg false [⟨(.some 2), .mv (.c (.s (.int .i64 (-1)))), .none, 0⟩] []
def d39r3 : D := .reg false [⟨(.some 5), .mv (.t 0), .none, 0⟩, ⟨(.some 6), .nilck (.t 5), .none, 0⟩, ⟨(.some 7), .fld 26 (.t 6), .none, 0⟩, ⟨(.some 8), .ld false 1 (.t 7), .none, 0⟩, ⟨(.some 2), .mv (.t 8), .none, 0⟩] []
/-- (*quorumite/state.State).Now -/
def d39 : Df := ⟨4, [.t 2], (.seq d39r0 (.seq (.seq d39r1 (.cond .none (.t 4) (.seq d39r2 .ret) .skip)) (.seq d39r3 .ret)))⟩
noncomputable def g39 (fx : Fx) (cl : Cl) (a0 : AV) (h0 : H) : R :=
  F.ob (pv (.eqv .ptr false (.c a0) (.c (.s (.ptr .none))))) fun v0 =>
  cnd v0 (
  out [(.s (.int .i64 (-1)))] h0) (
  F.ob (nilck a0) fun v1 =>
  F.ob (fld 26 v1) fun v2 =>
  F.ob (ld false 1 v2 h0) fun v3 =>
  out [v3] h0)
theorem e39 : (fun (fx : Fx) (cl : Cl) (a0 : AV) (h0 : H) => denF fx cl d39 [a0] h0) = g39 := by kernel_rfl
def d38r0 : D := .reg false [⟨(.some 2), .mv (.c (.s (.ptr .none))), .none, 0⟩] []
def d38r1 : D := .reg false [⟨(.some 3), .mv (.t 0), .none, 0⟩, ⟨(.some 4), .eqv .ptr false (.t 3) (.c (.s (.ptr .none))), .none, 0⟩] []
def d38r2 : D := .reg false [⟨(.some 2), .mv (.c (.s (.ptr .none))), .none, 0⟩] []
def d38r3 : D := .reg false [⟨(.some 5), .mv (.t 0), .none, 0⟩, ⟨(.some 6), .nilck (.t 5), .none, 0⟩, ⟨(.some 7), .fld 27 (.t 6), .none, 0⟩, ⟨(.some 8), .ld false 1 (.t 7), .none, 0⟩, ⟨(.some 2), .mv (.t 8), .none, 0⟩] []
/-- (*quorumite/store.Store).State -/
def d38 : Df := ⟨4, [.t 2], (.seq d38r0 (.seq (.seq d38r1 (.cond .none (.t 4) (.seq d38r2 .ret) .skip)) (.seq d38r3 .ret)))⟩
noncomputable def g38 (fx : Fx) (cl : Cl) (a0 : AV) (h0 : H) : R :=
  F.ob (pv (.eqv .ptr false (.c a0) (.c (.s (.ptr .none))))) fun v0 =>
  cnd v0 (
  out [(.s (.ptr .none))] h0) (
  F.ob (nilck a0) fun v1 =>
  F.ob (fld 27 v1) fun v2 =>
  F.ob (ld false 1 v2 h0) fun v3 =>
  out [v3] h0)
theorem e38 : (fun (fx : Fx) (cl : Cl) (a0 : AV) (h0 : H) => denF fx cl d38 [a0] h0) = g38 := by kernel_rfl
def d164r0 : D := .reg false [⟨(.some 4), .mv (.c (.s (.bool false))), .none, 0⟩] []
def d164r1 : D := .reg false [⟨(.some 5), .mv (.t 1), .none, 0⟩, ⟨(.some 6), .mv (.t 0), .none, 0⟩, ⟨(.some 7), .nilck (.t 6), .none, 0⟩, ⟨(.some 8), .fld 26 (.t 7), .none, 0⟩, ⟨(.some 9), .ld false 1 (.t 8), .none, 0⟩, ⟨(.some 10), .len (.sl 0) (.t 9), .none, 0⟩, ⟨(.some 11), .bin .lss (.t 5) (.t 10), .none, 0⟩] []
def d164r2 : D := .reg false [⟨(.some 14), .mv (.t 0), .none, 0⟩, ⟨(.some 15), .mv (.t 1), .none, 0⟩, ⟨(.some 16), .call 161 [(.t 14), (.t 15)], .none, 0⟩] []
def d164r3 : D := .reg false [⟨(.some 4), .mv (.c (.s (.bool true))), .none, 0⟩] []
def d164r4 : D := .reg false [⟨(.some 12), .mv (.t 1), .none, 0⟩, ⟨(.some 13), .bin .add (.t 12) (.c (.s (.int .i64 1))), .none, 0⟩, ⟨(.some 1), .mv (.t 13), .none, 0⟩] []
def d164r5 : D := .reg false [⟨(.some 4), .mv (.c (.s (.bool false))), .none, 0⟩] []
/-- (*quorumite/store.scan).behind -/
def d164 : Df := ⟨5, [.t 4], (.seq d164r0 (.seq (.blk (.some []) 0 (.loop [1] (.seq (.seq d164r1 (.cond .none (.t 11) .skip (.exit 0))) (.seq (.blk .none 1 (.seq d164r2 (.cond .none (.t 16) (.seq d164r3 .ret) .skip))) d164r4)))) (.seq d164r5 .ret)))⟩
noncomputable def g164 (fx : Fx) (cl : Cl) (a0 a1 : AV) (h0 : H) : R :=
  letJ (fun (p0 : Unit) h1 =>
  out [(.s (.bool false))] h1) fun j0 =>
  fx AV (fun (r1 : AV → H → R) (p1 : AV) h2 =>
  F.ob (nilck a0) fun v0 =>
  F.ob (fld 26 v0) fun v1 =>
  F.ob (ld false 1 v1 h2) fun v2 =>
  F.ob (pv (.len (.sl 0) (.c v2))) fun v3 =>
  F.ob (F.bin .lss p1 v3) fun v4 =>
  cnd v4 (
  obh (cl 161 [a0, p1] h2) fun v5 h3 =>
  cnd v5 (
  out [(.s (.bool true))] h3) (
  F.ob (F.bin .add p1 (.s (.int .i64 1))) fun v6 =>
  r1 v6 h3)) (
  j0 () h2)) a1 h0
theorem e164 : (fun (fx : Fx) (cl : Cl) (a0 a1 : AV) (h0 : H) => denF fx cl d164 [a0, a1] h0) = g164 := by kernel_rfl
def d163r0 : D := .reg false [⟨(.some 2), .alloc 40 [(.int .i64 0), (.int .i64 0), (.int .i64 0), (.int .i64 0), (.int .i64 0), (.int .i64 0), (.int .i64 0), (.int .i64 0)], .none, 0⟩, ⟨(.some 3), .mv (.c (.s (.bool false))), .none, 0⟩] []
def d163r1 : D := .reg false [⟨(.some 7), .mv (.t 0), .none, 0⟩, ⟨(.some 8), .len (.sl 0) (.t 7), .none, 0⟩, ⟨(.some 9), .bin .eql (.t 8) (.c (.s (.int .i64 0))), .none, 0⟩] []
def d163r2 : D := .reg false [⟨(.some 10), .build [(.int .i64 0), (.int .i64 0), (.int .i64 0), (.int .i64 0), (.int .i64 0), (.int .i64 0), (.int .i64 0), (.int .i64 0)] [], .none, 0⟩, ⟨.none, .st 8 (.t 2) (.t 10), .none, 0⟩, ⟨(.some 3), .mv (.c (.s (.bool false))), .none, 0⟩] []
def d163r3 : D := .reg false [⟨(.some 11), .mv (.t 0), .none, 0⟩, ⟨(.some 12), .idxa (.sl 1) (.t 11) (.c (.s (.int .i64 0))), .none, 0⟩, ⟨(.some 13), .ld false 1 (.t 12), .none, 0⟩, ⟨(.some 14), .conv .i64 (.t 13), .none, 0⟩, ⟨(.some 15), .build [(.int .i64 0), (.int .i64 0), (.int .i64 0), (.int .i64 0), (.int .i64 0), (.int .i64 0), (.int .i64 0), (.int .i64 0)] [(0, 1, (.t 14))], .none, 0⟩, ⟨(.some 4), .alloc 40 [(.int .i64 0), (.int .i64 0), (.int .i64 0), (.int .i64 0), (.int .i64 0), (.int .i64 0), (.int .i64 0), (.int .i64 0)], .none, 0⟩, ⟨.none, .st 8 (.t 4) (.t 15), .none, 0⟩] []
def d163r4 : D := .reg false [⟨(.some 16), .fld 0 (.t 4), .none, 0⟩, ⟨(.some 17), .ld false 1 (.t 16), .none, 0⟩, ⟨(.some 18), .bin .eql (.t 17) (.c (.s (.int .i64 3))), .none, 0⟩] []
def d163r5 : D := .reg false [⟨(.some 19), .ld true 8 (.t 4), .none, 0⟩, ⟨(.some 20), .mv (.t 0), .none, 0⟩, ⟨(.some 21), .len (.sl 0) (.t 20), .none, 0⟩, ⟨(.some 22), .bin .eql (.t 21) (.c (.s (.int .i64 1))), .none, 0⟩, ⟨.none, .st 8 (.t 2) (.t 19), .none, 0⟩, ⟨(.some 3), .mv (.t 22), .none, 0⟩] []
def d163r6 : D := .reg false [⟨(.some 24), .mv (.t 0), .none, 0⟩, ⟨(.some 25), .slc (.sl 1) (.t 24) (.some (.c (.s (.int .i64 1)))) .none .none, .none, 0⟩, ⟨(.some 26), .call 141 [(.t 25)], .none, 0⟩, ⟨(.some 23), .mv (.t 26), .none, 0⟩, ⟨(.some 27), .ext (.t 23) 0, .none, 0⟩, ⟨(.some 28), .ext (.t 23) 1, .none, 0⟩, ⟨(.some 5), .alloc 38 [(.int .i64 0), (.int .i64 0), (.int .i64 0), (.int .i64 0), (.int .i64 0), (.int .i64 0), (.int .i64 0)], .none, 0⟩, ⟨.none, .st 7 (.t 5) (.t 27), .none, 0⟩, ⟨(.some 6), .mv (.t 28), .none, 0⟩] []
def d163r7 : D := .reg false [⟨(.some 29), .ld true 7 (.t 5), .none, 0⟩, ⟨(.some 30), .fld 1 (.t 4), .none, 0⟩, ⟨.none, .st 7 (.t 30) (.t 29), .none, 0⟩] []
def d163r8 : D := .reg true [⟨(.some 31), .ld true 8 (.t 4), .none, 0⟩, ⟨(.some 32), .mv (.t 6), .none, 0⟩, ⟨(.some 33), .bin .eql (.t 32) (.c (.s (.int .i64 0))), .none, 2⟩, ⟨(.some 34), .mv (.t 33), .none, 6⟩, ⟨(.some 35), .fld 0 (.t 4), (.some (34, true)), 14⟩, ⟨(.some 36), .ld false 1 (.t 35), (.some (34, true)), 30⟩, ⟨(.some 37), .bin .eql (.t 36) (.c (.s (.int .i64 1))), (.some (34, true)), 62⟩, ⟨(.some 38), .mv (.t 37), (.some (34, true)), 126⟩, ⟨(.some 39), .fld 0 (.t 4), (.some (38, false)), 254⟩, ⟨(.some 40), .ld false 1 (.t 39), (.some (38, false)), 510⟩, ⟨(.some 41), .bin .eql (.t 40) (.c (.s (.int .i64 2))), (.some (38, false)), 1022⟩, ⟨(.some 42), .pick (.t 38) (.c (.s (.bool true))) (.t 41), (.some (34, true)), 2046⟩, ⟨(.some 43), .pick (.t 34) (.t 42) (.c (.s (.bool false))), .none, 4094⟩, ⟨.none, .st 8 (.t 2) (.t 31), .none, 255⟩, ⟨(.some 3), .mv (.t 43), .none, 16383⟩] []
/-- quorumite/store.parse -/
def d163 : Df := ⟨6, [.cell 2 true 8, .t 3], (.seq d163r0 (.seq (.seq d163r1 (.cond .none (.t 9) (.seq d163r2 .ret) .skip)) (.seq d163r3 (.seq (.seq d163r4 (.cond .none (.t 18) (.seq d163r5 .ret) .skip)) (.seq d163r6 (.seq d163r7 (.seq d163r8 .ret)))))))⟩
noncomputable def g163 (fx : Fx) (cl : Cl) (a0 : AV) (h0 : H) : R :=
  obh (mkv (.alloc 40 [(.int .i64 0), (.int .i64 0), (.int .i64 0), (.int .i64 0), (.int .i64 0), (.int .i64 0), (.int .i64 0), (.int .i64 0)]) h0) fun v0 h1 =>
  F.ob (pv (.len (.sl 0) (.c a0))) fun v1 =>
  F.ob (F.bin .eql v1 (.s (.int .i64 0))) fun v2 =>
  cnd v2 (
  F.ob (pv (.build [(.int .i64 0), (.int .i64 0), (.int .i64 0), (.int .i64 0), (.int .i64 0), (.int .i64 0), (.int .i64 0), (.int .i64 0)] [])) fun v3 =>
  F.ob (st 8 v0 v3 h1) fun h2 =>
  F.ob (ld true 8 v0 h2) fun v4 =>
  out [v4, (.s (.bool false))] h2) (
  F.ob (idxa (.sl 1) a0 (.s (.int .i64 0))) fun v5 =>
  F.ob (ld false 1 v5 h1) fun v6 =>
  F.ob (conv .i64 v6) fun v7 =>
  F.ob (pv (.build [(.int .i64 0), (.int .i64 0), (.int .i64 0), (.int .i64 0), (.int .i64 0), (.int .i64 0), (.int .i64 0), (.int .i64 0)] [(0, 1, .c v7)])) fun v8 =>
  obh (mkv (.alloc 40 [(.int .i64 0), (.int .i64 0), (.int .i64 0), (.int .i64 0), (.int .i64 0), (.int .i64 0), (.int .i64 0), (.int .i64 0)]) h1) fun v9 h3 =>
  F.ob (st 8 v9 v8 h3) fun h4 =>
  F.ob (fld 0 v9) fun v10 =>
  F.ob (ld false 1 v10 h4) fun v11 =>
  F.ob (F.bin .eql v11 (.s (.int .i64 3))) fun v12 =>
  cnd v12 (
  F.ob (ld true 8 v9 h4) fun v13 =>
  F.ob (pv (.len (.sl 0) (.c a0))) fun v14 =>
  F.ob (F.bin .eql v14 (.s (.int .i64 1))) fun v15 =>
  F.ob (st 8 v0 v13 h4) fun h5 =>
  F.ob (ld true 8 v0 h5) fun v16 =>
  out [v16, v15] h5) (
  F.ob (pv (.slc (.sl 1) (.c a0) (.some (.c (.s (.int .i64 1)))) .none .none)) fun v17 =>
  obh (cl 141 [v17] h4) fun v18 h6 =>
  F.ob (pv (.ext (.c v18) 0)) fun v19 =>
  F.ob (pv (.ext (.c v18) 1)) fun v20 =>
  obh (mkv (.alloc 38 [(.int .i64 0), (.int .i64 0), (.int .i64 0), (.int .i64 0), (.int .i64 0), (.int .i64 0), (.int .i64 0)]) h6) fun v21 h7 =>
  F.ob (st 7 v21 v19 h7) fun h8 =>
  F.ob (ld true 7 v21 h8) fun v22 =>
  F.ob (fld 1 v9) fun v23 =>
  F.ob (st 7 v23 v22 h8) fun h9 =>
  F.ob (rdd (.ld true 8 (.c v9)) [] h9) fun v24 =>
  F.ob (F.bin .eql v20 (.s (.int .i64 0))) fun v25 =>
  F.ob (gd v25 true (fld 0 v9) (some nought)) fun v26 =>
  F.ob (gd v25 true (rdd (.ld false 1 (.c v26)) [] h9) (some nought)) fun v27 =>
  F.ob (gd v25 true (F.bin .eql v27 (.s (.int .i64 1))) (some nought)) fun v28 =>
  F.ob (gd v25 true (some v28) (some nought)) fun v29 =>
  F.ob (gd v29 false (fld 0 v9) (some nought)) fun v30 =>
  F.ob (gd v29 false (rdd (.ld false 1 (.c v30)) [] h9) (some nought)) fun v31 =>
  F.ob (gd v29 false (F.bin .eql v31 (.s (.int .i64 2))) (some nought)) fun v32 =>
  F.ob (gd v25 true (pv (.pick (.c v29) (.c (.s (.bool true))) (.c v32))) (some nought)) fun v33 =>
  F.ob (pv (.pick (.c v25) (.c v33) (.c (.s (.bool false))))) fun v34 =>
  F.ob (chk id [⟨(some (v29, false)), .ld false 1 (.c v30), v31, 9⟩] (st 8 v0 v24 h9)) fun h10 =>
  F.ob (ld true 8 v0 h10) fun v35 =>
  out [v35, v34] h10))
theorem e163 : (fun (fx : Fx) (cl : Cl) (a0 : AV) (h0 : H) => denF fx cl d163 [a0] h0) = g163 := by kernel_rfl
def d85r0 : D := .reg false [⟨(.some 4), .mv (.c (.s (.int .i64 0))), .none, 0⟩] []
def d85r1 : D := .reg true [⟨(.some 11), .mv (.t 0), .none, 0⟩, ⟨(.some 12), .nilck (.t 11), .none, 1⟩, ⟨(.some 13), .fld 29 (.t 12), .none, 3⟩, ⟨(.some 14), .ld false 1 (.t 13), .none, 7⟩, ⟨(.some 15), .mv (.t 0), .none, 0⟩, ⟨(.some 16), .nilck (.t 15), .none, 16⟩, ⟨(.some 17), .fld 26 (.t 16), .none, 48⟩, ⟨(.some 18), .ld false 1 (.t 17), .none, 112⟩, ⟨(.some 19), .len (.sl 0) (.t 18), .none, 240⟩, ⟨(.some 20), .bin .lss (.t 14) (.t 19), .none, 511⟩, ⟨(.some 21), .mv (.t 20), .none, 1023⟩, ⟨(.some 22), .mv (.t 0), (.some (21, true)), 2047⟩, ⟨(.some 23), .mv (.t 0), (.some (21, true)), 2047⟩, ⟨(.some 24), .nilck (.t 23), (.some (21, true)), 6143⟩, ⟨(.some 25), .fld 29 (.t 24), (.some (21, true)), 14335⟩, ⟨(.some 26), .ld false 1 (.t 25), (.some (21, true)), 30719⟩, ⟨(.some 27), .call 161 [(.t 22), (.t 26)], (.some (21, true)), 65535⟩, ⟨(.some 28), .pick (.t 21) (.t 27) (.c (.s (.bool false))), .none, 131071⟩] []
def d85r2 : D := .reg false [⟨(.some 37), .mv (.t 0), .none, 0⟩, ⟨(.some 38), .mv (.t 0), .none, 0⟩, ⟨(.some 39), .nilck (.t 38), .none, 0⟩, ⟨(.some 40), .fld 29 (.t 39), .none, 0⟩, ⟨(.some 41), .ld false 1 (.t 40), .none, 0⟩, ⟨(.some 42), .bslice 3 1 1 [(.int .i64 0)] [(0, 1, (.c (.s (.int .i64 3))))], .none, 0⟩, ⟨(.some 43), .call 162 [(.t 37), (.t 41), (.t 42)], .none, 0⟩, ⟨(.some 36), .mv (.t 43), .none, 0⟩, ⟨(.some 44), .ext (.t 36) 0, .none, 0⟩, ⟨(.some 45), .ext (.t 36) 1, .none, 0⟩, ⟨(.some 5), .alloc 70 [(.int .u32 0), (.int .i64 0), (.int .i64 0), (.sl .none 0 0 true 1)], .none, 0⟩, ⟨.none, .st 4 (.t 5) (.t 44), .none, 0⟩, ⟨(.some 6), .mv (.t 45), .none, 0⟩] []
def d85r3 : D := .reg false [⟨(.some 46), .mv (.t 6), .none, 0⟩, ⟨(.some 47), .bin .neq (.t 46) (.c (.s (.int .i64 0))), .none, 0⟩] []
def d85r4 : D := .reg false [⟨(.some 48), .mv (.t 6), .none, 0⟩, ⟨(.some 4), .mv (.t 48), .none, 0⟩] []
def d85r5 : D := .reg false [⟨(.some 50), .fld 3 (.t 5), .none, 0⟩, ⟨(.some 51), .ld false 1 (.t 50), .none, 0⟩, ⟨(.some 52), .call 163 [(.t 51)], .none, 0⟩, ⟨(.some 49), .mv (.t 52), .none, 0⟩, ⟨(.some 53), .ext (.t 49) 0, .none, 0⟩, ⟨(.some 54), .ext (.t 49) 1, .none, 0⟩, ⟨(.some 7), .alloc 40 [(.int .i64 0), (.int .i64 0), (.int .i64 0), (.int .i64 0), (.int .i64 0), (.int .i64 0), (.int .i64 0), (.int .i64 0)], .none, 0⟩, ⟨.none, .st 8 (.t 7) (.t 53), .none, 0⟩, ⟨(.some 8), .mv (.t 54), .none, 0⟩] []
def d85r6 : D := .reg false [⟨(.some 55), .mv (.t 8), .none, 0⟩, ⟨(.some 56), .un .not (.t 55), .none, 0⟩] []
def d85r7 : D := .reg false [⟨(.some 4), .mv (.c (.s (.int .i64 12))), .none, 0⟩] []
def d85r8 : D := .reg false [⟨(.some 58), .mv (.t 1), .none, 0⟩, ⟨(.some 59), .ld true 8 (.t 7), .none, 0⟩, ⟨(.some 60), .call 50 [(.t 58), (.t 59)], .none, 0⟩, ⟨(.some 57), .mv (.t 60), .none, 0⟩, ⟨(.some 61), .ext (.t 57) 0, .none, 0⟩, ⟨(.some 62), .ext (.t 57) 1, .none, 0⟩, ⟨(.some 9), .alloc 44 [(.int .i64 0), (.int .i64 0), (.int .i64 0), (.bool false), (.int .i64 0), (.int .i64 0), (.int .i64 0), (.int .i64 0)], .none, 0⟩, ⟨.none, .st 8 (.t 9) (.t 61), .none, 0⟩, ⟨(.some 10), .mv (.t 62), .none, 0⟩] []
def d85r9 : D := .reg false [⟨(.some 63), .mv (.t 10), .none, 0⟩, ⟨(.some 64), .bin .neq (.t 63) (.c (.s (.int .i64 0))), .none, 0⟩] []
def d85r10 : D := .reg false [⟨(.some 4), .mv (.c (.s (.int .i64 12))), .none, 0⟩] []
def d85r11 : D := .reg false [⟨(.some 29), .mv (.t 0), .none, 0⟩, ⟨(.some 30), .nilck (.t 29), .none, 0⟩, ⟨(.some 31), .fld 29 (.t 30), .none, 0⟩, ⟨(.some 32), .ld false 1 (.t 31), .none, 0⟩, ⟨(.some 33), .bin .add (.t 32) (.c (.s (.int .i64 1))), .none, 0⟩, ⟨(.some 34), .nilck (.t 29), .none, 0⟩, ⟨(.some 35), .fld 29 (.t 34), .none, 0⟩, ⟨.none, .st 1 (.t 35) (.t 33), .none, 0⟩] []
def d85r12 : D := .reg false [⟨(.some 65), .mv (.t 0), .none, 0⟩, ⟨(.some 66), .mv (.t 0), .none, 0⟩, ⟨(.some 67), .nilck (.t 66), .none, 0⟩, ⟨(.some 68), .fld 29 (.t 67), .none, 0⟩, ⟨(.some 69), .ld false 1 (.t 68), .none, 0⟩, ⟨(.some 70), .call 164 [(.t 65), (.t 69)], .none, 0⟩] []
def d85r13 : D := .reg false [⟨(.some 4), .mv (.c (.s (.int .i64 12))), .none, 0⟩] []
def d85r14 : D := .reg false [⟨(.some 4), .mv (.c (.s (.int .i64 0))), .none, 0⟩] []
/-- (*quorumite/store.scan).replay -/
def d85 : Df := ⟨7, [.t 4], (.seq d85r0 (.seq (.blk (.some []) 0 (.loop [] (.seq (.seq d85r1 (.cond .none (.t 28) .skip (.exit 0))) (.seq (.blk .none 1 (.seq d85r2 (.seq (.seq d85r3 (.cond .none (.t 47) (.seq d85r4 .ret) .skip)) (.seq d85r5 (.seq (.seq d85r6 (.cond .none (.t 56) (.seq d85r7 .ret) .skip)) (.seq d85r8 (.seq d85r9 (.cond .none (.t 64) (.seq d85r10 .ret) .skip)))))))) d85r11)))) (.seq (.seq d85r12 (.cond .none (.t 70) (.seq d85r13 .ret) .skip)) (.seq d85r14 .ret))))⟩
noncomputable def g85 (fx : Fx) (cl : Cl) (a0 a1 : AV) (h0 : H) : R :=
  letJ (fun (p0 : Unit) h1 =>
  F.ob (nilck a0) fun v0 =>
  F.ob (fld 29 v0) fun v1 =>
  F.ob (ld false 1 v1 h1) fun v2 =>
  obh (cl 164 [a0, v2] h1) fun v3 h2 =>
  cnd v3 (
  out [(.s (.int .i64 12))] h2) (
  out [(.s (.int .i64 0))] h2)) fun j0 =>
  fx Unit (fun (r1 : Unit → H → R) (p1 : Unit) h3 =>
  F.ob (nilck a0) fun v4 =>
  F.ob (fld 29 v4) fun v5 =>
  F.ob (rdd (.ld false 1 (.c v5)) [] h3) fun v6 =>
  F.ob (nilck a0) fun v7 =>
  F.ob (fld 26 v7) fun v8 =>
  F.ob (rdd (.ld false 1 (.c v8)) [] h3) fun v9 =>
  F.ob (pv (.len (.sl 0) (.c v9))) fun v10 =>
  F.ob (F.bin .lss v6 v10) fun v11 =>
  F.ob (gd v11 true (some a0) (some nought)) fun v12 =>
  F.ob (gd v11 true (some a0) (some nought)) fun v13 =>
  F.ob (gd v11 true (nilck v13) (some nought)) fun v14 =>
  F.ob (gd v11 true (fld 29 v14) (some nought)) fun v15 =>
  F.ob (gd v11 true (rdd (.ld false 1 (.c v15)) [] h3) (some nought)) fun v16 =>
  obh (gd v11 true (cl 161 [v12, v16] h3) (some (nought, h3))) fun v17 h4 =>
  F.ob (pv (.pick (.c v11) (.c v17) (.c (.s (.bool false))))) fun v18 =>
  cnd v18 (
  F.ob (nilck a0) fun v19 =>
  F.ob (fld 29 v19) fun v20 =>
  F.ob (ld false 1 v20 h4) fun v21 =>
  obh (mkv (.bslice 3 1 1 [(.int .i64 0)] [(0, 1, .c (.s (.int .i64 3)))]) h4) fun v22 h5 =>
  obh (cl 162 [a0, v21, v22] h5) fun v23 h6 =>
  F.ob (pv (.ext (.c v23) 0)) fun v24 =>
  F.ob (pv (.ext (.c v23) 1)) fun v25 =>
  obh (mkv (.alloc 70 [(.int .u32 0), (.int .i64 0), (.int .i64 0), (.sl .none 0 0 true 1)]) h6) fun v26 h7 =>
  F.ob (st 4 v26 v24 h7) fun h8 =>
  F.ob (F.bin .neq v25 (.s (.int .i64 0))) fun v27 =>
  cnd v27 (
  out [v25] h8) (
  F.ob (fld 3 v26) fun v28 =>
  F.ob (ld false 1 v28 h8) fun v29 =>
  obh (cl 163 [v29] h8) fun v30 h9 =>
  F.ob (pv (.ext (.c v30) 0)) fun v31 =>
  F.ob (pv (.ext (.c v30) 1)) fun v32 =>
  obh (mkv (.alloc 40 [(.int .i64 0), (.int .i64 0), (.int .i64 0), (.int .i64 0), (.int .i64 0), (.int .i64 0), (.int .i64 0), (.int .i64 0)]) h9) fun v33 h10 =>
  F.ob (st 8 v33 v31 h10) fun h11 =>
  F.ob (pv (.un .not (.c v32))) fun v34 =>
  cnd v34 (
  out [(.s (.int .i64 12))] h11) (
  F.ob (ld true 8 v33 h11) fun v35 =>
  obh (cl 50 [a1, v35] h11) fun v36 h12 =>
  F.ob (pv (.ext (.c v36) 0)) fun v37 =>
  F.ob (pv (.ext (.c v36) 1)) fun v38 =>
  obh (mkv (.alloc 44 [(.int .i64 0), (.int .i64 0), (.int .i64 0), (.bool false), (.int .i64 0), (.int .i64 0), (.int .i64 0), (.int .i64 0)]) h12) fun v39 h13 =>
  F.ob (st 8 v39 v37 h13) fun h14 =>
  F.ob (F.bin .neq v38 (.s (.int .i64 0))) fun v40 =>
  cnd v40 (
  out [(.s (.int .i64 12))] h14) (
  F.ob (nilck a0) fun v41 =>
  F.ob (fld 29 v41) fun v42 =>
  F.ob (ld false 1 v42 h14) fun v43 =>
  F.ob (F.bin .add v43 (.s (.int .i64 1))) fun v44 =>
  F.ob (nilck a0) fun v45 =>
  F.ob (fld 29 v45) fun v46 =>
  F.ob (st 1 v46 v44 h14) fun h15 =>
  r1 () h15)))) (
  j0 () h4)) () h0
theorem e85 : (fun (fx : Fx) (cl : Cl) (a0 a1 : AV) (h0 : H) => denF fx cl d85 [a0, a1] h0) = g85 := by kernel_rfl
def d123r0 : D := .reg false [⟨(.some 7), .mv (.t 0), .none, 0⟩, ⟨(.some 8), .call 118 [(.t 7), (.c (.s (.int .i64 64)))], .none, 0⟩, ⟨(.some 4), .mv (.t 8), .none, 0⟩] []
def d123r1 : D := .reg false [⟨(.some 9), .mv (.t 4), .none, 0⟩, ⟨(.some 10), .bin .gtr (.t 9) (.c (.s (.int .i64 0))), .none, 0⟩, ⟨(.some 11), .mv (.t 10), .none, 0⟩, ⟨(.some 12), .mv (.t 0), (.some (11, true)), 0⟩, ⟨(.some 13), .nilck (.t 12), (.some (11, true)), 0⟩, ⟨(.some 14), .fld 2 (.t 13), (.some (11, true)), 0⟩, ⟨(.some 15), .ld false 1 (.t 14), (.some (11, true)), 0⟩, ⟨(.some 16), .un .not (.t 15), (.some (11, true)), 0⟩, ⟨(.some 17), .pick (.t 11) (.t 16) (.c (.s (.bool false))), .none, 0⟩] []
def d123r2 : D := .reg true [⟨(.some 20), .mv (.t 0), .none, 0⟩, ⟨(.some 21), .call 118 [(.t 20), (.c (.s (.int .i64 1099511627776)))], .none, 1⟩, ⟨(.some 22), .mv (.t 0), .none, 0⟩, ⟨(.some 23), .mv (.t 1), .none, 0⟩, ⟨(.some 24), .nilck (.t 23), .none, 8⟩, ⟨(.some 25), .fld 0 (.t 24), .none, 24⟩, ⟨(.some 26), .fld 13 (.t 25), .none, 56⟩, ⟨(.some 27), .ld false 1 (.t 26), .none, 120⟩, ⟨(.some 28), .call 118 [(.t 22), (.t 27)], .none, 255⟩, ⟨(.some 29), .mv (.t 0), .none, 0⟩, ⟨(.some 30), .call 118 [(.t 29), (.c (.s (.int .i64 1000000)))], .none, 1023⟩, ⟨(.some 31), .mv (.t 0), .none, 0⟩, ⟨(.some 32), .call 118 [(.t 31), (.c (.s (.int .i64 1)))], .none, 4095⟩, ⟨(.some 33), .bin .eql (.t 32) (.c (.s (.int .i64 1))), .none, 8191⟩, ⟨(.some 34), .build [(.int .i64 0), (.int .i64 0), (.int .i64 0), (.bool false), (.int .i64 0), (.int .i64 0), (.int .i64 0), (.int .i64 0)] [(0, 1, (.t 21)), (1, 1, (.t 28)), (2, 1, (.t 30)), (3, 1, (.t 33))], .none, 16383⟩, ⟨(.some 5), .alloc 44 [(.int .i64 0), (.int .i64 0), (.int .i64 0), (.bool false), (.int .i64 0), (.int .i64 0), (.int .i64 0), (.int .i64 0)], .none, 0⟩, ⟨.none, .st 8 (.t 5) (.t 34), .none, 65535⟩] []
def d123r3 : D := .reg false [⟨(.some 35), .mv (.c (.s (.int .i64 0))), .none, 0⟩] []
def d123r4 : D := .reg false [⟨(.some 36), .bin .lss (.t 35) (.c (.s (.int .i64 4))), .none, 0⟩] []
def d123r5 : D := .reg false [⟨(.some 37), .mv (.t 35), .none, 0⟩, ⟨(.some 6), .mv (.t 37), .none, 0⟩] []
def d123r6 : D := .reg false [⟨(.some 38), .mv (.t 6), .none, 0⟩, ⟨(.some 39), .mv (.t 0), .none, 0⟩, ⟨(.some 40), .call 118 [(.t 39), (.c (.s (.int .i64 1099511627776)))], .none, 0⟩, ⟨(.some 41), .fld 4 (.t 5), .none, 0⟩, ⟨(.some 42), .idxa (.arr 4 1) (.t 41) (.t 38), .none, 0⟩, ⟨.none, .st 1 (.t 42) (.t 40), .none, 0⟩] []
def d123r7 : D := .reg false [⟨(.some 43), .bin .add (.t 35) (.c (.s (.int .i64 1))), .none, 0⟩, ⟨(.some 35), .mv (.t 43), .none, 0⟩] []
def d123r8 : D := .reg true [⟨(.some 44), .mv (.t 0), .none, 0⟩, ⟨(.some 45), .mv (.t 0), .none, 0⟩, ⟨(.some 46), .nilck (.t 45), .none, 2⟩, ⟨(.some 47), .fld 2 (.t 46), .none, 6⟩, ⟨(.some 48), .ld false 1 (.t 47), .none, 14⟩, ⟨(.some 49), .mv (.t 48), .none, 30⟩, ⟨(.some 50), .fld 1 (.t 5), (.some (49, false)), 62⟩, ⟨(.some 51), .ld false 1 (.t 50), (.some (49, false)), 126⟩, ⟨(.some 52), .mv (.t 1), (.some (49, false)), 62⟩, ⟨(.some 53), .nilck (.t 52), (.some (49, false)), 318⟩, ⟨(.some 54), .fld 0 (.t 53), (.some (49, false)), 830⟩, ⟨(.some 55), .fld 12 (.t 54), (.some (49, false)), 1854⟩, ⟨(.some 56), .ld false 1 (.t 55), (.some (49, false)), 3902⟩, ⟨(.some 57), .bin .lss (.t 51) (.t 56), (.some (49, false)), 8190⟩, ⟨(.some 58), .pick (.t 49) (.c (.s (.bool true))) (.t 57), .none, 16382⟩, ⟨(.some 59), .nilck (.t 44), .none, 32767⟩, ⟨(.some 60), .fld 2 (.t 59), .none, 65535⟩, ⟨.none, .st 1 (.t 60) (.t 58), .none, 131071⟩] []
def d123r9 : D := .reg true [⟨(.some 61), .mv (.t 1), .none, 0⟩, ⟨(.some 62), .mv (.t 1), .none, 0⟩, ⟨(.some 63), .nilck (.t 62), .none, 2⟩, ⟨(.some 64), .fld 31 (.t 63), .none, 6⟩, ⟨(.some 65), .ld false 1 (.t 64), .none, 14⟩, ⟨(.some 66), .ld true 8 (.t 5), .none, 0⟩, ⟨(.some 67), .bslice 44 8 1 [(.int .i64 0), (.int .i64 0), (.int .i64 0), (.bool false), (.int .i64 0), (.int .i64 0), (.int .i64 0), (.int .i64 0)] [(0, 8, (.t 66))], .none, 32⟩, ⟨(.some 68), .app 44 8 64 (.t 65) (.t 67), .none, 126⟩, ⟨(.some 69), .nilck (.t 61), .none, 255⟩, ⟨(.some 70), .fld 31 (.t 69), .none, 511⟩, ⟨.none, .st 1 (.t 70) (.t 68), .none, 1023⟩] []
def d123r10 : D := .reg false [⟨(.some 18), .mv (.t 4), .none, 0⟩, ⟨(.some 19), .bin .sub (.t 18) (.c (.s (.int .i64 1))), .none, 0⟩, ⟨(.some 4), .mv (.t 19), .none, 0⟩] []
/-- (*quorumite/state.reader).decisions -/
def d123 : Df := ⟨7, [], (.seq d123r0 (.blk (.some []) 0 (.loop [4] (.seq (.seq d123r1 (.cond .none (.t 17) .skip (.exit 0))) (.seq (.blk (.some []) 1 (.seq d123r2 (.seq (.seq d123r3 (.blk (.some []) 2 (.loop [35] (.seq d123r4 (.seq (.cond .none (.t 36) .skip (.exit 2)) (.seq (.blk .none 3 (.seq d123r5 d123r6)) d123r7)))))) (.seq d123r8 d123r9)))) d123r10)))))⟩
noncomputable def g123 (fx : Fx) (cl : Cl) (a0 a1 : AV) (h0 : H) : R :=
  obh (cl 118 [a0, (.s (.int .i64 64))] h0) fun v0 h1 =>
  letJ (fun (p0 : Unit) h2 =>
  out [] h2) fun j0 =>
  fx AV (fun (r1 : AV → H → R) (p1 : AV) h3 =>
  F.ob (F.bin .gtr p1 (.s (.int .i64 0))) fun v1 =>
  F.ob (gd v1 true (some a0) (some nought)) fun v2 =>
  F.ob (gd v1 true (nilck v2) (some nought)) fun v3 =>
  F.ob (gd v1 true (fld 2 v3) (some nought)) fun v4 =>
  F.ob (gd v1 true (ld false 1 v4 h3) (some nought)) fun v5 =>
  F.ob (gd v1 true (pv (.un .not (.c v5))) (some nought)) fun v6 =>
  F.ob (pv (.pick (.c v1) (.c v6) (.c (.s (.bool false))))) fun v7 =>
  cnd v7 (
  letJ (fun (p2 : Unit) h4 =>
  F.ob (F.bin .sub p1 (.s (.int .i64 1))) fun v8 =>
  r1 v8 h4) fun j2 =>
  obh (cl 118 [a0, (.s (.int .i64 1099511627776))] h3) fun v9 h5 =>
  F.ob (nilck a1) fun v10 =>
  F.ob (fld 0 v10) fun v11 =>
  F.ob (fld 13 v11) fun v12 =>
  F.ob (rdd (.ld false 1 (.c v12)) [(1, h3)] h5) fun v13 =>
  obh (cl 118 [a0, v13] h5) fun v14 h6 =>
  obh (cl 118 [a0, (.s (.int .i64 1000000))] h6) fun v15 h7 =>
  obh (cl 118 [a0, (.s (.int .i64 1))] h7) fun v16 h8 =>
  F.ob (F.bin .eql v16 (.s (.int .i64 1))) fun v17 =>
  F.ob (pv (.build [(.int .i64 0), (.int .i64 0), (.int .i64 0), (.bool false), (.int .i64 0), (.int .i64 0), (.int .i64 0), (.int .i64 0)] [(0, 1, .c v9), (1, 1, .c v14), (2, 1, .c v15), (3, 1, .c v17)])) fun v18 =>
  obh (mkv (.alloc 44 [(.int .i64 0), (.int .i64 0), (.int .i64 0), (.bool false), (.int .i64 0), (.int .i64 0), (.int .i64 0), (.int .i64 0)]) h8) fun v19 h9 =>
  F.ob (st 8 v19 v18 h9) fun h10 =>
  letJ (fun (p3 : Unit) h11 =>
  F.ob (nilck a0) fun v20 =>
  F.ob (fld 2 v20) fun v21 =>
  F.ob (rdd (.ld false 1 (.c v21)) [] h11) fun v22 =>
  F.ob (gd v22 false (fld 1 v19) (some nought)) fun v23 =>
  F.ob (gd v22 false (rdd (.ld false 1 (.c v23)) [] h11) (some nought)) fun v24 =>
  F.ob (gd v22 false (some a1) (some nought)) fun v25 =>
  F.ob (gd v22 false (nilck v25) (some nought)) fun v26 =>
  F.ob (gd v22 false (fld 0 v26) (some nought)) fun v27 =>
  F.ob (gd v22 false (fld 12 v27) (some nought)) fun v28 =>
  F.ob (gd v22 false (rdd (.ld false 1 (.c v28)) [] h11) (some nought)) fun v29 =>
  F.ob (gd v22 false (F.bin .lss v24 v29) (some nought)) fun v30 =>
  F.ob (pv (.pick (.c v22) (.c (.s (.bool true))) (.c v30))) fun v31 =>
  F.ob (nilck a0) fun v32 =>
  F.ob (fld 2 v32) fun v33 =>
  F.ob (st 1 v33 v31 h11) fun h12 =>
  F.ob (nilck a1) fun v34 =>
  F.ob (fld 31 v34) fun v35 =>
  F.ob (rdd (.ld false 1 (.c v35)) [] h12) fun v36 =>
  F.ob (rdd (.ld true 8 (.c v19)) [] h12) fun v37 =>
  obh (mkv (.bslice 44 8 1 [(.int .i64 0), (.int .i64 0), (.int .i64 0), (.bool false), (.int .i64 0), (.int .i64 0), (.int .i64 0), (.int .i64 0)] [(0, 8, .c v37)]) h12) fun v38 h13 =>
  obh (av (.app 44 8 64 (.c v36) (.c v38)) h13) fun v39 h14 =>
  F.ob (nilck a1) fun v40 =>
  F.ob (fld 31 v40) fun v41 =>
  F.ob (st 1 v41 v39 h14) fun h15 =>
  j2 () h15) fun j3 =>
  fx AV (fun (r4 : AV → H → R) (p4 : AV) h16 =>
  F.ob (F.bin .lss p4 (.s (.int .i64 4))) fun v42 =>
  cnd v42 (
  obh (cl 118 [a0, (.s (.int .i64 1099511627776))] h16) fun v43 h17 =>
  F.ob (fld 4 v19) fun v44 =>
  F.ob (idxa (.arr 4 1) v44 p4) fun v45 =>
  F.ob (st 1 v45 v43 h17) fun h18 =>
  F.ob (F.bin .add p4 (.s (.int .i64 1))) fun v46 =>
  r4 v46 h18) (
  j3 () h16)) (.s (.int .i64 0)) h10) (
  j0 () h3)) v0 h1
theorem e123 : (fun (fx : Fx) (cl : Cl) (a0 a1 : AV) (h0 : H) => denF fx cl d123 [a0, a1] h0) = g123 := by kernel_rfl
def d122r0 : D := .reg false [⟨(.some 7), .mv (.t 0), .none, 0⟩, ⟨(.some 8), .call 118 [(.t 7), (.c (.s (.int .i64 1000000)))], .none, 0⟩, ⟨(.some 4), .mv (.t 8), .none, 0⟩] []
def d122r1 : D := .reg false [⟨(.some 9), .mv (.t 4), .none, 0⟩, ⟨(.some 10), .mv (.c (.s (.int .i64 0))), .none, 0⟩] []
def d122r2 : D := .reg false [⟨(.some 11), .bin .lss (.t 10) (.t 9), .none, 0⟩] []
def d122r3 : D := .reg false [⟨(.some 12), .mv (.t 0), .none, 0⟩, ⟨(.some 13), .nilck (.t 12), .none, 0⟩, ⟨(.some 14), .fld 2 (.t 13), .none, 0⟩, ⟨(.some 15), .ld false 1 (.t 14), .none, 0⟩] []
def d122r4 : D := .reg false [⟨(.some 16), .mv (.t 0), .none, 0⟩, ⟨(.some 17), .call 118 [(.t 16), (.c (.s (.int .i64 1099511627776)))], .none, 0⟩, ⟨(.some 18), .mv (.t 0), .none, 0⟩, ⟨(.some 19), .call 118 [(.t 18), (.c (.s (.int .i64 4)))], .none, 0⟩, ⟨(.some 20), .mv (.t 0), .none, 0⟩, ⟨(.some 21), .call 118 [(.t 20), (.c (.s (.int .i64 16)))], .none, 0⟩, ⟨(.some 22), .mv (.t 0), .none, 0⟩, ⟨(.some 23), .call 118 [(.t 22), (.c (.s (.int .i64 1099511627776)))], .none, 0⟩, ⟨(.some 24), .build [(.int .i64 0), (.int .i64 0), (.int .i64 0), (.int .i64 0)] [(2, 1, (.t 17)), (1, 1, (.t 19)), (0, 1, (.t 21)), (3, 1, (.t 23))], .none, 0⟩, ⟨(.some 5), .alloc 126 [(.int .i64 0), (.int .i64 0), (.int .i64 0), (.int .i64 0)], .none, 0⟩, ⟨.none, .st 4 (.t 5) (.t 24), .none, 0⟩] []
def d122r5 : D := .reg true [⟨(.some 25), .mv (.t 0), .none, 0⟩, ⟨(.some 26), .mv (.t 1), .none, 0⟩, ⟨(.some 27), .nilck (.t 26), .none, 2⟩, ⟨(.some 28), .fld 28 (.t 27), .none, 6⟩, ⟨(.some 29), .ld false 1 (.t 28), .none, 14⟩, ⟨(.some 30), .ld true 4 (.t 5), .none, 0⟩, ⟨(.some 31), .mv (.t 1), .none, 0⟩, ⟨(.some 32), .nilck (.t 31), .none, 64⟩, ⟨(.some 33), .fld 26 (.t 32), .none, 192⟩, ⟨(.some 34), .ld false 1 (.t 33), .none, 448⟩, ⟨(.some 35), .call 200 [(.t 29), (.t 30), (.t 34)], .none, 1022⟩, ⟨(.some 36), .call 194 [(.t 25), (.t 35)], .none, 2047⟩] []
def d122r6 : D := .reg false [⟨(.some 37), .mv (.t 1), .none, 0⟩, ⟨(.some 38), .nilck (.t 37), .none, 0⟩, ⟨(.some 39), .fld 28 (.t 38), .none, 0⟩, ⟨(.some 40), .ld false 1 (.t 39), .none, 0⟩, ⟨(.some 41), .call 116 [(.t 40)], .none, 0⟩, ⟨(.some 6), .mv (.t 41), .none, 0⟩] []
def d122r7 : D := .reg false [⟨(.some 42), .mv (.t 0), .none, 0⟩, ⟨(.some 43), .nilck (.t 42), .none, 0⟩, ⟨(.some 44), .fld 2 (.t 43), .none, 0⟩, ⟨(.some 45), .ld false 1 (.t 44), .none, 0⟩, ⟨(.some 46), .un .not (.t 45), .none, 0⟩] []
def d122r8 : D := .reg true [⟨(.some 47), .mv (.t 0), .none, 0⟩, ⟨(.some 48), .mv (.t 6), .none, 0⟩, ⟨(.some 49), .mv (.t 6), .none, 0⟩, ⟨(.some 50), .len (.sl 0) (.t 49), .none, 4⟩, ⟨(.some 51), .bin .sub (.t 50) (.c (.s (.int .i64 1))), .none, 12⟩, ⟨(.some 52), .idxa (.sl 4) (.t 48) (.t 51), .none, 30⟩, ⟨(.some 53), .ld true 4 (.t 52), .none, 62⟩, ⟨(.some 54), .ld true 4 (.t 5), .none, 0⟩, ⟨(.some 55), .eqv (.k true [.i, .i, .i, .i]) true (.t 53) (.t 54), .none, 254⟩, ⟨(.some 56), .nilck (.t 47), .none, 511⟩, ⟨(.some 57), .fld 2 (.t 56), .none, 1023⟩, ⟨.none, .st 1 (.t 57) (.t 55), .none, 2047⟩] []
def d122r9 : D := .reg false [⟨(.some 58), .bin .add (.t 10) (.c (.s (.int .i64 1))), .none, 0⟩, ⟨(.some 10), .mv (.t 58), .none, 0⟩] []
/-- (*quorumite/state.reader).samples -/
def d122 : Df := ⟨6, [], (.seq d122r0 (.seq d122r1 (.blk (.some []) 0 (.loop [10] (.seq d122r2 (.seq (.cond .none (.t 11) .skip (.exit 0)) (.seq (.blk .none 1 (.seq (.seq d122r3 (.cond .none (.t 15) .ret .skip)) (.seq d122r4 (.seq d122r5 (.seq d122r6 (.seq d122r7 (.cond (.some []) (.t 46) d122r8 .skip))))))) d122r9)))))))⟩
noncomputable def g122 (fx : Fx) (cl : Cl) (a0 a1 : AV) (h0 : H) : R :=
  obh (cl 118 [a0, (.s (.int .i64 1000000))] h0) fun v0 h1 =>
  letJ (fun (p0 : Unit) h2 =>
  out [] h2) fun j0 =>
  fx AV (fun (r1 : AV → H → R) (p1 : AV) h3 =>
  F.ob (F.bin .lss p1 v0) fun v1 =>
  cnd v1 (
  F.ob (nilck a0) fun v2 =>
  F.ob (fld 2 v2) fun v3 =>
  F.ob (ld false 1 v3 h3) fun v4 =>
  cnd v4 (
  out [] h3) (
  obh (cl 118 [a0, (.s (.int .i64 1099511627776))] h3) fun v5 h4 =>
  obh (cl 118 [a0, (.s (.int .i64 4))] h4) fun v6 h5 =>
  obh (cl 118 [a0, (.s (.int .i64 16))] h5) fun v7 h6 =>
  obh (cl 118 [a0, (.s (.int .i64 1099511627776))] h6) fun v8 h7 =>
  F.ob (pv (.build [(.int .i64 0), (.int .i64 0), (.int .i64 0), (.int .i64 0)] [(2, 1, .c v5), (1, 1, .c v6), (0, 1, .c v7), (3, 1, .c v8)])) fun v9 =>
  obh (mkv (.alloc 126 [(.int .i64 0), (.int .i64 0), (.int .i64 0), (.int .i64 0)]) h7) fun v10 h8 =>
  F.ob (st 4 v10 v9 h8) fun h9 =>
  F.ob (nilck a1) fun v11 =>
  F.ob (fld 28 v11) fun v12 =>
  F.ob (rdd (.ld false 1 (.c v12)) [] h9) fun v13 =>
  F.ob (rdd (.ld true 4 (.c v10)) [] h9) fun v14 =>
  F.ob (nilck a1) fun v15 =>
  F.ob (fld 26 v15) fun v16 =>
  F.ob (rdd (.ld false 1 (.c v16)) [] h9) fun v17 =>
  obh (cl 200 [v13, v14, v17] h9) fun v18 h10 =>
  obh (cl 194 [a0, v18] h10) fun v19 h11 =>
  F.ob (nilck a1) fun v20 =>
  F.ob (fld 28 v20) fun v21 =>
  F.ob (ld false 1 v21 h11) fun v22 =>
  obh (cl 116 [v22] h11) fun v23 h12 =>
  F.ob (nilck a0) fun v24 =>
  F.ob (fld 2 v24) fun v25 =>
  F.ob (ld false 1 v25 h12) fun v26 =>
  F.ob (pv (.un .not (.c v26))) fun v27 =>
  letJ (fun (p2 : Unit) h13 =>
  F.ob (F.bin .add p1 (.s (.int .i64 1))) fun v28 =>
  r1 v28 h13) fun j2 =>
  cnd v27 (
  F.ob (pv (.len (.sl 0) (.c v23))) fun v29 =>
  F.ob (F.bin .sub v29 (.s (.int .i64 1))) fun v30 =>
  F.ob (idxa (.sl 4) v23 v30) fun v31 =>
  F.ob (rdd (.ld true 4 (.c v31)) [] h12) fun v32 =>
  F.ob (rdd (.ld true 4 (.c v10)) [] h12) fun v33 =>
  F.ob (pv (.eqv (.k true [.i, .i, .i, .i]) true (.c v32) (.c v33))) fun v34 =>
  F.ob (nilck a0) fun v35 =>
  F.ob (fld 2 v35) fun v36 =>
  F.ob (st 1 v36 v34 h12) fun h14 =>
  j2 () h14) (
  j2 () h12))) (
  j0 () h3)) (.s (.int .i64 0)) h1
theorem e122 : (fun (fx : Fx) (cl : Cl) (a0 a1 : AV) (h0 : H) => denF fx cl d122 [a0, a1] h0) = g122 := by kernel_rfl
def d120r0 : D := .reg false [⟨(.some 4), .mv (.c (.s (.sl .none 0 0 true 1))), .none, 0⟩] []
def d120r1 : D := .reg false [⟨(.some 5), .mv (.c (.s (.sl .none 0 0 true 1))), .none, 0⟩] []
def d120r2 : D := .reg false [⟨(.some 7), .mv (.t 0), .none, 0⟩, ⟨(.some 8), .mv (.t 1), .none, 0⟩, ⟨(.some 9), .call 118 [(.t 7), (.t 8)], .none, 0⟩, ⟨(.some 6), .mv (.t 9), .none, 0⟩] []
def d120r3 : D := .reg false [⟨(.some 10), .mv (.t 6), .none, 0⟩, ⟨(.some 11), .bin .gtr (.t 10) (.c (.s (.int .i64 0))), .none, 0⟩, ⟨(.some 12), .mv (.t 11), .none, 0⟩, ⟨(.some 13), .mv (.t 0), (.some (12, true)), 0⟩, ⟨(.some 14), .nilck (.t 13), (.some (12, true)), 0⟩, ⟨(.some 15), .fld 2 (.t 14), (.some (12, true)), 0⟩, ⟨(.some 16), .ld false 1 (.t 15), (.some (12, true)), 0⟩, ⟨(.some 17), .un .not (.t 16), (.some (12, true)), 0⟩, ⟨(.some 18), .pick (.t 12) (.t 17) (.c (.s (.bool false))), .none, 0⟩] []
def d120r4 : D := .reg false [⟨(.some 21), .mv (.t 5), .none, 0⟩, ⟨(.some 22), .mv (.t 0), .none, 0⟩, ⟨(.some 23), .call 118 [(.t 22), (.c (.s (.int .i64 1000000)))], .none, 0⟩, ⟨(.some 24), .bslice 3 1 1 [(.int .i64 0)] [(0, 1, (.t 23))], .none, 0⟩, ⟨(.some 25), .app 3 1 8 (.t 21) (.t 24), .none, 0⟩, ⟨(.some 5), .mv (.t 25), .none, 0⟩] []
def d120r5 : D := .reg false [⟨(.some 19), .mv (.t 6), .none, 0⟩, ⟨(.some 20), .bin .sub (.t 19) (.c (.s (.int .i64 1))), .none, 0⟩, ⟨(.some 6), .mv (.t 20), .none, 0⟩] []
def d120r6 : D := .reg false [⟨(.some 26), .mv (.t 5), .none, 0⟩, ⟨(.some 4), .mv (.t 26), .none, 0⟩] []
/-- (*quorumite/state.reader).row -/
def d120 : Df := ⟨5, [.t 4], (.seq d120r0 (.seq d120r1 (.seq (.seq d120r2 (.blk (.some [5]) 0 (.loop [5, 6] (.seq (.seq d120r3 (.cond .none (.t 18) .skip (.exit 0))) (.seq (.blk .none 1 d120r4) d120r5))))) (.seq d120r6 .ret))))⟩
noncomputable def g120 (fx : Fx) (cl : Cl) (a0 a1 : AV) (h0 : H) : R :=
  obh (cl 118 [a0, a1] h0) fun v0 h1 =>
  letJ (fun (p0 : AV) h2 =>
  out [p0] h2) fun j0 =>
  fx (AV × AV) (fun (r1 : (AV × AV) → H → R) (p1 : AV × AV) h3 =>
  F.ob (F.bin .gtr p1.2 (.s (.int .i64 0))) fun v1 =>
  F.ob (gd v1 true (some a0) (some nought)) fun v2 =>
  F.ob (gd v1 true (nilck v2) (some nought)) fun v3 =>
  F.ob (gd v1 true (fld 2 v3) (some nought)) fun v4 =>
  F.ob (gd v1 true (ld false 1 v4 h3) (some nought)) fun v5 =>
  F.ob (gd v1 true (pv (.un .not (.c v5))) (some nought)) fun v6 =>
  F.ob (pv (.pick (.c v1) (.c v6) (.c (.s (.bool false))))) fun v7 =>
  cnd v7 (
  obh (cl 118 [a0, (.s (.int .i64 1000000))] h3) fun v8 h4 =>
  obh (mkv (.bslice 3 1 1 [(.int .i64 0)] [(0, 1, .c v8)]) h4) fun v9 h5 =>
  obh (av (.app 3 1 8 (.c p1.1) (.c v9)) h5) fun v10 h6 =>
  F.ob (F.bin .sub p1.2 (.s (.int .i64 1))) fun v11 =>
  r1 (v10, v11) h6) (
  j0 p1.1 h3)) ((.s (.sl .none 0 0 true 1)), v0) h1
theorem e120 : (fun (fx : Fx) (cl : Cl) (a0 a1 : AV) (h0 : H) => denF fx cl d120 [a0, a1] h0) = g120 := by kernel_rfl
def d209r0 : D := .reg false [⟨(.some 4), .mv (.c (.s (.bool false))), .none, 0⟩] []
def d209r1 : D := .reg false [⟨(.some 5), .mv (.t 0), .none, 0⟩, ⟨(.some 6), .eqv .ptr true (.t 5) (.c (.s (.ptr .none))), .none, 0⟩, ⟨(.some 7), .mv (.t 6), .none, 0⟩, ⟨(.some 8), .mv (.t 1), (.some (7, true)), 0⟩, ⟨(.some 9), .bin .geq (.t 8) (.c (.s (.int .i64 0))), (.some (7, true)), 0⟩, ⟨(.some 10), .pick (.t 7) (.t 9) (.c (.s (.bool false))), .none, 0⟩, ⟨(.some 11), .mv (.t 10), .none, 0⟩, ⟨(.some 12), .mv (.t 1), (.some (11, true)), 0⟩, ⟨(.some 13), .mv (.t 0), (.some (11, true)), 0⟩, ⟨(.some 14), .nilck (.t 13), (.some (11, true)), 0⟩, ⟨(.some 15), .fld 0 (.t 14), (.some (11, true)), 0⟩, ⟨(.some 16), .ld false 1 (.t 15), (.some (11, true)), 0⟩, ⟨(.some 17), .len (.sl 0) (.t 16), (.some (11, true)), 0⟩, ⟨(.some 18), .bin .lss (.t 12) (.t 17), (.some (11, true)), 0⟩, ⟨(.some 19), .pick (.t 11) (.t 18) (.c (.s (.bool false))), .none, 0⟩, ⟨(.some 4), .mv (.t 19), .none, 0⟩] []
/-- (*quorumite/score.Score).has -/
def d209 : Df := ⟨5, [.t 4], (.seq d209r0 (.seq d209r1 .ret))⟩
noncomputable def g209 (fx : Fx) (cl : Cl) (a0 a1 : AV) (h0 : H) : R :=
  F.ob (pv (.eqv .ptr true (.c a0) (.c (.s (.ptr .none))))) fun v0 =>
  F.ob (gd v0 true (some a1) (some nought)) fun v1 =>
  F.ob (gd v0 true (F.bin .geq v1 (.s (.int .i64 0))) (some nought)) fun v2 =>
  F.ob (pv (.pick (.c v0) (.c v2) (.c (.s (.bool false))))) fun v3 =>
  F.ob (gd v3 true (some a1) (some nought)) fun v4 =>
  F.ob (gd v3 true (some a0) (some nought)) fun v5 =>
  F.ob (gd v3 true (nilck v5) (some nought)) fun v6 =>
  F.ob (gd v3 true (fld 0 v6) (some nought)) fun v7 =>
  F.ob (gd v3 true (ld false 1 v7 h0) (some nought)) fun v8 =>
  F.ob (gd v3 true (pv (.len (.sl 0) (.c v8))) (some nought)) fun v9 =>
  F.ob (gd v3 true (F.bin .lss v4 v9) (some nought)) fun v10 =>
  F.ob (pv (.pick (.c v3) (.c v10) (.c (.s (.bool false))))) fun v11 =>
  out [v11] h0
theorem e209 : (fun (fx : Fx) (cl : Cl) (a0 a1 : AV) (h0 : H) => denF fx cl d209 [a0, a1] h0) = g209 := by kernel_rfl
def d197r0 : D := .reg false [⟨(.some 5), .box 128 (.t 2), .none, 0⟩, ⟨(.some 6), .mv (.c (.s (.int .i64 0))), .none, 0⟩] []
def d197r1 : D := .reg false [⟨(.some 8), .mv (.t 0), .none, 0⟩, ⟨(.some 9), .eqv .ptr false (.t 8) (.c (.s (.ptr .none))), .none, 0⟩, ⟨(.some 7), .mv (.t 9), .none, 0⟩] []
def d197r2 : D := .reg false [⟨(.some 6), .mv (.c (.s (.int .i64 1))), .none, 0⟩] []
def d197r3 : D := .reg false [⟨(.some 11), .mv (.t 0), .none, 0⟩, ⟨(.some 12), .mv (.t 1), .none, 0⟩, ⟨(.some 13), .call 209 [(.t 11), (.t 12)], .none, 0⟩, ⟨(.some 14), .un .not (.t 13), .none, 0⟩, ⟨(.some 10), .mv (.t 14), .none, 0⟩] []
def d197r4 : D := .reg false [⟨(.some 6), .mv (.c (.s (.int .i64 3))), .none, 0⟩] []
def d197r5 : D := .reg true [⟨(.some 16), .fld 0 (.t 5), .none, 0⟩, ⟨(.some 17), .ld false 1 (.t 16), .none, 1⟩, ⟨(.some 18), .bin .lss (.t 17) (.c (.s (.int .i64 0))), .none, 3⟩, ⟨(.some 19), .mv (.t 18), .none, 7⟩, ⟨(.some 20), .fld 0 (.t 5), (.some (19, false)), 15⟩, ⟨(.some 21), .ld false 1 (.t 20), (.some (19, false)), 31⟩, ⟨(.some 22), .mv (.t 0), (.some (19, false)), 15⟩, ⟨(.some 23), .nilck (.t 22), (.some (19, false)), 79⟩, ⟨(.some 24), .fld 1 (.t 23), (.some (19, false)), 207⟩, ⟨(.some 25), .ld false 1 (.t 24), (.some (19, false)), 463⟩, ⟨(.some 26), .bin .geq (.t 21) (.t 25), (.some (19, false)), 1023⟩, ⟨(.some 27), .pick (.t 19) (.c (.s (.bool true))) (.t 26), .none, 2047⟩, ⟨(.some 28), .mv (.t 27), .none, 4095⟩, ⟨(.some 29), .fld 1 (.t 5), (.some (28, false)), 8191⟩, ⟨(.some 30), .ld false 1 (.t 29), (.some (28, false)), 16383⟩, ⟨(.some 31), .bin .lss (.t 30) (.c (.s (.int .i64 0))), (.some (28, false)), 32767⟩, ⟨(.some 32), .pick (.t 28) (.c (.s (.bool true))) (.t 31), .none, 65535⟩, ⟨(.some 33), .mv (.t 32), .none, 131071⟩, ⟨(.some 34), .fld 1 (.t 5), (.some (33, false)), 262143⟩, ⟨(.some 35), .ld false 1 (.t 34), (.some (33, false)), 524287⟩, ⟨(.some 36), .mv (.t 0), (.some (33, false)), 262143⟩, ⟨(.some 37), .nilck (.t 36), (.some (33, false)), 1310719⟩, ⟨(.some 38), .fld 2 (.t 37), (.some (33, false)), 3407871⟩, ⟨(.some 39), .ld false 1 (.t 38), (.some (33, false)), 7602175⟩, ⟨(.some 40), .bin .geq (.t 35) (.t 39), (.some (33, false)), 16777215⟩, ⟨(.some 41), .pick (.t 33) (.c (.s (.bool true))) (.t 40), .none, 33554431⟩, ⟨(.some 42), .mv (.t 41), .none, 67108863⟩, ⟨(.some 43), .fld 2 (.t 5), (.some (42, false)), 134217727⟩, ⟨(.some 44), .ld false 1 (.t 43), (.some (42, false)), 268435455⟩, ⟨(.some 45), .mv (.t 44), (.some (42, false)), 536870911⟩, ⟨(.some 46), .fld 0 (.t 5), (.some (45, true)), 1073741823⟩, ⟨(.some 47), .ld false 1 (.t 46), (.some (45, true)), 2147483647⟩, ⟨(.some 48), .bin .neq (.t 47) (.c (.s (.int .i64 0))), (.some (45, true)), 4294967295⟩, ⟨(.some 49), .pick (.t 45) (.t 48) (.c (.s (.bool false))), (.some (42, false)), 8589934591⟩, ⟨(.some 50), .pick (.t 42) (.c (.s (.bool true))) (.t 49), .none, 17179869183⟩, ⟨(.some 51), .mv (.t 50), .none, 34359738367⟩, ⟨(.some 52), .fld 2 (.t 5), (.some (51, false)), 68719476735⟩, ⟨(.some 53), .ld false 1 (.t 52), (.some (51, false)), 137438953471⟩, ⟨(.some 54), .un .not (.t 53), (.some (51, false)), 274877906943⟩, ⟨(.some 55), .mv (.t 54), (.some (51, false)), 549755813887⟩, ⟨(.some 56), .fld 1 (.t 5), (.some (55, true)), 1099511627775⟩, ⟨(.some 57), .ld false 1 (.t 56), (.some (55, true)), 2199023255551⟩, ⟨(.some 58), .bin .neq (.t 57) (.c (.s (.int .i64 0))), (.some (55, true)), 4398046511103⟩, ⟨(.some 59), .pick (.t 55) (.t 58) (.c (.s (.bool false))), (.some (51, false)), 8796093022207⟩, ⟨(.some 60), .pick (.t 51) (.c (.s (.bool true))) (.t 59), .none, 17592186044415⟩, ⟨(.some 15), .mv (.t 60), .none, 35184372088831⟩] []
def d197r6 : D := .reg false [⟨(.some 6), .mv (.c (.s (.int .i64 1))), .none, 0⟩] []
def d197r7 : D := .reg true [⟨(.some 61), .mv (.t 0), .none, 0⟩, ⟨(.some 62), .nilck (.t 61), .none, 1⟩, ⟨(.some 63), .fld 0 (.t 62), .none, 3⟩, ⟨(.some 64), .ld false 1 (.t 63), .none, 7⟩, ⟨(.some 65), .mv (.t 1), .none, 0⟩, ⟨(.some 66), .ld true 3 (.t 5), .none, 0⟩, ⟨(.some 67), .idxa (.sl 3) (.t 64) (.t 65), .none, 63⟩, ⟨.none, .st 3 (.t 67) (.t 66), .none, 127⟩] []
def d197r8 : D := .reg false [⟨(.some 6), .mv (.c (.s (.int .i64 0))), .none, 0⟩] []
/-- (*quorumite/score.Score).Set -/
def d197 : Df := ⟨7, [.t 6], (.seq d197r0 (.seq (.blk .none 0 (.seq d197r1 (.cond .none (.t 7) (.seq d197r2 .ret) (.seq d197r3 (.cond .none (.t 10) (.seq d197r4 .ret) (.seq d197r5 (.cond .none (.t 15) (.seq d197r6 .ret) .skip))))))) (.seq d197r7 (.seq d197r8 .ret))))⟩
noncomputable def g197 (fx : Fx) (cl : Cl) (a0 a1 a2 : AV) (h0 : H) : R :=
  obh (mkv (.box 128 (.c a2)) h0) fun v0 h1 =>
  F.ob (pv (.eqv .ptr false (.c a0) (.c (.s (.ptr .none))))) fun v1 =>
  cnd v1 (
  out [(.s (.int .i64 1))] h1) (
  obh (cl 209 [a0, a1] h1) fun v2 h2 =>
  F.ob (pv (.un .not (.c v2))) fun v3 =>
  cnd v3 (
  out [(.s (.int .i64 3))] h2) (
  F.ob (fld 0 v0) fun v4 =>
  F.ob (rdd (.ld false 1 (.c v4)) [] h2) fun v5 =>
  F.ob (F.bin .lss v5 (.s (.int .i64 0))) fun v6 =>
  F.ob (gd v6 false (fld 0 v0) (some nought)) fun v7 =>
  F.ob (gd v6 false (rdd (.ld false 1 (.c v7)) [] h2) (some nought)) fun v8 =>
  F.ob (gd v6 false (some a0) (some nought)) fun v9 =>
  F.ob (gd v6 false (nilck v9) (some nought)) fun v10 =>
  F.ob (gd v6 false (fld 1 v10) (some nought)) fun v11 =>
  F.ob (gd v6 false (rdd (.ld false 1 (.c v11)) [] h2) (some nought)) fun v12 =>
  F.ob (gd v6 false (F.bin .geq v8 v12) (some nought)) fun v13 =>
  F.ob (pv (.pick (.c v6) (.c (.s (.bool true))) (.c v13))) fun v14 =>
  F.ob (gd v14 false (fld 1 v0) (some nought)) fun v15 =>
  F.ob (gd v14 false (rdd (.ld false 1 (.c v15)) [] h2) (some nought)) fun v16 =>
  F.ob (gd v14 false (F.bin .lss v16 (.s (.int .i64 0))) (some nought)) fun v17 =>
  F.ob (pv (.pick (.c v14) (.c (.s (.bool true))) (.c v17))) fun v18 =>
  F.ob (gd v18 false (fld 1 v0) (some nought)) fun v19 =>
  F.ob (gd v18 false (rdd (.ld false 1 (.c v19)) [] h2) (some nought)) fun v20 =>
  F.ob (gd v18 false (some a0) (some nought)) fun v21 =>
  F.ob (gd v18 false (nilck v21) (some nought)) fun v22 =>
  F.ob (gd v18 false (fld 2 v22) (some nought)) fun v23 =>
  F.ob (gd v18 false (rdd (.ld false 1 (.c v23)) [] h2) (some nought)) fun v24 =>
  F.ob (gd v18 false (F.bin .geq v20 v24) (some nought)) fun v25 =>
  F.ob (pv (.pick (.c v18) (.c (.s (.bool true))) (.c v25))) fun v26 =>
  F.ob (gd v26 false (fld 2 v0) (some nought)) fun v27 =>
  F.ob (gd v26 false (rdd (.ld false 1 (.c v27)) [] h2) (some nought)) fun v28 =>
  F.ob (gd v26 false (some v28) (some nought)) fun v29 =>
  F.ob (gd v29 true (fld 0 v0) (some nought)) fun v30 =>
  F.ob (gd v29 true (rdd (.ld false 1 (.c v30)) [] h2) (some nought)) fun v31 =>
  F.ob (gd v29 true (F.bin .neq v31 (.s (.int .i64 0))) (some nought)) fun v32 =>
  F.ob (gd v26 false (pv (.pick (.c v29) (.c v32) (.c (.s (.bool false))))) (some nought)) fun v33 =>
  F.ob (pv (.pick (.c v26) (.c (.s (.bool true))) (.c v33))) fun v34 =>
  F.ob (gd v34 false (fld 2 v0) (some nought)) fun v35 =>
  F.ob (gd v34 false (rdd (.ld false 1 (.c v35)) [] h2) (some nought)) fun v36 =>
  F.ob (gd v34 false (pv (.un .not (.c v36))) (some nought)) fun v37 =>
  F.ob (gd v34 false (some v37) (some nought)) fun v38 =>
  F.ob (gd v38 true (fld 1 v0) (some nought)) fun v39 =>
  F.ob (gd v38 true (rdd (.ld false 1 (.c v39)) [] h2) (some nought)) fun v40 =>
  F.ob (gd v38 true (F.bin .neq v40 (.s (.int .i64 0))) (some nought)) fun v41 =>
  F.ob (gd v34 false (pv (.pick (.c v38) (.c v41) (.c (.s (.bool false))))) (some nought)) fun v42 =>
  F.ob (pv (.pick (.c v34) (.c (.s (.bool true))) (.c v42))) fun v43 =>
  cnd v43 (
  out [(.s (.int .i64 1))] h2) (
  F.ob (nilck a0) fun v44 =>
  F.ob (fld 0 v44) fun v45 =>
  F.ob (rdd (.ld false 1 (.c v45)) [] h2) fun v46 =>
  F.ob (rdd (.ld true 3 (.c v0)) [] h2) fun v47 =>
  F.ob (idxa (.sl 3) v46 a1) fun v48 =>
  F.ob (st 3 v48 v47 h2) fun h3 =>
  out [(.s (.int .i64 0))] h3)))
theorem e197 : (fun (fx : Fx) (cl : Cl) (a0 a1 a2 : AV) (h0 : H) => denF fx cl d197 [a0, a1, a2] h0) = g197 := by kernel_rfl
def d275r0 : D := .reg false [⟨(.some 2), .mv (.c (.s (.int .u64 0))), .none, 0⟩] []
def d275r1 : D := .reg false [⟨(.some 3), .mv (.t 0), .none, 0⟩, ⟨(.some 4), .nilck (.t 3), .none, 0⟩, ⟨(.some 5), .fld 0 (.t 4), .none, 0⟩, ⟨(.some 6), .ld false 1 (.t 5), .none, 0⟩, ⟨(.some 7), .bin .eql (.t 6) (.c (.s (.int .i64 64))), .none, 0⟩] []
def d275r2 : D := .reg false [⟨(.some 2), .mv (.c (.s (.int .u64 18446744073709551615))), .none, 0⟩] []
def d275r3 : D := .reg false [⟨(.some 8), .mv (.t 0), .none, 0⟩, ⟨(.some 9), .nilck (.t 8), .none, 0⟩, ⟨(.some 10), .fld 0 (.t 9), .none, 0⟩, ⟨(.some 11), .ld false 1 (.t 10), .none, 0⟩, ⟨(.some 12), .conv .u64 (.t 11), .none, 0⟩, ⟨(.some 13), .bin .shl (.c (.s (.int .u64 1))) (.t 12), .none, 0⟩, ⟨(.some 14), .bin .sub (.t 13) (.c (.s (.int .u64 1))), .none, 0⟩, ⟨(.some 2), .mv (.t 14), .none, 0⟩] []
/-- (*quorumite/replay.Replay).mask -/
def d275 : Df := ⟨4, [.t 2], (.seq d275r0 (.seq (.seq d275r1 (.cond .none (.t 7) (.seq d275r2 .ret) .skip)) (.seq d275r3 .ret)))⟩
noncomputable def g275 (fx : Fx) (cl : Cl) (a0 : AV) (h0 : H) : R :=
  F.ob (nilck a0) fun v0 =>
  F.ob (fld 0 v0) fun v1 =>
  F.ob (ld false 1 v1 h0) fun v2 =>
  F.ob (F.bin .eql v2 (.s (.int .i64 64))) fun v3 =>
  cnd v3 (
  out [(.s (.int .u64 18446744073709551615))] h0) (
  F.ob (nilck a0) fun v4 =>
  F.ob (fld 0 v4) fun v5 =>
  F.ob (ld false 1 v5 h0) fun v6 =>
  F.ob (conv .u64 v6) fun v7 =>
  F.ob (F.bin .shl (.s (.int .u64 1)) v7) fun v8 =>
  F.ob (F.bin .sub v8 (.s (.int .u64 1))) fun v9 =>
  out [v9] h0)
theorem e275 : (fun (fx : Fx) (cl : Cl) (a0 : AV) (h0 : H) => denF fx cl d275 [a0] h0) = g275 := by kernel_rfl
def d196r0 : D := .reg false [⟨(.some 6), .mv (.c (.s (.int .i64 0))), .none, 0⟩] []
def d196r1 : D := .reg false [⟨(.some 7), .mv (.t 0), .none, 0⟩, ⟨(.some 8), .eqv .ptr false (.t 7) (.c (.s (.ptr .none))), .none, 0⟩, ⟨(.some 9), .mv (.t 8), .none, 0⟩, ⟨(.some 10), .mv (.t 1), (.some (9, false)), 0⟩, ⟨(.some 11), .bin .lss (.t 10) (.c (.s (.int .i64 0))), (.some (9, false)), 0⟩, ⟨(.some 12), .pick (.t 9) (.c (.s (.bool true))) (.t 11), .none, 0⟩, ⟨(.some 13), .mv (.t 12), .none, 0⟩, ⟨(.some 14), .mv (.t 1), (.some (13, false)), 0⟩, ⟨(.some 15), .bin .gtr (.t 14) (.c (.s (.int .i64 1099511627776))), (.some (13, false)), 0⟩, ⟨(.some 16), .pick (.t 13) (.c (.s (.bool true))) (.t 15), .none, 0⟩, ⟨(.some 17), .mv (.t 16), .none, 0⟩, ⟨(.some 18), .mv (.t 2), (.some (17, false)), 0⟩, ⟨(.some 19), .mv (.t 0), (.some (17, false)), 0⟩, ⟨(.some 20), .call 275 [(.t 19)], (.some (17, false)), 0⟩, ⟨(.some 21), .bin .andNot (.t 18) (.t 20), (.some (17, false)), 0⟩, ⟨(.some 22), .bin .neq (.t 21) (.c (.s (.int .u64 0))), (.some (17, false)), 0⟩, ⟨(.some 23), .pick (.t 17) (.c (.s (.bool true))) (.t 22), .none, 0⟩, ⟨(.some 24), .mv (.t 23), .none, 0⟩, ⟨(.some 25), .mv (.t 1), (.some (24, false)), 0⟩, ⟨(.some 26), .bin .gtr (.t 25) (.c (.s (.int .i64 0))), (.some (24, false)), 0⟩, ⟨(.some 27), .mv (.t 2), (.some (24, false)), 0⟩, ⟨(.some 28), .bin .and (.t 27) (.c (.s (.int .u64 1))), (.some (24, false)), 0⟩, ⟨(.some 29), .bin .eql (.t 28) (.c (.s (.int .u64 1))), (.some (24, false)), 0⟩, ⟨(.some 30), .eqv (.k false [.b]) true (.t 26) (.t 29), (.some (24, false)), 0⟩, ⟨(.some 31), .pick (.t 24) (.c (.s (.bool true))) (.t 30), .none, 0⟩, ⟨(.some 32), .mv (.t 31), .none, 0⟩, ⟨(.some 33), .mv (.t 1), (.some (32, false)), 0⟩, ⟨(.some 34), .bin .lss (.t 33) (.c (.s (.int .i64 64))), (.some (32, false)), 0⟩, ⟨(.some 35), .mv (.t 34), (.some (32, false)), 0⟩, ⟨(.some 36), .mv (.t 2), (.some (35, true)), 0⟩, ⟨(.some 37), .mv (.t 1), (.some (35, true)), 0⟩, ⟨(.some 38), .conv .u64 (.t 37), (.some (35, true)), 0⟩, ⟨(.some 39), .bin .shr (.t 36) (.t 38), (.some (35, true)), 0⟩, ⟨(.some 40), .bin .neq (.t 39) (.c (.s (.int .u64 0))), (.some (35, true)), 0⟩, ⟨(.some 41), .pick (.t 35) (.t 40) (.c (.s (.bool false))), (.some (32, false)), 0⟩, ⟨(.some 42), .pick (.t 32) (.c (.s (.bool true))) (.t 41), .none, 0⟩] []
def d196r2 : D := .reg false [⟨(.some 6), .mv (.c (.s (.int .i64 1))), .none, 0⟩] []
def d196r3 : D := .reg false [⟨(.some 43), .mv (.t 0), .none, 0⟩, ⟨(.some 44), .mv (.t 0), .none, 0⟩, ⟨(.some 45), .mv (.t 1), .none, 0⟩, ⟨(.some 46), .mv (.t 2), .none, 0⟩, ⟨(.some 47), .nilck (.t 43), .none, 0⟩, ⟨(.some 48), .fld 1 (.t 47), .none, 0⟩, ⟨.none, .st 1 (.t 48) (.t 45), .none, 0⟩, ⟨(.some 49), .nilck (.t 44), .none, 0⟩, ⟨(.some 50), .fld 2 (.t 49), .none, 0⟩, ⟨.none, .st 1 (.t 50) (.t 46), .none, 0⟩] []
def d196r4 : D := .reg false [⟨(.some 6), .mv (.c (.s (.int .i64 0))), .none, 0⟩] []
/-- (*quorumite/replay.Replay).Set -/
def d196 : Df := ⟨6, [.t 6], (.seq d196r0 (.seq (.seq d196r1 (.cond .none (.t 42) (.seq d196r2 .ret) .skip)) (.seq d196r3 (.seq d196r4 .ret))))⟩
noncomputable def g196 (fx : Fx) (cl : Cl) (a0 a1 a2 : AV) (h0 : H) : R :=
  F.ob (pv (.eqv .ptr false (.c a0) (.c (.s (.ptr .none))))) fun v0 =>
  F.ob (gd v0 false (some a1) (some nought)) fun v1 =>
  F.ob (gd v0 false (F.bin .lss v1 (.s (.int .i64 0))) (some nought)) fun v2 =>
  F.ob (pv (.pick (.c v0) (.c (.s (.bool true))) (.c v2))) fun v3 =>
  F.ob (gd v3 false (some a1) (some nought)) fun v4 =>
  F.ob (gd v3 false (F.bin .gtr v4 (.s (.int .i64 1099511627776))) (some nought)) fun v5 =>
  F.ob (pv (.pick (.c v3) (.c (.s (.bool true))) (.c v5))) fun v6 =>
  F.ob (gd v6 false (some a2) (some nought)) fun v7 =>
  F.ob (gd v6 false (some a0) (some nought)) fun v8 =>
  obh (gd v6 false (cl 275 [v8] h0) (some (nought, h0))) fun v9 h1 =>
  F.ob (gd v6 false (F.bin .andNot v7 v9) (some nought)) fun v10 =>
  F.ob (gd v6 false (F.bin .neq v10 (.s (.int .u64 0))) (some nought)) fun v11 =>
  F.ob (pv (.pick (.c v6) (.c (.s (.bool true))) (.c v11))) fun v12 =>
  F.ob (gd v12 false (some a1) (some nought)) fun v13 =>
  F.ob (gd v12 false (F.bin .gtr v13 (.s (.int .i64 0))) (some nought)) fun v14 =>
  F.ob (gd v12 false (some a2) (some nought)) fun v15 =>
  F.ob (gd v12 false (F.bin .and v15 (.s (.int .u64 1))) (some nought)) fun v16 =>
  F.ob (gd v12 false (F.bin .eql v16 (.s (.int .u64 1))) (some nought)) fun v17 =>
  F.ob (gd v12 false (pv (.eqv (.k false [.b]) true (.c v14) (.c v17))) (some nought)) fun v18 =>
  F.ob (pv (.pick (.c v12) (.c (.s (.bool true))) (.c v18))) fun v19 =>
  F.ob (gd v19 false (some a1) (some nought)) fun v20 =>
  F.ob (gd v19 false (F.bin .lss v20 (.s (.int .i64 64))) (some nought)) fun v21 =>
  F.ob (gd v19 false (some v21) (some nought)) fun v22 =>
  F.ob (gd v22 true (some a2) (some nought)) fun v23 =>
  F.ob (gd v22 true (some a1) (some nought)) fun v24 =>
  F.ob (gd v22 true (conv .u64 v24) (some nought)) fun v25 =>
  F.ob (gd v22 true (F.bin .shr v23 v25) (some nought)) fun v26 =>
  F.ob (gd v22 true (F.bin .neq v26 (.s (.int .u64 0))) (some nought)) fun v27 =>
  F.ob (gd v19 false (pv (.pick (.c v22) (.c v27) (.c (.s (.bool false))))) (some nought)) fun v28 =>
  F.ob (pv (.pick (.c v19) (.c (.s (.bool true))) (.c v28))) fun v29 =>
  cnd v29 (
  out [(.s (.int .i64 1))] h1) (
  F.ob (nilck a0) fun v30 =>
  F.ob (fld 1 v30) fun v31 =>
  F.ob (st 1 v31 a1 h1) fun h2 =>
  F.ob (nilck a0) fun v32 =>
  F.ob (fld 2 v32) fun v33 =>
  F.ob (st 1 v33 a2 h2) fun h3 =>
  out [(.s (.int .i64 0))] h3)
theorem e196 : (fun (fx : Fx) (cl : Cl) (a0 a1 a2 : AV) (h0 : H) => denF fx cl d196 [a0, a1, a2] h0) = g196 := by kernel_rfl
def d194r0 : D := .reg false [⟨(.some 4), .mv (.t 0), .none, 0⟩, ⟨(.some 5), .mv (.t 0), .none, 0⟩, ⟨(.some 6), .nilck (.t 5), .none, 0⟩, ⟨(.some 7), .fld 2 (.t 6), .none, 0⟩, ⟨(.some 8), .ld false 1 (.t 7), .none, 0⟩, ⟨(.some 9), .mv (.t 8), .none, 0⟩, ⟨(.some 10), .mv (.t 1), (.some (9, false)), 0⟩, ⟨(.some 11), .bin .neq (.t 10) (.c (.s (.int .i64 0))), (.some (9, false)), 0⟩, ⟨(.some 12), .pick (.t 9) (.c (.s (.bool true))) (.t 11), .none, 0⟩, ⟨(.some 13), .nilck (.t 4), .none, 0⟩, ⟨(.some 14), .fld 2 (.t 13), .none, 0⟩, ⟨.none, .st 1 (.t 14) (.t 12), .none, 0⟩] []
/-- (*quorumite/state.reader).must -/
def d194 : Df := ⟨4, [], d194r0⟩
noncomputable def g194 (fx : Fx) (cl : Cl) (a0 a1 : AV) (h0 : H) : R :=
  F.ob (nilck a0) fun v0 =>
  F.ob (fld 2 v0) fun v1 =>
  F.ob (ld false 1 v1 h0) fun v2 =>
  F.ob (gd v2 false (some a1) (some nought)) fun v3 =>
  F.ob (gd v2 false (F.bin .neq v3 (.s (.int .i64 0))) (some nought)) fun v4 =>
  F.ob (pv (.pick (.c v2) (.c (.s (.bool true))) (.c v4))) fun v5 =>
  F.ob (nilck a0) fun v6 =>
  F.ob (fld 2 v6) fun v7 =>
  F.ob (st 1 v7 v5 h0) fun h1 =>
  out [] h1
theorem e194 : (fun (fx : Fx) (cl : Cl) (a0 a1 : AV) (h0 : H) => denF fx cl d194 [a0, a1] h0) = g194 := by kernel_rfl
def d119r0 : D := .reg false [⟨(.some 14), .mv (.t 0), .none, 0⟩, ⟨(.some 15), .call 118 [(.t 14), (.c (.s (.int .i64 60000)))], .none, 0⟩, ⟨(.some 16), .mv (.t 0), .none, 0⟩, ⟨(.some 17), .call 118 [(.t 16), (.c (.s (.int .i64 1099511627776)))], .none, 0⟩, ⟨(.some 6), .mv (.t 15), .none, 0⟩, ⟨(.some 7), .mv (.t 17), .none, 0⟩] []
def d119r1 : D := .reg false [⟨(.some 18), .mv (.t 0), .none, 0⟩, ⟨(.some 19), .mv (.t 1), .none, 0⟩, ⟨(.some 20), .nilck (.t 19), .none, 0⟩, ⟨(.some 21), .fld 27 (.t 20), .none, 0⟩, ⟨(.some 22), .ld false 1 (.t 21), .none, 0⟩, ⟨(.some 23), .call 103 [(.t 22)], .none, 0⟩, ⟨(.some 24), .mv (.t 2), .none, 0⟩, ⟨(.some 25), .mv (.t 6), .none, 0⟩, ⟨(.some 26), .mv (.t 7), .none, 0⟩, ⟨(.some 27), .call 195 [(.t 23), (.t 24), (.t 25), (.t 26)], .none, 0⟩, ⟨(.some 28), .call 194 [(.t 18), (.t 27)], .none, 0⟩] []
def d119r2 : D := .reg true [⟨(.some 29), .mv (.t 1), .none, 0⟩, ⟨(.some 30), .nilck (.t 29), .none, 1⟩, ⟨(.some 31), .fld 27 (.t 30), .none, 3⟩, ⟨(.some 32), .ld false 1 (.t 31), .none, 7⟩, ⟨(.some 33), .mv (.t 2), .none, 0⟩, ⟨(.some 34), .call 106 [(.t 32), (.t 33)], .none, 31⟩, ⟨(.some 35), .mv (.t 1), .none, 0⟩, ⟨(.some 36), .nilck (.t 35), .none, 64⟩, ⟨(.some 37), .fld 27 (.t 36), .none, 192⟩, ⟨(.some 38), .ld false 1 (.t 37), .none, 448⟩, ⟨(.some 39), .mv (.t 2), .none, 0⟩, ⟨(.some 40), .call 107 [(.t 38), (.t 39)], .none, 2047⟩, ⟨(.some 41), .bslice 205 1 2 [(.ptr .none), (.ptr .none)] [(0, 1, (.t 34)), (1, 1, (.t 40))], .none, 4095⟩, ⟨(.some 42), .len (.sl 0) (.t 41), .none, 8191⟩, ⟨(.some 43), .mv (.c (.s (.int .i64 0))), .none, 0⟩] []
def d119r3 : D := .reg false [⟨(.some 44), .bin .lss (.t 43) (.t 42), .none, 0⟩] []
def d119r4 : D := .reg false [⟨(.some 45), .idxa (.sl 1) (.t 41) (.t 43), .none, 0⟩, ⟨(.some 46), .ld false 1 (.t 45), .none, 0⟩, ⟨(.some 9), .mv (.t 46), .none, 0⟩] []
def d119r5 : D := .reg false [⟨(.some 47), .mv (.t 0), .none, 0⟩, ⟨(.some 48), .call 118 [(.t 47), (.c (.s (.int .i64 1099511627776)))], .none, 0⟩, ⟨(.some 10), .mv (.t 48), .none, 0⟩] []
def d119r6 : D := .reg false [⟨(.some 49), .mv (.t 0), .none, 0⟩, ⟨(.some 50), .mv (.t 9), .none, 0⟩, ⟨(.some 51), .mv (.t 10), .none, 0⟩, ⟨(.some 52), .mv (.t 0), .none, 0⟩, ⟨(.some 53), .call 193 [(.t 52)], .none, 0⟩, ⟨(.some 54), .call 196 [(.t 50), (.t 51), (.t 53)], .none, 0⟩, ⟨(.some 55), .call 194 [(.t 49), (.t 54)], .none, 0⟩] []
def d119r7 : D := .reg false [⟨(.some 56), .bin .add (.t 43) (.c (.s (.int .i64 1))), .none, 0⟩, ⟨(.some 43), .mv (.t 56), .none, 0⟩] []
def d119r8 : D := .reg false [⟨(.some 57), .mv (.t 0), .none, 0⟩, ⟨(.some 58), .call 118 [(.t 57), (.c (.s (.int .i64 1000000)))], .none, 0⟩, ⟨(.some 59), .mv (.t 0), .none, 0⟩, ⟨(.some 60), .call 118 [(.t 59), (.c (.s (.int .i64 1000000)))], .none, 0⟩, ⟨(.some 61), .mv (.t 0), .none, 0⟩, ⟨(.some 62), .call 118 [(.t 61), (.c (.s (.int .i64 1)))], .none, 0⟩, ⟨(.some 11), .mv (.t 58), .none, 0⟩, ⟨(.some 12), .mv (.t 60), .none, 0⟩, ⟨(.some 13), .mv (.t 62), .none, 0⟩] []
def d119r9 : D := .reg false [⟨(.some 63), .mv (.t 0), .none, 0⟩, ⟨(.some 64), .mv (.t 1), .none, 0⟩, ⟨(.some 65), .nilck (.t 64), .none, 0⟩, ⟨(.some 66), .fld 29 (.t 65), .none, 0⟩, ⟨(.some 67), .ld false 1 (.t 66), .none, 0⟩, ⟨(.some 68), .mv (.t 2), .none, 0⟩, ⟨(.some 69), .mv (.t 11), .none, 0⟩, ⟨(.some 70), .mv (.t 12), .none, 0⟩, ⟨(.some 71), .mv (.t 13), .none, 0⟩, ⟨(.some 72), .bin .eql (.t 71) (.c (.s (.int .i64 1))), .none, 0⟩, ⟨(.some 73), .build [(.int .i64 0), (.int .i64 0), (.bool false)] [(0, 1, (.t 69)), (1, 1, (.t 70)), (2, 1, (.t 72))], .none, 0⟩, ⟨(.some 74), .call 197 [(.t 67), (.t 68), (.t 73)], .none, 0⟩, ⟨(.some 75), .call 194 [(.t 63), (.t 74)], .none, 0⟩] []
/-- (*quorumite/state.reader).collector -/
def d119 : Df := ⟨7, [], (.seq d119r0 (.seq d119r1 (.seq (.seq d119r2 (.blk (.some []) 0 (.loop [43] (.seq d119r3 (.seq (.cond .none (.t 44) .skip (.exit 0)) (.seq (.blk .none 1 (.seq d119r4 (.seq d119r5 d119r6))) d119r7)))))) (.seq d119r8 d119r9))))⟩
noncomputable def g119 (fx : Fx) (cl : Cl) (a0 a1 a2 : AV) (h0 : H) : R :=
  obh (cl 118 [a0, (.s (.int .i64 60000))] h0) fun v0 h1 =>
  obh (cl 118 [a0, (.s (.int .i64 1099511627776))] h1) fun v1 h2 =>
  F.ob (nilck a1) fun v2 =>
  F.ob (fld 27 v2) fun v3 =>
  F.ob (ld false 1 v3 h2) fun v4 =>
  obh (cl 103 [v4] h2) fun v5 h3 =>
  obh (cl 195 [v5, a2, v0, v1] h3) fun v6 h4 =>
  obh (cl 194 [a0, v6] h4) fun v7 h5 =>
  F.ob (nilck a1) fun v8 =>
  F.ob (fld 27 v8) fun v9 =>
  F.ob (rdd (.ld false 1 (.c v9)) [] h5) fun v10 =>
  obh (cl 106 [v10, a2] h5) fun v11 h6 =>
  F.ob (nilck a1) fun v12 =>
  F.ob (fld 27 v12) fun v13 =>
  F.ob (rdd (.ld false 1 (.c v13)) [(5, h5)] h6) fun v14 =>
  obh (cl 107 [v14, a2] h6) fun v15 h7 =>
  obh (mkv (.bslice 205 1 2 [(.ptr .none), (.ptr .none)] [(0, 1, .c v11), (1, 1, .c v15)]) h7) fun v16 h8 =>
  F.ob (pv (.len (.sl 0) (.c v16))) fun v17 =>
  letJ (fun (p0 : Unit) h9 =>
  obh (cl 118 [a0, (.s (.int .i64 1000000))] h9) fun v18 h10 =>
  obh (cl 118 [a0, (.s (.int .i64 1000000))] h10) fun v19 h11 =>
  obh (cl 118 [a0, (.s (.int .i64 1))] h11) fun v20 h12 =>
  F.ob (nilck a1) fun v21 =>
  F.ob (fld 29 v21) fun v22 =>
  F.ob (ld false 1 v22 h12) fun v23 =>
  F.ob (F.bin .eql v20 (.s (.int .i64 1))) fun v24 =>
  F.ob (pv (.build [(.int .i64 0), (.int .i64 0), (.bool false)] [(0, 1, .c v18), (1, 1, .c v19), (2, 1, .c v24)])) fun v25 =>
  obh (cl 197 [v23, a2, v25] h12) fun v26 h13 =>
  obh (cl 194 [a0, v26] h13) fun v27 h14 =>
  out [] h14) fun j0 =>
  fx AV (fun (r1 : AV → H → R) (p1 : AV) h15 =>
  F.ob (F.bin .lss p1 v17) fun v28 =>
  cnd v28 (
  F.ob (idxa (.sl 1) v16 p1) fun v29 =>
  F.ob (ld false 1 v29 h15) fun v30 =>
  obh (cl 118 [a0, (.s (.int .i64 1099511627776))] h15) fun v31 h16 =>
  obh (cl 193 [a0] h16) fun v32 h17 =>
  obh (cl 196 [v30, v31, v32] h17) fun v33 h18 =>
  obh (cl 194 [a0, v33] h18) fun v34 h19 =>
  F.ob (F.bin .add p1 (.s (.int .i64 1))) fun v35 =>
  r1 v35 h19) (
  j0 () h15)) (.s (.int .i64 0)) h8
theorem e119 : (fun (fx : Fx) (cl : Cl) (a0 a1 a2 : AV) (h0 : H) => denF fx cl d119 [a0, a1, a2] h0) = g119 := by kernel_rfl
def d193r0 : D := .reg false [⟨(.some 2), .mv (.c (.s (.int .u64 0))), .none, 0⟩] []
def d193r1 : D := .reg true [⟨(.some 6), .mv (.t 0), .none, 0⟩, ⟨(.some 7), .nilck (.t 6), .none, 1⟩, ⟨(.some 8), .fld 0 (.t 7), .none, 3⟩, ⟨(.some 9), .ld false 1 (.t 8), .none, 7⟩, ⟨(.some 10), .mv (.t 0), .none, 0⟩, ⟨(.some 11), .nilck (.t 10), .none, 16⟩, ⟨(.some 12), .fld 1 (.t 11), .none, 48⟩, ⟨(.some 13), .ld false 1 (.t 12), .none, 112⟩, ⟨(.some 14), .call 224 [(.t 9), (.t 13)], .none, 255⟩, ⟨(.some 5), .mv (.t 14), .none, 511⟩, ⟨(.some 15), .ext (.t 5) 0, .none, 1023⟩, ⟨(.some 16), .ext (.t 5) 1, .none, 1023⟩, ⟨(.some 3), .mv (.t 15), .none, 2047⟩, ⟨(.some 4), .mv (.t 16), .none, 8191⟩] []
def d193r2 : D := .reg false [⟨(.some 17), .mv (.t 0), .none, 0⟩, ⟨(.some 18), .mv (.t 0), .none, 0⟩, ⟨(.some 19), .nilck (.t 18), .none, 0⟩, ⟨(.some 20), .fld 2 (.t 19), .none, 0⟩, ⟨(.some 21), .ld false 1 (.t 20), .none, 0⟩, ⟨(.some 22), .mv (.t 21), .none, 0⟩, ⟨(.some 23), .mv (.t 4), (.some (22, false)), 0⟩, ⟨(.some 24), .bin .neq (.t 23) (.c (.s (.int .i64 0))), (.some (22, false)), 0⟩, ⟨(.some 25), .pick (.t 22) (.c (.s (.bool true))) (.t 24), .none, 0⟩, ⟨(.some 26), .nilck (.t 17), .none, 0⟩, ⟨(.some 27), .fld 2 (.t 26), .none, 0⟩, ⟨.none, .st 1 (.t 27) (.t 25), .none, 0⟩] []
def d193r3 : D := .reg false [⟨(.some 28), .mv (.t 0), .none, 0⟩, ⟨(.some 29), .nilck (.t 28), .none, 0⟩, ⟨(.some 30), .fld 2 (.t 29), .none, 0⟩, ⟨(.some 31), .ld false 1 (.t 30), .none, 0⟩] []
def d193r4 : D := .reg false [⟨(.some 2), .mv (.c (.s (.int .u64 0))), .none, 0⟩] []
def d193r5 : D := .reg false [⟨(.some 32), .mv (.t 0), .none, 0⟩, ⟨(.some 33), .nilck (.t 32), .none, 0⟩, ⟨(.some 34), .fld 1 (.t 33), .none, 0⟩, ⟨(.some 35), .ld false 1 (.t 34), .none, 0⟩, ⟨(.some 36), .bin .add (.t 35) (.c (.s (.int .i64 8))), .none, 0⟩, ⟨(.some 37), .nilck (.t 32), .none, 0⟩, ⟨(.some 38), .fld 1 (.t 37), .none, 0⟩, ⟨.none, .st 1 (.t 38) (.t 36), .none, 0⟩] []
def d193r6 : D := .reg false [⟨(.some 39), .mv (.t 3), .none, 0⟩, ⟨(.some 2), .mv (.t 39), .none, 0⟩] []
/-- (*quorumite/state.reader).raw -/
def d193 : Df := ⟨6, [.t 2], (.seq d193r0 (.seq d193r1 (.seq (.seq d193r2 (.seq d193r3 (.cond .none (.t 31) (.seq d193r4 .ret) .skip))) (.seq d193r5 (.seq d193r6 .ret)))))⟩
noncomputable def g193 (fx : Fx) (cl : Cl) (a0 : AV) (h0 : H) : R :=
  F.ob (nilck a0) fun v0 =>
  F.ob (fld 0 v0) fun v1 =>
  F.ob (rdd (.ld false 1 (.c v1)) [] h0) fun v2 =>
  F.ob (nilck a0) fun v3 =>
  F.ob (fld 1 v3) fun v4 =>
  F.ob (rdd (.ld false 1 (.c v4)) [] h0) fun v5 =>
  obh (cl 224 [v2, v5] h0) fun v6 h1 =>
  F.ob (pv (.ext (.c v6) 0)) fun v7 =>
  F.ob (pv (.ext (.c v6) 1)) fun v8 =>
  F.ob (nilck a0) fun v9 =>
  F.ob (fld 2 v9) fun v10 =>
  F.ob (ld false 1 v10 h1) fun v11 =>
  F.ob (gd v11 false (some v8) (some nought)) fun v12 =>
  F.ob (gd v11 false (F.bin .neq v12 (.s (.int .i64 0))) (some nought)) fun v13 =>
  F.ob (pv (.pick (.c v11) (.c (.s (.bool true))) (.c v13))) fun v14 =>
  F.ob (nilck a0) fun v15 =>
  F.ob (fld 2 v15) fun v16 =>
  F.ob (st 1 v16 v14 h1) fun h2 =>
  F.ob (nilck a0) fun v17 =>
  F.ob (fld 2 v17) fun v18 =>
  F.ob (ld false 1 v18 h2) fun v19 =>
  cnd v19 (
  out [(.s (.int .u64 0))] h2) (
  F.ob (nilck a0) fun v20 =>
  F.ob (fld 1 v20) fun v21 =>
  F.ob (ld false 1 v21 h2) fun v22 =>
  F.ob (F.bin .add v22 (.s (.int .i64 8))) fun v23 =>
  F.ob (nilck a0) fun v24 =>
  F.ob (fld 1 v24) fun v25 =>
  F.ob (st 1 v25 v23 h2) fun h3 =>
  out [v7] h3)
theorem e193 : (fun (fx : Fx) (cl : Cl) (a0 : AV) (h0 : H) => denF fx cl d193 [a0] h0) = g193 := by kernel_rfl
def d118r0 : D := .reg false [⟨(.some 4), .mv (.c (.s (.int .i64 0))), .none, 0⟩] []
def d118r1 : D := .reg false [⟨(.some 6), .mv (.t 0), .none, 0⟩, ⟨(.some 7), .call 193 [(.t 6)], .none, 0⟩, ⟨(.some 5), .mv (.t 7), .none, 0⟩] []
def d118r2 : D := .reg false [⟨(.some 8), .mv (.t 0), .none, 0⟩, ⟨(.some 9), .mv (.t 0), .none, 0⟩, ⟨(.some 10), .nilck (.t 9), .none, 0⟩, ⟨(.some 11), .fld 2 (.t 10), .none, 0⟩, ⟨(.some 12), .ld false 1 (.t 11), .none, 0⟩, ⟨(.some 13), .mv (.t 12), .none, 0⟩, ⟨(.some 14), .mv (.t 5), (.some (13, false)), 0⟩, ⟨(.some 15), .mv (.t 1), (.some (13, false)), 0⟩, ⟨(.some 16), .conv .u64 (.t 15), (.some (13, false)), 0⟩, ⟨(.some 17), .bin .gtr (.t 14) (.t 16), (.some (13, false)), 0⟩, ⟨(.some 18), .pick (.t 13) (.c (.s (.bool true))) (.t 17), .none, 0⟩, ⟨(.some 19), .nilck (.t 8), .none, 0⟩, ⟨(.some 20), .fld 2 (.t 19), .none, 0⟩, ⟨.none, .st 1 (.t 20) (.t 18), .none, 0⟩] []
def d118r3 : D := .reg false [⟨(.some 21), .mv (.t 0), .none, 0⟩, ⟨(.some 22), .nilck (.t 21), .none, 0⟩, ⟨(.some 23), .fld 2 (.t 22), .none, 0⟩, ⟨(.some 24), .ld false 1 (.t 23), .none, 0⟩] []
def d118r4 : D := .reg false [⟨(.some 4), .mv (.c (.s (.int .i64 0))), .none, 0⟩] []
def d118r5 : D := .reg false [⟨(.some 25), .mv (.t 5), .none, 0⟩, ⟨(.some 26), .conv .i64 (.t 25), .none, 0⟩, ⟨(.some 4), .mv (.t 26), .none, 0⟩] []
/-- (*quorumite/state.reader).num -/
def d118 : Df := ⟨5, [.t 4], (.seq d118r0 (.seq d118r1 (.seq (.seq d118r2 (.seq d118r3 (.cond .none (.t 24) (.seq d118r4 .ret) .skip))) (.seq d118r5 .ret))))⟩
noncomputable def g118 (fx : Fx) (cl : Cl) (a0 a1 : AV) (h0 : H) : R :=
  obh (cl 193 [a0] h0) fun v0 h1 =>
  F.ob (nilck a0) fun v1 =>
  F.ob (fld 2 v1) fun v2 =>
  F.ob (ld false 1 v2 h1) fun v3 =>
  F.ob (gd v3 false (some v0) (some nought)) fun v4 =>
  F.ob (gd v3 false (some a1) (some nought)) fun v5 =>
  F.ob (gd v3 false (conv .u64 v5) (some nought)) fun v6 =>
  F.ob (gd v3 false (F.bin .gtr v4 v6) (some nought)) fun v7 =>
  F.ob (pv (.pick (.c v3) (.c (.s (.bool true))) (.c v7))) fun v8 =>
  F.ob (nilck a0) fun v9 =>
  F.ob (fld 2 v9) fun v10 =>
  F.ob (st 1 v10 v8 h1) fun h2 =>
  F.ob (nilck a0) fun v11 =>
  F.ob (fld 2 v11) fun v12 =>
  F.ob (ld false 1 v12 h2) fun v13 =>
  cnd v13 (
  out [(.s (.int .i64 0))] h2) (
  F.ob (conv .i64 v0) fun v14 =>
  out [v14] h2)
theorem e118 : (fun (fx : Fx) (cl : Cl) (a0 a1 : AV) (h0 : H) => denF fx cl d118 [a0, a1] h0) = g118 := by kernel_rfl
def d49r0 : D := .reg false [⟨(.some 2), .box 27 (.t 0), .none, 0⟩, ⟨(.some 4), .mv (.c (.s (.ptr .none))), .none, 0⟩, ⟨(.some 5), .mv (.c (.s (.int .i64 0))), .none, 0⟩] []
def d49r1 : D := .reg false [⟨(.some 12), .ld true 26 (.t 2), .none, 0⟩, ⟨(.some 13), .call 52 [(.t 12)], .none, 0⟩, ⟨(.some 14), .un .not (.t 13), .none, 0⟩] []
def d49r2 : D := .reg false [⟨(.some 4), .mv (.c (.s (.ptr .none))), .none, 0⟩, ⟨(.some 5), .mv (.c (.s (.int .i64 1))), .none, 0⟩] []
def d49r3 : D := .reg false [⟨(.some 15), .ld true 26 (.t 2), .none, 0⟩, ⟨(.some 16), .call 83 [(.t 15)], .none, 0⟩, ⟨(.some 17), .mv (.t 1), .none, 0⟩, ⟨(.some 18), .call 117 [(.t 17)], .none, 0⟩, ⟨(.some 19), .build [(.sl .none 0 0 true 1), (.int .i64 0), (.bool false)] [(0, 1, (.t 18))], .none, 0⟩, ⟨(.some 20), .box 219 (.t 19), .none, 0⟩, ⟨(.some 6), .mv (.t 16), .none, 0⟩, ⟨(.some 7), .mv (.t 20), .none, 0⟩] []
def d49r4 : D := .reg false [⟨(.some 21), .mv (.t 6), .none, 0⟩, ⟨(.some 22), .mv (.t 7), .none, 0⟩, ⟨(.some 23), .call 118 [(.t 22), (.c (.s (.int .i64 1099511627776)))], .none, 0⟩, ⟨(.some 24), .nilck (.t 21), .none, 0⟩, ⟨(.some 25), .fld 26 (.t 24), .none, 0⟩, ⟨.none, .st 1 (.t 25) (.t 23), .none, 0⟩] []
def d49r5 : D := .reg false [⟨(.some 26), .fld 0 (.t 2), .none, 0⟩, ⟨(.some 27), .ld false 1 (.t 26), .none, 0⟩, ⟨(.some 28), .mv (.c (.s (.int .i64 0))), .none, 0⟩] []
def d49r6 : D := .reg false [⟨(.some 29), .bin .lss (.t 28) (.t 27), .none, 0⟩] []
def d49r7 : D := .reg false [⟨(.some 30), .mv (.t 28), .none, 0⟩, ⟨(.some 8), .mv (.t 30), .none, 0⟩] []
def d49r8 : D := .reg false [⟨(.some 31), .mv (.t 7), .none, 0⟩, ⟨(.some 32), .mv (.t 6), .none, 0⟩, ⟨(.some 33), .mv (.t 8), .none, 0⟩, ⟨(.some 34), .call 119 [(.t 31), (.t 32), (.t 33)], .none, 0⟩] []
def d49r9 : D := .reg false [⟨(.some 35), .bin .add (.t 28) (.c (.s (.int .i64 1))), .none, 0⟩, ⟨(.some 28), .mv (.t 35), .none, 0⟩] []
def d49r10 : D := .reg false [⟨(.some 36), .mv (.t 7), .none, 0⟩, ⟨(.some 37), .call 120 [(.t 36), (.c (.s (.int .i64 1000000)))], .none, 0⟩, ⟨(.some 9), .mv (.t 37), .none, 0⟩] []
def d49r11 : D := .reg false [⟨(.some 38), .mv (.t 7), .none, 0⟩, ⟨(.some 39), .call 120 [(.t 38), (.c (.s (.int .i64 1000000)))], .none, 0⟩, ⟨(.some 10), .mv (.t 39), .none, 0⟩] []
def d49r12 : D := .reg false [⟨(.some 40), .mv (.t 7), .none, 0⟩, ⟨(.some 41), .call 118 [(.t 40), (.c (.s (.int .i64 1000000)))], .none, 0⟩, ⟨(.some 11), .mv (.t 41), .none, 0⟩] []
def d49r13 : D := .reg false [⟨(.some 42), .mv (.t 6), .none, 0⟩, ⟨(.some 43), .nilck (.t 42), .none, 0⟩, ⟨(.some 44), .fld 30 (.t 43), .none, 0⟩, ⟨(.some 45), .ld false 1 (.t 44), .none, 0⟩, ⟨(.some 46), .mv (.t 11), .none, 0⟩, ⟨(.some 47), .mv (.t 9), .none, 0⟩, ⟨(.some 48), .mv (.t 10), .none, 0⟩, ⟨(.some 49), .call 121 [(.t 45), (.t 46), (.t 47), (.t 48)], .none, 0⟩, ⟨(.some 50), .un .not (.t 49), .none, 0⟩] []
def d49r14 : D := .reg false [⟨(.some 51), .mv (.t 7), .none, 0⟩, ⟨(.some 52), .nilck (.t 51), .none, 0⟩, ⟨(.some 53), .fld 2 (.t 52), .none, 0⟩, ⟨.none, .st 1 (.t 53) (.c (.s (.bool true))), .none, 0⟩] []
def d49r15 : D := .reg false [⟨(.some 54), .mv (.t 7), .none, 0⟩, ⟨(.some 55), .mv (.t 6), .none, 0⟩, ⟨(.some 56), .call 122 [(.t 54), (.t 55)], .none, 0⟩] []
def d49r16 : D := .reg false [⟨(.some 57), .mv (.t 7), .none, 0⟩, ⟨(.some 58), .mv (.t 6), .none, 0⟩, ⟨(.some 59), .call 123 [(.t 57), (.t 58)], .none, 0⟩] []
def d49r17 : D := .reg false [⟨(.some 60), .mv (.t 7), .none, 0⟩, ⟨(.some 61), .nilck (.t 60), .none, 0⟩, ⟨(.some 62), .fld 2 (.t 61), .none, 0⟩, ⟨(.some 63), .ld false 1 (.t 62), .none, 0⟩, ⟨(.some 64), .mv (.t 63), .none, 0⟩, ⟨(.some 65), .mv (.t 7), (.some (64, false)), 0⟩, ⟨(.some 66), .nilck (.t 65), (.some (64, false)), 0⟩, ⟨(.some 67), .fld 1 (.t 66), (.some (64, false)), 0⟩, ⟨(.some 68), .ld false 1 (.t 67), (.some (64, false)), 0⟩, ⟨(.some 69), .mv (.t 1), (.some (64, false)), 0⟩, ⟨(.some 70), .len (.sl 0) (.t 69), (.some (64, false)), 0⟩, ⟨(.some 71), .bin .neq (.t 68) (.t 70), (.some (64, false)), 0⟩, ⟨(.some 72), .pick (.t 64) (.c (.s (.bool true))) (.t 71), .none, 0⟩] []
def d49r18 : D := .reg false [⟨(.some 4), .mv (.c (.s (.ptr .none))), .none, 0⟩, ⟨(.some 5), .mv (.c (.s (.int .i64 2))), .none, 0⟩] []
def d49r19 : D := .reg false [⟨(.some 73), .mv (.t 6), .none, 0⟩, ⟨(.some 4), .mv (.t 73), .none, 0⟩, ⟨(.some 5), .mv (.c (.s (.int .i64 0))), .none, 0⟩] []
/-- quorumite/state.From -/
def d49 : Df := ⟨7, [.t 4, .t 5], (.seq d49r0 (.seq (.seq d49r1 (.cond .none (.t 14) (.seq d49r2 .ret) .skip)) (.seq d49r3 (.seq d49r4 (.seq (.seq d49r5 (.blk (.some []) 0 (.loop [28] (.seq d49r6 (.seq (.cond .none (.t 29) .skip (.exit 0)) (.seq (.blk .none 1 (.seq d49r7 d49r8)) d49r9)))))) (.seq d49r10 (.seq d49r11 (.seq d49r12 (.seq (.seq d49r13 (.cond (.some []) (.t 50) d49r14 .skip)) (.seq d49r15 (.seq d49r16 (.seq (.seq d49r17 (.cond .none (.t 72) (.seq d49r18 .ret) .skip)) (.seq d49r19 .ret)))))))))))))⟩
noncomputable def g49 (fx : Fx) (cl : Cl) (a0 a1 : AV) (h0 : H) : R :=
  obh (mkv (.box 27 (.c a0)) h0) fun v0 h1 =>
  F.ob (ld true 26 v0 h1) fun v1 =>
  obh (cl 52 [v1] h1) fun v2 h2 =>
  F.ob (pv (.un .not (.c v2))) fun v3 =>
  cnd v3 (
  out [(.s (.ptr .none)), (.s (.int .i64 1))] h2) (
  F.ob (ld true 26 v0 h2) fun v4 =>
  obh (cl 83 [v4] h2) fun v5 h3 =>
  obh (cl 117 [a1] h3) fun v6 h4 =>
  F.ob (pv (.build [(.sl .none 0 0 true 1), (.int .i64 0), (.bool false)] [(0, 1, .c v6)])) fun v7 =>
  obh (mkv (.box 219 (.c v7)) h4) fun v8 h5 =>
  obh (cl 118 [v8, (.s (.int .i64 1099511627776))] h5) fun v9 h6 =>
  F.ob (nilck v5) fun v10 =>
  F.ob (fld 26 v10) fun v11 =>
  F.ob (st 1 v11 v9 h6) fun h7 =>
  F.ob (fld 0 v0) fun v12 =>
  F.ob (ld false 1 v12 h7) fun v13 =>
  letJ (fun (p0 : Unit) h8 =>
  obh (cl 120 [v8, (.s (.int .i64 1000000))] h8) fun v14 h9 =>
  obh (cl 120 [v8, (.s (.int .i64 1000000))] h9) fun v15 h10 =>
  obh (cl 118 [v8, (.s (.int .i64 1000000))] h10) fun v16 h11 =>
  F.ob (nilck v5) fun v17 =>
  F.ob (fld 30 v17) fun v18 =>
  F.ob (ld false 1 v18 h11) fun v19 =>
  obh (cl 121 [v19, v16, v14, v15] h11) fun v20 h12 =>
  F.ob (pv (.un .not (.c v20))) fun v21 =>
  letJ (fun (p1 : Unit) h13 =>
  obh (cl 122 [v8, v5] h13) fun v22 h14 =>
  obh (cl 123 [v8, v5] h14) fun v23 h15 =>
  F.ob (nilck v8) fun v24 =>
  F.ob (fld 2 v24) fun v25 =>
  F.ob (ld false 1 v25 h15) fun v26 =>
  F.ob (gd v26 false (some v8) (some nought)) fun v27 =>
  F.ob (gd v26 false (nilck v27) (some nought)) fun v28 =>
  F.ob (gd v26 false (fld 1 v28) (some nought)) fun v29 =>
  F.ob (gd v26 false (ld false 1 v29 h15) (some nought)) fun v30 =>
  F.ob (gd v26 false (some a1) (some nought)) fun v31 =>
  F.ob (gd v26 false (pv (.len (.sl 0) (.c v31))) (some nought)) fun v32 =>
  F.ob (gd v26 false (F.bin .neq v30 v32) (some nought)) fun v33 =>
  F.ob (pv (.pick (.c v26) (.c (.s (.bool true))) (.c v33))) fun v34 =>
  cnd v34 (
  out [(.s (.ptr .none)), (.s (.int .i64 2))] h15) (
  out [v5, (.s (.int .i64 0))] h15)) fun j1 =>
  cnd v21 (
  F.ob (nilck v8) fun v35 =>
  F.ob (fld 2 v35) fun v36 =>
  F.ob (st 1 v36 (.s (.bool true)) h12) fun h16 =>
  j1 () h16) (
  j1 () h12)) fun j0 =>
  fx AV (fun (r2 : AV → H → R) (p2 : AV) h17 =>
  F.ob (F.bin .lss p2 v13) fun v37 =>
  cnd v37 (
  obh (cl 119 [v8, v5, p2] h17) fun v38 h18 =>
  F.ob (F.bin .add p2 (.s (.int .i64 1))) fun v39 =>
  r2 v39 h18) (
  j0 () h17)) (.s (.int .i64 0)) h7)
theorem e49 : (fun (fx : Fx) (cl : Cl) (a0 a1 : AV) (h0 : H) => denF fx cl d49 [a0, a1] h0) = g49 := by kernel_rfl
def d308r0 : D := .reg false [⟨(.some 4), .mv (.c (.s (.int .i64 0))), .none, 0⟩] []
def d308r1 : D := .reg false [⟨(.some 6), .mv (.t 0), .none, 0⟩, ⟨(.some 7), .len (.sl 0) (.t 6), .none, 0⟩, ⟨(.some 8), .mv (.c (.s (.int .i64 0))), .none, 0⟩] []
def d308r2 : D := .reg false [⟨(.some 9), .bin .lss (.t 8) (.t 7), .none, 0⟩] []
def d308r3 : D := .reg false [⟨(.some 10), .mv (.t 8), .none, 0⟩, ⟨(.some 5), .mv (.t 10), .none, 0⟩] []
def d308r4 : D := .reg false [⟨(.some 11), .mv (.t 1), .none, 0⟩, ⟨(.some 12), .mv (.t 0), .none, 0⟩, ⟨(.some 13), .mv (.t 5), .none, 0⟩, ⟨(.some 14), .idxa (.sl 1) (.t 12) (.t 13), .none, 0⟩, ⟨(.some 15), .ld false 1 (.t 14), .none, 0⟩, ⟨(.some 16), .bin .eql (.t 11) (.t 15), .none, 0⟩] []
def d308r5 : D := .reg false [⟨(.some 17), .mv (.t 5), .none, 0⟩, ⟨(.some 4), .mv (.t 17), .none, 0⟩] []
def d308r6 : D := .reg false [⟨(.some 18), .bin .add (.t 8) (.c (.s (.int .i64 1))), .none, 0⟩, ⟨(.some 8), .mv (.t 18), .none, 0⟩] []
def d308r7 : D := .reg false [⟨(.some 4), .mv (.c (.s (.int .i64 (-1)))), .none, 0⟩] []
/-- slices.Index[[]int,int] -/
def d308 : Df := ⟨5, [.t 4], (.seq d308r0 (.seq (.seq d308r1 (.blk (.some []) 0 (.loop [8] (.seq d308r2 (.seq (.cond .none (.t 9) .skip (.exit 0)) (.seq (.blk .none 1 (.seq d308r3 (.seq d308r4 (.cond .none (.t 16) (.seq d308r5 .ret) .skip)))) d308r6)))))) (.seq d308r7 .ret)))⟩
noncomputable def g308 (fx : Fx) (cl : Cl) (a0 a1 : AV) (h0 : H) : R :=
  F.ob (pv (.len (.sl 0) (.c a0))) fun v0 =>
  letJ (fun (p0 : Unit) h1 =>
  out [(.s (.int .i64 (-1)))] h1) fun j0 =>
  fx AV (fun (r1 : AV → H → R) (p1 : AV) h2 =>
  F.ob (F.bin .lss p1 v0) fun v1 =>
  cnd v1 (
  F.ob (idxa (.sl 1) a0 p1) fun v2 =>
  F.ob (ld false 1 v2 h2) fun v3 =>
  F.ob (F.bin .eql a1 v3) fun v4 =>
  cnd v4 (
  out [p1] h2) (
  F.ob (F.bin .add p1 (.s (.int .i64 1))) fun v5 =>
  r1 v5 h2)) (
  j0 () h2)) (.s (.int .i64 0)) h0
theorem e308 : (fun (fx : Fx) (cl : Cl) (a0 a1 : AV) (h0 : H) => denF fx cl d308 [a0, a1] h0) = g308 := by kernel_rfl
def d236r0 : D := .reg false [⟨(.some 4), .mv (.c (.s (.bool false))), .none, 0⟩] []
def d236r1 : D := .reg false [⟨(.some 5), .mv (.t 0), .none, 0⟩, ⟨(.some 6), .mv (.t 1), .none, 0⟩, ⟨(.some 7), .call 308 [(.t 5), (.t 6)], .none, 0⟩, ⟨(.some 8), .bin .geq (.t 7) (.c (.s (.int .i64 0))), .none, 0⟩, ⟨(.some 4), .mv (.t 8), .none, 0⟩] []
/-- slices.Contains[[]int,int] -/
def d236 : Df := ⟨4, [.t 4], (.seq d236r0 (.seq d236r1 .ret))⟩
noncomputable def g236 (fx : Fx) (cl : Cl) (a0 a1 : AV) (h0 : H) : R :=
  obh (cl 308 [a0, a1] h0) fun v0 h1 =>
  F.ob (F.bin .geq v0 (.s (.int .i64 0))) fun v1 =>
  out [v1] h1
theorem e236 : (fun (fx : Fx) (cl : Cl) (a0 a1 : AV) (h0 : H) => denF fx cl d236 [a0, a1] h0) = g236 := by kernel_rfl
def d91r0 : D := .reg false [⟨(.some 4), .mv (.c (.s (.bool false))), .none, 0⟩] []
def d91r1 : D := .reg false [⟨(.some 5), .mv (.t 0), .none, 0⟩, ⟨(.some 6), .b2s (.t 5), .none, 0⟩, ⟨(.some 7), .mv (.t 1), .none, 0⟩, ⟨(.some 8), .b2s (.t 7), .none, 0⟩, ⟨(.some 9), .bin .eql (.t 6) (.t 8), .none, 0⟩, ⟨(.some 4), .mv (.t 9), .none, 0⟩] []
/-- bytes.Equal -/
def d91 : Df := ⟨4, [.t 4], (.seq d91r0 (.seq d91r1 .ret))⟩
noncomputable def g91 (fx : Fx) (cl : Cl) (a0 a1 : AV) (h0 : H) : R :=
  F.ob (rv (.b2s (.c a0)) h0) fun v0 =>
  F.ob (rv (.b2s (.c a1)) h0) fun v1 =>
  F.ob (F.bin .eql v0 v1) fun v2 =>
  out [v2] h0
theorem e91 : (fun (fx : Fx) (cl : Cl) (a0 a1 : AV) (h0 : H) => denF fx cl d91 [a0, a1] h0) = g91 := by kernel_rfl
def d117r0 : D := .reg false [⟨(.some 2), .mv (.c (.s (.sl .none 0 0 true 1))), .none, 0⟩] []
def d117r1 : D := .reg false [⟨(.some 3), .mv (.t 0), .none, 0⟩, ⟨(.some 4), .eqv .sl false (.t 3) (.c (.s (.sl .none 0 0 true 1))), .none, 0⟩] []
def d117r2 : D := .reg false [⟨(.some 2), .mv (.c (.s (.sl .none 0 0 true 1))), .none, 0⟩] []
def d117r3 : D := .reg false [⟨(.some 5), .bslice 5 1 0 [] [], .none, 0⟩, ⟨(.some 6), .mv (.t 0), .none, 0⟩, ⟨(.some 7), .app 5 1 1 (.t 5) (.t 6), .none, 0⟩, ⟨(.some 2), .mv (.t 7), .none, 0⟩] []
/-- bytes.Clone -/
def d117 : Df := ⟨4, [.t 2], (.seq d117r0 (.seq (.seq d117r1 (.cond .none (.t 4) (.seq d117r2 .ret) .skip)) (.seq d117r3 .ret)))⟩
noncomputable def g117 (fx : Fx) (cl : Cl) (a0 : AV) (h0 : H) : R :=
  F.ob (pv (.eqv .sl false (.c a0) (.c (.s (.sl .none 0 0 true 1))))) fun v0 =>
  cnd v0 (
  out [(.s (.sl .none 0 0 true 1))] h0) (
  obh (mkv (.bslice 5 1 0 [] []) h0) fun v1 h1 =>
  obh (av (.app 5 1 1 (.c v1) (.c a0)) h1) fun v2 h2 =>
  out [v2] h2)
theorem e117 : (fun (fx : Fx) (cl : Cl) (a0 : AV) (h0 : H) => denF fx cl d117 [a0] h0) = g117 := by kernel_rfl
def d235r0 : D := .reg false [⟨(.some 2), .alloc 70 [(.int .u32 0), (.int .i64 0), (.int .i64 0), (.sl .none 0 0 true 1)], .none, 0⟩, ⟨(.some 3), .mv (.c (.s (.bool false))), .none, 0⟩, ⟨(.some 4), .mv (.c (.s (.int .i64 0))), .none, 0⟩] []
def d235r1 : D := .reg false [⟨(.some 10), .mv (.t 0), .none, 0⟩, ⟨(.some 11), .len (.sl 0) (.t 10), .none, 0⟩, ⟨(.some 12), .bin .neq (.t 11) (.c (.s (.int .i64 64))), .none, 0⟩] []
def d235r2 : D := .reg false [⟨(.some 13), .build [(.int .u32 0), (.int .i64 0), (.int .i64 0), (.sl .none 0 0 true 1)] [], .none, 0⟩, ⟨.none, .st 4 (.t 2) (.t 13), .none, 0⟩, ⟨(.some 3), .mv (.c (.s (.bool false))), .none, 0⟩, ⟨(.some 4), .mv (.c (.s (.int .i64 1))), .none, 0⟩] []
def d235r3 : D := .reg false [⟨(.some 15), .mv (.t 0), .none, 0⟩, ⟨(.some 16), .call 232 [(.t 15)], .none, 0⟩, ⟨(.some 14), .mv (.t 16), .none, 0⟩, ⟨(.some 17), .ext (.t 14) 0, .none, 0⟩, ⟨(.some 18), .ext (.t 14) 1, .none, 0⟩, ⟨(.some 5), .mv (.t 17), .none, 0⟩, ⟨(.some 6), .mv (.t 18), .none, 0⟩] []
def d235r4 : D := .reg false [⟨(.some 19), .mv (.t 6), .none, 0⟩, ⟨(.some 20), .un .not (.t 19), .none, 0⟩] []
def d235r5 : D := .reg false [⟨(.some 21), .build [(.int .u32 0), (.int .i64 0), (.int .i64 0), (.sl .none 0 0 true 1)] [], .none, 0⟩, ⟨.none, .st 4 (.t 2) (.t 21), .none, 0⟩, ⟨(.some 3), .mv (.c (.s (.bool false))), .none, 0⟩, ⟨(.some 4), .mv (.c (.s (.int .i64 0))), .none, 0⟩] []
def d235r6 : D := .reg true [⟨(.some 22), .mv (.t 5), .none, 0⟩, ⟨(.some 23), .mv (.t 0), .none, 0⟩, ⟨(.some 24), .idxa (.sl 1) (.t 23) (.c (.s (.int .i64 4))), .none, 2⟩, ⟨(.some 25), .ld false 1 (.t 24), .none, 6⟩, ⟨(.some 26), .conv .i64 (.t 25), .none, 14⟩, ⟨(.some 27), .mv (.t 0), .none, 0⟩, ⟨(.some 28), .idxa (.sl 1) (.t 27) (.c (.s (.int .i64 5))), .none, 32⟩, ⟨(.some 29), .ld false 1 (.t 28), .none, 96⟩, ⟨(.some 30), .conv .i64 (.t 29), .none, 224⟩, ⟨(.some 31), .bin .shl (.t 30) (.c (.s (.int .u64 8))), .none, 480⟩, ⟨(.some 32), .bin .or (.t 26) (.t 31), .none, 1022⟩, ⟨(.some 33), .mv (.t 0), .none, 0⟩, ⟨(.some 34), .idxa (.sl 1) (.t 33) (.c (.s (.int .i64 6))), .none, 2048⟩, ⟨(.some 35), .ld false 1 (.t 34), .none, 6144⟩, ⟨(.some 36), .conv .i64 (.t 35), .none, 14336⟩, ⟨(.some 37), .mv (.t 0), .none, 0⟩, ⟨(.some 38), .mv (.t 0), .none, 0⟩, ⟨(.some 39), .idxa (.sl 1) (.t 38) (.c (.s (.int .i64 7))), .none, 65536⟩, ⟨(.some 40), .ld false 1 (.t 39), .none, 196608⟩, ⟨(.some 41), .conv .i64 (.t 40), .none, 458752⟩, ⟨(.some 42), .mn [(.t 41), (.c (.s (.int .i64 48)))], .none, 983040⟩, ⟨(.some 43), .bin .add (.c (.s (.int .i64 8))) (.t 42), .none, 2031616⟩, ⟨(.some 44), .slc (.sl 1) (.t 37) (.some (.c (.s (.int .i64 8)))) (.some (.t 43)) .none, .none, 4161536⟩, ⟨(.some 45), .call 117 [(.t 44)], .none, 8355840⟩, ⟨(.some 46), .build [(.int .u32 0), (.int .i64 0), (.int .i64 0), (.sl .none 0 0 true 1)] [(0, 1, (.t 22)), (1, 1, (.t 32)), (2, 1, (.t 36)), (3, 1, (.t 45))], .none, 16777215⟩, ⟨(.some 7), .alloc 70 [(.int .u32 0), (.int .i64 0), (.int .i64 0), (.sl .none 0 0 true 1)], .none, 0⟩, ⟨.none, .st 4 (.t 7) (.t 46), .none, 67108863⟩] []
def d235r7 : D := .reg false [⟨(.some 48), .ld true 4 (.t 7), .none, 0⟩, ⟨(.some 49), .call 169 [(.t 48)], .none, 0⟩, ⟨(.some 47), .mv (.t 49), .none, 0⟩, ⟨(.some 50), .ext (.t 47) 0, .none, 0⟩, ⟨(.some 51), .ext (.t 47) 1, .none, 0⟩, ⟨(.some 8), .mv (.t 50), .none, 0⟩, ⟨(.some 9), .mv (.t 51), .none, 0⟩] []
def d235r8 : D := .reg false [⟨(.some 52), .mv (.t 9), .none, 0⟩, ⟨(.some 53), .bin .neq (.t 52) (.c (.s (.int .i64 0))), .none, 0⟩, ⟨(.some 54), .mv (.t 53), .none, 0⟩, ⟨(.some 55), .mv (.t 8), (.some (54, false)), 0⟩, ⟨(.some 56), .mv (.t 0), (.some (54, false)), 0⟩, ⟨(.some 57), .call 91 [(.t 55), (.t 56)], (.some (54, false)), 0⟩, ⟨(.some 58), .un .not (.t 57), (.some (54, false)), 0⟩, ⟨(.some 59), .pick (.t 54) (.c (.s (.bool true))) (.t 58), .none, 0⟩] []
def d235r9 : D := .reg false [⟨(.some 60), .build [(.int .u32 0), (.int .i64 0), (.int .i64 0), (.sl .none 0 0 true 1)] [], .none, 0⟩, ⟨.none, .st 4 (.t 2) (.t 60), .none, 0⟩, ⟨(.some 3), .mv (.c (.s (.bool true))), .none, 0⟩, ⟨(.some 4), .mv (.c (.s (.int .i64 12))), .none, 0⟩] []
def d235r10 : D := .reg false [⟨(.some 61), .ld true 4 (.t 7), .none, 0⟩, ⟨.none, .st 4 (.t 2) (.t 61), .none, 0⟩, ⟨(.some 3), .mv (.c (.s (.bool true))), .none, 0⟩, ⟨(.some 4), .mv (.c (.s (.int .i64 0))), .none, 0⟩] []
/-- quorumite/log.Get -/
def d235 : Df := ⟨6, [.cell 2 true 4, .t 3, .t 4], (.seq d235r0 (.seq (.seq d235r1 (.cond .none (.t 12) (.seq d235r2 .ret) .skip)) (.seq d235r3 (.seq (.seq d235r4 (.cond .none (.t 20) (.seq d235r5 .ret) .skip)) (.seq d235r6 (.seq (.seq d235r7 (.seq d235r8 (.cond .none (.t 59) (.seq d235r9 .ret) .skip))) (.seq d235r10 .ret)))))))⟩
noncomputable def g235 (fx : Fx) (cl : Cl) (a0 : AV) (h0 : H) : R :=
  obh (mkv (.alloc 70 [(.int .u32 0), (.int .i64 0), (.int .i64 0), (.sl .none 0 0 true 1)]) h0) fun v0 h1 =>
  F.ob (pv (.len (.sl 0) (.c a0))) fun v1 =>
  F.ob (F.bin .neq v1 (.s (.int .i64 64))) fun v2 =>
  cnd v2 (
  F.ob (pv (.build [(.int .u32 0), (.int .i64 0), (.int .i64 0), (.sl .none 0 0 true 1)] [])) fun v3 =>
  F.ob (st 4 v0 v3 h1) fun h2 =>
  F.ob (ld true 4 v0 h2) fun v4 =>
  out [v4, (.s (.bool false)), (.s (.int .i64 1))] h2) (
  obh (cl 232 [a0] h1) fun v5 h3 =>
  F.ob (pv (.ext (.c v5) 0)) fun v6 =>
  F.ob (pv (.ext (.c v5) 1)) fun v7 =>
  F.ob (pv (.un .not (.c v7))) fun v8 =>
  cnd v8 (
  F.ob (pv (.build [(.int .u32 0), (.int .i64 0), (.int .i64 0), (.sl .none 0 0 true 1)] [])) fun v9 =>
  F.ob (st 4 v0 v9 h3) fun h4 =>
  F.ob (ld true 4 v0 h4) fun v10 =>
  out [v10, (.s (.bool false)), (.s (.int .i64 0))] h4) (
  F.ob (idxa (.sl 1) a0 (.s (.int .i64 4))) fun v11 =>
  F.ob (rdd (.ld false 1 (.c v11)) [] h3) fun v12 =>
  F.ob (conv .i64 v12) fun v13 =>
  F.ob (idxa (.sl 1) a0 (.s (.int .i64 5))) fun v14 =>
  F.ob (rdd (.ld false 1 (.c v14)) [] h3) fun v15 =>
  F.ob (conv .i64 v15) fun v16 =>
  F.ob (F.bin .shl v16 (.s (.int .u64 8))) fun v17 =>
  F.ob (F.bin .or v13 v17) fun v18 =>
  F.ob (idxa (.sl 1) a0 (.s (.int .i64 6))) fun v19 =>
  F.ob (rdd (.ld false 1 (.c v19)) [] h3) fun v20 =>
  F.ob (conv .i64 v20) fun v21 =>
  F.ob (idxa (.sl 1) a0 (.s (.int .i64 7))) fun v22 =>
  F.ob (rdd (.ld false 1 (.c v22)) [] h3) fun v23 =>
  F.ob (conv .i64 v23) fun v24 =>
  F.ob (pv (.mn [.c v24, .c (.s (.int .i64 48))])) fun v25 =>
  F.ob (F.bin .add (.s (.int .i64 8)) v25) fun v26 =>
  F.ob (pv (.slc (.sl 1) (.c a0) (.some (.c (.s (.int .i64 8)))) (.some (.c v26)) .none)) fun v27 =>
  obh (chk Prod.snd [⟨none, .ld false 1 (.c v19), v20, 13⟩, ⟨none, .ld false 1 (.c v14), v15, 7⟩, ⟨none, .ld false 1 (.c v11), v12, 3⟩] (cl 117 [v27] h3)) fun v28 h5 =>
  F.ob (pv (.build [(.int .u32 0), (.int .i64 0), (.int .i64 0), (.sl .none 0 0 true 1)] [(0, 1, .c v6), (1, 1, .c v18), (2, 1, .c v21), (3, 1, .c v28)])) fun v29 =>
  obh (mkv (.alloc 70 [(.int .u32 0), (.int .i64 0), (.int .i64 0), (.sl .none 0 0 true 1)]) h5) fun v30 h6 =>
  F.ob (st 4 v30 v29 h6) fun h7 =>
  F.ob (ld true 4 v30 h7) fun v31 =>
  obh (cl 169 [v31] h7) fun v32 h8 =>
  F.ob (pv (.ext (.c v32) 0)) fun v33 =>
  F.ob (pv (.ext (.c v32) 1)) fun v34 =>
  F.ob (F.bin .neq v34 (.s (.int .i64 0))) fun v35 =>
  F.ob (gd v35 false (some v33) (some nought)) fun v36 =>
  F.ob (gd v35 false (some a0) (some nought)) fun v37 =>
  obh (gd v35 false (cl 91 [v36, v37] h8) (some (nought, h8))) fun v38 h9 =>
  F.ob (gd v35 false (pv (.un .not (.c v38))) (some nought)) fun v39 =>
  F.ob (pv (.pick (.c v35) (.c (.s (.bool true))) (.c v39))) fun v40 =>
  cnd v40 (
  F.ob (pv (.build [(.int .u32 0), (.int .i64 0), (.int .i64 0), (.sl .none 0 0 true 1)] [])) fun v41 =>
  F.ob (st 4 v0 v41 h9) fun h10 =>
  F.ob (ld true 4 v0 h10) fun v42 =>
  out [v42, (.s (.bool true)), (.s (.int .i64 12))] h10) (
  F.ob (ld true 4 v30 h9) fun v43 =>
  F.ob (st 4 v0 v43 h9) fun h11 =>
  F.ob (ld true 4 v0 h11) fun v44 =>
  out [v44, (.s (.bool true)), (.s (.int .i64 0))] h11)))
theorem e235 : (fun (fx : Fx) (cl : Cl) (a0 : AV) (h0 : H) => denF fx cl d235 [a0] h0) = g235 := by kernel_rfl
def d162r0 : D := .reg false [⟨(.some 6), .alloc 70 [(.int .u32 0), (.int .i64 0), (.int .i64 0), (.sl .none 0 0 true 1)], .none, 0⟩, ⟨(.some 7), .mv (.c (.s (.int .i64 0))), .none, 0⟩] []
def d162r1 : D := .reg false [⟨(.some 12), .mv (.t 0), .none, 0⟩, ⟨(.some 13), .nilck (.t 12), .none, 0⟩, ⟨(.some 14), .fld 26 (.t 13), .none, 0⟩, ⟨(.some 15), .ld false 1 (.t 14), .none, 0⟩, ⟨(.some 16), .mv (.t 1), .none, 0⟩, ⟨(.some 17), .idxa (.sl 1) (.t 15) (.t 16), .none, 0⟩, ⟨(.some 18), .ld false 1 (.t 17), .none, 0⟩, ⟨(.some 19), .call 235 [(.t 18)], .none, 0⟩, ⟨(.some 11), .mv (.t 19), .none, 0⟩, ⟨(.some 20), .ext (.t 11) 0, .none, 0⟩, ⟨(.some 21), .ext (.t 11) 1, .none, 0⟩, ⟨(.some 22), .ext (.t 11) 2, .none, 0⟩, ⟨(.some 8), .alloc 70 [(.int .u32 0), (.int .i64 0), (.int .i64 0), (.sl .none 0 0 true 1)], .none, 0⟩, ⟨.none, .st 4 (.t 8) (.t 20), .none, 0⟩, ⟨(.some 9), .mv (.t 21), .none, 0⟩, ⟨(.some 10), .mv (.t 22), .none, 0⟩] []
def d162r2 : D := .reg false [⟨(.some 23), .mv (.t 10), .none, 0⟩, ⟨(.some 24), .bin .neq (.t 23) (.c (.s (.int .i64 0))), .none, 0⟩, ⟨(.some 25), .mv (.t 24), .none, 0⟩, ⟨(.some 26), .fld 1 (.t 8), (.some (25, false)), 0⟩, ⟨(.some 27), .ld false 1 (.t 26), (.some (25, false)), 0⟩, ⟨(.some 28), .mv (.t 1), (.some (25, false)), 0⟩, ⟨(.some 29), .bin .neq (.t 27) (.t 28), (.some (25, false)), 0⟩, ⟨(.some 30), .pick (.t 25) (.c (.s (.bool true))) (.t 29), .none, 0⟩, ⟨(.some 31), .mv (.t 30), .none, 0⟩, ⟨(.some 32), .mv (.t 2), (.some (31, false)), 0⟩, ⟨(.some 33), .fld 2 (.t 8), (.some (31, false)), 0⟩, ⟨(.some 34), .ld false 1 (.t 33), (.some (31, false)), 0⟩, ⟨(.some 35), .call 236 [(.t 32), (.t 34)], (.some (31, false)), 0⟩, ⟨(.some 36), .un .not (.t 35), (.some (31, false)), 0⟩, ⟨(.some 37), .pick (.t 31) (.c (.s (.bool true))) (.t 36), .none, 0⟩] []
def d162r3 : D := .reg false [⟨(.some 38), .build [(.int .u32 0), (.int .i64 0), (.int .i64 0), (.sl .none 0 0 true 1)] [], .none, 0⟩, ⟨.none, .st 4 (.t 6) (.t 38), .none, 0⟩, ⟨(.some 7), .mv (.c (.s (.int .i64 12))), .none, 0⟩] []
def d162r4 : D := .reg false [⟨(.some 39), .ld true 4 (.t 8), .none, 0⟩, ⟨.none, .st 4 (.t 6) (.t 39), .none, 0⟩, ⟨(.some 7), .mv (.c (.s (.int .i64 0))), .none, 0⟩] []
/-- (*quorumite/store.scan).cell -/
def d162 : Df := ⟨6, [.cell 6 true 4, .t 7], (.seq d162r0 (.seq d162r1 (.seq (.seq d162r2 (.cond .none (.t 37) (.seq d162r3 .ret) .skip)) (.seq d162r4 .ret))))⟩
noncomputable def g162 (fx : Fx) (cl : Cl) (a0 a1 a2 : AV) (h0 : H) : R :=
  obh (mkv (.alloc 70 [(.int .u32 0), (.int .i64 0), (.int .i64 0), (.sl .none 0 0 true 1)]) h0) fun v0 h1 =>
  F.ob (nilck a0) fun v1 =>
  F.ob (fld 26 v1) fun v2 =>
  F.ob (ld false 1 v2 h1) fun v3 =>
  F.ob (idxa (.sl 1) v3 a1) fun v4 =>
  F.ob (ld false 1 v4 h1) fun v5 =>
  obh (cl 235 [v5] h1) fun v6 h2 =>
  F.ob (pv (.ext (.c v6) 0)) fun v7 =>
  F.ob (pv (.ext (.c v6) 1)) fun v8 =>
  F.ob (pv (.ext (.c v6) 2)) fun v9 =>
  obh (mkv (.alloc 70 [(.int .u32 0), (.int .i64 0), (.int .i64 0), (.sl .none 0 0 true 1)]) h2) fun v10 h3 =>
  F.ob (st 4 v10 v7 h3) fun h4 =>
  F.ob (F.bin .neq v9 (.s (.int .i64 0))) fun v11 =>
  F.ob (gd v11 false (fld 1 v10) (some nought)) fun v12 =>
  F.ob (gd v11 false (ld false 1 v12 h4) (some nought)) fun v13 =>
  F.ob (gd v11 false (some a1) (some nought)) fun v14 =>
  F.ob (gd v11 false (F.bin .neq v13 v14) (some nought)) fun v15 =>
  F.ob (pv (.pick (.c v11) (.c (.s (.bool true))) (.c v15))) fun v16 =>
  F.ob (gd v16 false (some a2) (some nought)) fun v17 =>
  F.ob (gd v16 false (fld 2 v10) (some nought)) fun v18 =>
  F.ob (gd v16 false (ld false 1 v18 h4) (some nought)) fun v19 =>
  obh (gd v16 false (cl 236 [v17, v19] h4) (some (nought, h4))) fun v20 h5 =>
  F.ob (gd v16 false (pv (.un .not (.c v20))) (some nought)) fun v21 =>
  F.ob (pv (.pick (.c v16) (.c (.s (.bool true))) (.c v21))) fun v22 =>
  cnd v22 (
  F.ob (pv (.build [(.int .u32 0), (.int .i64 0), (.int .i64 0), (.sl .none 0 0 true 1)] [])) fun v23 =>
  F.ob (st 4 v0 v23 h5) fun h6 =>
  F.ob (ld true 4 v0 h6) fun v24 =>
  out [v24, (.s (.int .i64 12))] h6) (
  F.ob (ld true 4 v10 h5) fun v25 =>
  F.ob (st 4 v0 v25 h5) fun h7 =>
  F.ob (ld true 4 v0 h7) fun v26 =>
  out [v26, (.s (.int .i64 0))] h7)
theorem e162 : (fun (fx : Fx) (cl : Cl) (a0 a1 a2 : AV) (h0 : H) => denF fx cl d162 [a0, a1, a2] h0) = g162 := by kernel_rfl
def d161r0 : D := .reg false [⟨(.some 4), .mv (.c (.s (.bool false))), .none, 0⟩] []
def d161r1 : D := .reg false [⟨(.some 8), .mv (.t 0), .none, 0⟩, ⟨(.some 9), .nilck (.t 8), .none, 0⟩, ⟨(.some 10), .fld 26 (.t 9), .none, 0⟩, ⟨(.some 11), .ld false 1 (.t 10), .none, 0⟩, ⟨(.some 12), .mv (.t 1), .none, 0⟩, ⟨(.some 13), .idxa (.sl 1) (.t 11) (.t 12), .none, 0⟩, ⟨(.some 14), .ld false 1 (.t 13), .none, 0⟩, ⟨(.some 15), .call 232 [(.t 14)], .none, 0⟩, ⟨(.some 7), .mv (.t 15), .none, 0⟩, ⟨(.some 16), .ext (.t 7) 0, .none, 0⟩, ⟨(.some 17), .ext (.t 7) 1, .none, 0⟩, ⟨(.some 5), .mv (.t 16), .none, 0⟩, ⟨(.some 6), .mv (.t 17), .none, 0⟩] []
def d161r2 : D := .reg false [⟨(.some 18), .mv (.t 6), .none, 0⟩, ⟨(.some 19), .mv (.t 18), .none, 0⟩, ⟨(.some 20), .mv (.t 5), (.some (19, true)), 0⟩, ⟨(.some 21), .mv (.t 0), (.some (19, true)), 0⟩, ⟨(.some 22), .nilck (.t 21), (.some (19, true)), 0⟩, ⟨(.some 23), .fld 27 (.t 22), (.some (19, true)), 0⟩, ⟨(.some 24), .ld false 1 (.t 23), (.some (19, true)), 0⟩, ⟨(.some 25), .bin .eql (.t 20) (.t 24), (.some (19, true)), 0⟩, ⟨(.some 26), .pick (.t 19) (.t 25) (.c (.s (.bool false))), .none, 0⟩, ⟨(.some 4), .mv (.t 26), .none, 0⟩] []
/-- (*quorumite/store.scan).of -/
def d161 : Df := ⟨5, [.t 4], (.seq d161r0 (.seq d161r1 (.seq d161r2 .ret)))⟩
noncomputable def g161 (fx : Fx) (cl : Cl) (a0 a1 : AV) (h0 : H) : R :=
  F.ob (nilck a0) fun v0 =>
  F.ob (fld 26 v0) fun v1 =>
  F.ob (ld false 1 v1 h0) fun v2 =>
  F.ob (idxa (.sl 1) v2 a1) fun v3 =>
  F.ob (ld false 1 v3 h0) fun v4 =>
  obh (cl 232 [v4] h0) fun v5 h1 =>
  F.ob (pv (.ext (.c v5) 0)) fun v6 =>
  F.ob (pv (.ext (.c v5) 1)) fun v7 =>
  F.ob (gd v7 true (some v6) (some nought)) fun v8 =>
  F.ob (gd v7 true (some a0) (some nought)) fun v9 =>
  F.ob (gd v7 true (nilck v9) (some nought)) fun v10 =>
  F.ob (gd v7 true (fld 27 v10) (some nought)) fun v11 =>
  F.ob (gd v7 true (ld false 1 v11 h1) (some nought)) fun v12 =>
  F.ob (gd v7 true (F.bin .eql v8 v12) (some nought)) fun v13 =>
  F.ob (pv (.pick (.c v7) (.c v13) (.c (.s (.bool false))))) fun v14 =>
  out [v14] h1
theorem e161 : (fun (fx : Fx) (cl : Cl) (a0 a1 : AV) (h0 : H) => denF fx cl d161 [a0, a1] h0) = g161 := by kernel_rfl
def d288r0 : D := .reg false [⟨(.some 6), .mv (.c (.s (.bool false))), .none, 0⟩] []
def d288r1 : D := .reg false [⟨(.some 7), .mv (.t 0), .none, 0⟩, ⟨(.some 8), .mv (.t 1), .none, 0⟩, ⟨(.some 9), .bin .geq (.t 7) (.t 8), .none, 0⟩, ⟨(.some 10), .mv (.t 9), .none, 0⟩, ⟨(.some 11), .mv (.t 0), (.some (10, true)), 0⟩, ⟨(.some 12), .mv (.t 2), (.some (10, true)), 0⟩, ⟨(.some 13), .bin .leq (.t 11) (.t 12), (.some (10, true)), 0⟩, ⟨(.some 14), .pick (.t 10) (.t 13) (.c (.s (.bool false))), .none, 0⟩, ⟨(.some 6), .mv (.t 14), .none, 0⟩] []
/-- quorumite/wire.in -/
def d288 : Df := ⟨4, [.t 6], (.seq d288r0 (.seq d288r1 .ret))⟩
noncomputable def g288 (fx : Fx) (cl : Cl) (a0 a1 a2 : AV) (h0 : H) : R :=
  F.ob (F.bin .geq a0 a1) fun v0 =>
  F.ob (gd v0 true (some a0) (some nought)) fun v1 =>
  F.ob (gd v0 true (some a2) (some nought)) fun v2 =>
  F.ob (gd v0 true (F.bin .leq v1 v2) (some nought)) fun v3 =>
  F.ob (pv (.pick (.c v0) (.c v3) (.c (.s (.bool false))))) fun v4 =>
  out [v4] h0
theorem e288 : (fun (fx : Fx) (cl : Cl) (a0 a1 a2 : AV) (h0 : H) => denF fx cl d288 [a0, a1, a2] h0) = g288 := by kernel_rfl
def d207r0 : D := .reg false [⟨(.some 1), .box 38 (.t 0), .none, 0⟩, ⟨(.some 2), .mv (.c (.s (.bool false))), .none, 0⟩] []
def d207r1 : D := .reg false [⟨(.some 3), .mv (.c (.s (.int .i64 0))), .none, 0⟩, ⟨(.some 4), .mv (.c (.s (.int .i64 0))), .none, 0⟩] []
def d207r2 : D := .reg false [⟨(.some 5), .fld 0 (.t 1), .none, 0⟩, ⟨(.some 6), .ld false 1 (.t 5), .none, 0⟩, ⟨(.some 7), .bin .eql (.t 6) (.c (.s (.int .i64 1))), .none, 0⟩] []
def d207r3 : D := .reg false [⟨(.some 3), .mv (.c (.s (.int .i64 3))), .none, 0⟩, ⟨(.some 4), .mv (.c (.s (.int .i64 1099511627776))), .none, 0⟩] []
def d207r4 : D := .reg false [⟨(.some 8), .fld 0 (.t 1), .none, 0⟩, ⟨(.some 9), .ld false 1 (.t 8), .none, 0⟩, ⟨(.some 10), .call 288 [(.t 9), (.c (.s (.int .i64 1))), (.c (.s (.int .i64 3)))], .none, 0⟩, ⟨(.some 11), .mv (.t 10), .none, 0⟩, ⟨(.some 12), .fld 1 (.t 1), (.some (11, true)), 0⟩, ⟨(.some 13), .ld false 1 (.t 12), (.some (11, true)), 0⟩, ⟨(.some 14), .call 288 [(.t 13), (.c (.s (.int .i64 0))), (.c (.s (.int .i64 15)))], (.some (11, true)), 0⟩, ⟨(.some 15), .pick (.t 11) (.t 14) (.c (.s (.bool false))), .none, 0⟩, ⟨(.some 16), .mv (.t 15), .none, 0⟩, ⟨(.some 17), .fld 2 (.t 1), (.some (16, true)), 0⟩, ⟨(.some 18), .ld false 1 (.t 17), (.some (16, true)), 0⟩, ⟨(.some 19), .call 288 [(.t 18), (.c (.s (.int .i64 0))), (.c (.s (.int .i64 60000)))], (.some (16, true)), 0⟩, ⟨(.some 20), .pick (.t 16) (.t 19) (.c (.s (.bool false))), .none, 0⟩, ⟨(.some 21), .mv (.t 20), .none, 0⟩, ⟨(.some 22), .fld 3 (.t 1), (.some (21, true)), 0⟩, ⟨(.some 23), .ld false 1 (.t 22), (.some (21, true)), 0⟩, ⟨(.some 24), .call 288 [(.t 23), (.c (.s (.int .i64 1))), (.c (.s (.int .i64 1099511627776)))], (.some (21, true)), 0⟩, ⟨(.some 25), .pick (.t 21) (.t 24) (.c (.s (.bool false))), .none, 0⟩, ⟨(.some 26), .mv (.t 25), .none, 0⟩, ⟨(.some 27), .fld 4 (.t 1), (.some (26, true)), 0⟩, ⟨(.some 28), .ld false 1 (.t 27), (.some (26, true)), 0⟩, ⟨(.some 29), .call 288 [(.t 28), (.c (.s (.int .i64 0))), (.c (.s (.int .i64 1099511627776)))], (.some (26, true)), 0⟩, ⟨(.some 30), .pick (.t 26) (.t 29) (.c (.s (.bool false))), .none, 0⟩, ⟨(.some 31), .mv (.t 30), .none, 0⟩, ⟨(.some 32), .fld 6 (.t 1), (.some (31, true)), 0⟩, ⟨(.some 33), .ld false 1 (.t 32), (.some (31, true)), 0⟩, ⟨(.some 34), .mv (.t 3), (.some (31, true)), 0⟩, ⟨(.some 35), .call 288 [(.t 33), (.c (.s (.int .i64 0))), (.t 34)], (.some (31, true)), 0⟩, ⟨(.some 36), .pick (.t 31) (.t 35) (.c (.s (.bool false))), .none, 0⟩, ⟨(.some 37), .mv (.t 36), .none, 0⟩, ⟨(.some 38), .fld 5 (.t 1), (.some (37, true)), 0⟩, ⟨(.some 39), .ld false 1 (.t 38), (.some (37, true)), 0⟩, ⟨(.some 40), .mv (.t 4), (.some (37, true)), 0⟩, ⟨(.some 41), .call 288 [(.t 39), (.c (.s (.int .i64 0))), (.t 40)], (.some (37, true)), 0⟩, ⟨(.some 42), .pick (.t 37) (.t 41) (.c (.s (.bool false))), .none, 0⟩, ⟨(.some 2), .mv (.t 42), .none, 0⟩] []
/-- quorumite/wire.May -/
def d207 : Df := ⟨6, [.t 2], (.seq d207r0 (.seq d207r1 (.seq (.seq d207r2 (.cond (.some [3, 4]) (.t 7) d207r3 .skip)) (.seq d207r4 .ret))))⟩
noncomputable def g207 (fx : Fx) (cl : Cl) (a0 : AV) (h0 : H) : R :=
  obh (mkv (.box 38 (.c a0)) h0) fun v0 h1 =>
  F.ob (fld 0 v0) fun v1 =>
  F.ob (ld false 1 v1 h1) fun v2 =>
  F.ob (F.bin .eql v2 (.s (.int .i64 1))) fun v3 =>
  letJ (fun (p0 : AV × AV) h2 =>
  F.ob (fld 0 v0) fun v4 =>
  F.ob (ld false 1 v4 h2) fun v5 =>
  obh (cl 288 [v5, (.s (.int .i64 1)), (.s (.int .i64 3))] h2) fun v6 h3 =>
  F.ob (gd v6 true (fld 1 v0) (some nought)) fun v7 =>
  F.ob (gd v6 true (ld false 1 v7 h3) (some nought)) fun v8 =>
  obh (gd v6 true (cl 288 [v8, (.s (.int .i64 0)), (.s (.int .i64 15))] h3) (some (nought, h3))) fun v9 h4 =>
  F.ob (pv (.pick (.c v6) (.c v9) (.c (.s (.bool false))))) fun v10 =>
  F.ob (gd v10 true (fld 2 v0) (some nought)) fun v11 =>
  F.ob (gd v10 true (ld false 1 v11 h4) (some nought)) fun v12 =>
  obh (gd v10 true (cl 288 [v12, (.s (.int .i64 0)), (.s (.int .i64 60000))] h4) (some (nought, h4))) fun v13 h5 =>
  F.ob (pv (.pick (.c v10) (.c v13) (.c (.s (.bool false))))) fun v14 =>
  F.ob (gd v14 true (fld 3 v0) (some nought)) fun v15 =>
  F.ob (gd v14 true (ld false 1 v15 h5) (some nought)) fun v16 =>
  obh (gd v14 true (cl 288 [v16, (.s (.int .i64 1)), (.s (.int .i64 1099511627776))] h5) (some (nought, h5))) fun v17 h6 =>
  F.ob (pv (.pick (.c v14) (.c v17) (.c (.s (.bool false))))) fun v18 =>
  F.ob (gd v18 true (fld 4 v0) (some nought)) fun v19 =>
  F.ob (gd v18 true (ld false 1 v19 h6) (some nought)) fun v20 =>
  obh (gd v18 true (cl 288 [v20, (.s (.int .i64 0)), (.s (.int .i64 1099511627776))] h6) (some (nought, h6))) fun v21 h7 =>
  F.ob (pv (.pick (.c v18) (.c v21) (.c (.s (.bool false))))) fun v22 =>
  F.ob (gd v22 true (fld 6 v0) (some nought)) fun v23 =>
  F.ob (gd v22 true (ld false 1 v23 h7) (some nought)) fun v24 =>
  F.ob (gd v22 true (some p0.1) (some nought)) fun v25 =>
  obh (gd v22 true (cl 288 [v24, (.s (.int .i64 0)), v25] h7) (some (nought, h7))) fun v26 h8 =>
  F.ob (pv (.pick (.c v22) (.c v26) (.c (.s (.bool false))))) fun v27 =>
  F.ob (gd v27 true (fld 5 v0) (some nought)) fun v28 =>
  F.ob (gd v27 true (ld false 1 v28 h8) (some nought)) fun v29 =>
  F.ob (gd v27 true (some p0.2) (some nought)) fun v30 =>
  obh (gd v27 true (cl 288 [v29, (.s (.int .i64 0)), v30] h8) (some (nought, h8))) fun v31 h9 =>
  F.ob (pv (.pick (.c v27) (.c v31) (.c (.s (.bool false))))) fun v32 =>
  out [v32] h9) fun j0 =>
  cnd v3 (
  j0 ((.s (.int .i64 3)), (.s (.int .i64 1099511627776))) h1) (
  j0 ((.s (.int .i64 0)), (.s (.int .i64 0))) h1)
theorem e207 : (fun (fx : Fx) (cl : Cl) (a0 : AV) (h0 : H) => denF fx cl d207 [a0] h0) = g207 := by kernel_rfl
def d172r0 : D := .reg false [⟨(.some 1), .box 38 (.t 0), .none, 0⟩, ⟨(.some 2), .mv (.c (.s (.sl .none 0 0 true 1))), .none, 0⟩, ⟨(.some 3), .mv (.c (.s (.int .i64 0))), .none, 0⟩] []
def d172r1 : D := .reg false [⟨(.some 7), .ld true 7 (.t 1), .none, 0⟩, ⟨(.some 8), .call 207 [(.t 7)], .none, 0⟩, ⟨(.some 9), .un .not (.t 8), .none, 0⟩] []
def d172r2 : D := .reg false [⟨(.some 2), .mv (.c (.s (.sl .none 0 0 true 1))), .none, 0⟩, ⟨(.some 3), .mv (.c (.s (.int .i64 1))), .none, 0⟩] []
def d172r3 : D := .reg true [⟨(.some 10), .fld 0 (.t 1), .none, 0⟩, ⟨(.some 11), .ld false 1 (.t 10), .none, 1⟩, ⟨(.some 12), .conv .u8 (.t 11), .none, 3⟩, ⟨(.some 13), .fld 1 (.t 1), .none, 0⟩, ⟨(.some 14), .ld false 1 (.t 13), .none, 8⟩, ⟨(.some 15), .conv .u8 (.t 14), .none, 24⟩, ⟨(.some 16), .fld 6 (.t 1), .none, 0⟩, ⟨(.some 17), .ld false 1 (.t 16), .none, 64⟩, ⟨(.some 18), .conv .u8 (.t 17), .none, 192⟩, ⟨(.some 19), .bslice 5 1 4 [(.int .u8 0), (.int .u8 0), (.int .u8 0), (.int .u8 0)] [(0, 1, (.c (.s (.int .u8 1)))), (1, 1, (.t 12)), (2, 1, (.t 15)), (3, 1, (.t 18))], .none, 511⟩, ⟨(.some 20), .fld 2 (.t 1), .none, 0⟩, ⟨(.some 21), .ld false 1 (.t 20), .none, 1024⟩, ⟨(.some 22), .conv .u64 (.t 21), .none, 3072⟩, ⟨(.some 23), .call 188 [(.t 22)], .none, 7168⟩, ⟨(.some 24), .slc (.sl 1) (.t 23) .none (.some (.c (.s (.int .i64 4)))) .none, .none, 15360⟩, ⟨(.some 25), .app 5 1 1 (.t 19) (.t 24), .none, 32767⟩, ⟨(.some 4), .mv (.t 25), .none, 65535⟩] []
def d172r4 : D := .reg false [⟨(.some 26), .fld 3 (.t 1), .none, 0⟩, ⟨(.some 27), .ld false 1 (.t 26), .none, 0⟩, ⟨(.some 28), .fld 4 (.t 1), .none, 0⟩, ⟨(.some 29), .ld false 1 (.t 28), .none, 0⟩, ⟨(.some 30), .fld 5 (.t 1), .none, 0⟩, ⟨(.some 31), .ld false 1 (.t 30), .none, 0⟩, ⟨(.some 32), .bslice 2 1 3 [(.int .i64 0), (.int .i64 0), (.int .i64 0)] [(0, 1, (.t 27)), (1, 1, (.t 29)), (2, 1, (.t 31))], .none, 0⟩, ⟨(.some 33), .len (.sl 0) (.t 32), .none, 0⟩, ⟨(.some 34), .mv (.c (.s (.int .i64 0))), .none, 0⟩] []
def d172r5 : D := .reg false [⟨(.some 35), .bin .lss (.t 34) (.t 33), .none, 0⟩] []
def d172r6 : D := .reg false [⟨(.some 36), .idxa (.sl 1) (.t 32) (.t 34), .none, 0⟩, ⟨(.some 37), .ld false 1 (.t 36), .none, 0⟩, ⟨(.some 6), .mv (.t 37), .none, 0⟩] []
def d172r7 : D := .reg false [⟨(.some 38), .mv (.t 4), .none, 0⟩, ⟨(.some 39), .mv (.t 6), .none, 0⟩, ⟨(.some 40), .conv .u64 (.t 39), .none, 0⟩, ⟨(.some 41), .call 188 [(.t 40)], .none, 0⟩, ⟨(.some 42), .app 5 1 1 (.t 38) (.t 41), .none, 0⟩, ⟨(.some 4), .mv (.t 42), .none, 0⟩] []
def d172r8 : D := .reg false [⟨(.some 43), .bin .add (.t 34) (.c (.s (.int .i64 1))), .none, 0⟩, ⟨(.some 34), .mv (.t 43), .none, 0⟩] []
def d172r9 : D := .reg false [⟨(.some 44), .mv (.t 4), .none, 0⟩, ⟨(.some 2), .mv (.t 44), .none, 0⟩, ⟨(.some 3), .mv (.c (.s (.int .i64 0))), .none, 0⟩] []
/-- quorumite/wire.Put -/
def d172 : Df := ⟨6, [.t 2, .t 3], (.seq d172r0 (.seq (.seq d172r1 (.cond .none (.t 9) (.seq d172r2 .ret) .skip)) (.seq d172r3 (.seq (.seq d172r4 (.blk (.some [4]) 0 (.loop [4, 34] (.seq d172r5 (.seq (.cond .none (.t 35) .skip (.exit 0)) (.seq (.blk .none 1 (.seq d172r6 d172r7)) d172r8)))))) (.seq d172r9 .ret)))))⟩
noncomputable def g172 (fx : Fx) (cl : Cl) (a0 : AV) (h0 : H) : R :=
  obh (mkv (.box 38 (.c a0)) h0) fun v0 h1 =>
  F.ob (ld true 7 v0 h1) fun v1 =>
  obh (cl 207 [v1] h1) fun v2 h2 =>
  F.ob (pv (.un .not (.c v2))) fun v3 =>
  cnd v3 (
  out [(.s (.sl .none 0 0 true 1)), (.s (.int .i64 1))] h2) (
  F.ob (fld 0 v0) fun v4 =>
  F.ob (rdd (.ld false 1 (.c v4)) [] h2) fun v5 =>
  F.ob (conv .u8 v5) fun v6 =>
  F.ob (fld 1 v0) fun v7 =>
  F.ob (rdd (.ld false 1 (.c v7)) [] h2) fun v8 =>
  F.ob (conv .u8 v8) fun v9 =>
  F.ob (fld 6 v0) fun v10 =>
  F.ob (rdd (.ld false 1 (.c v10)) [] h2) fun v11 =>
  F.ob (conv .u8 v11) fun v12 =>
  obh (mkv (.bslice 5 1 4 [(.int .u8 0), (.int .u8 0), (.int .u8 0), (.int .u8 0)] [(0, 1, .c (.s (.int .u8 1))), (1, 1, .c v6), (2, 1, .c v9), (3, 1, .c v12)]) h2) fun v13 h3 =>
  F.ob (fld 2 v0) fun v14 =>
  F.ob (rdd (.ld false 1 (.c v14)) [] h3) fun v15 =>
  F.ob (conv .u64 v15) fun v16 =>
  obh (chk Prod.snd [⟨none, .ld false 1 (.c v10), v11, 7⟩, ⟨none, .ld false 1 (.c v7), v8, 4⟩, ⟨none, .ld false 1 (.c v4), v5, 1⟩] (cl 188 [v16] h3)) fun v17 h4 =>
  F.ob (pv (.slc (.sl 1) (.c v17) .none (.some (.c (.s (.int .i64 4)))) .none)) fun v18 =>
  obh (av (.app 5 1 1 (.c v13) (.c v18)) h4) fun v19 h5 =>
  F.ob (fld 3 v0) fun v20 =>
  F.ob (ld false 1 v20 h5) fun v21 =>
  F.ob (fld 4 v0) fun v22 =>
  F.ob (ld false 1 v22 h5) fun v23 =>
  F.ob (fld 5 v0) fun v24 =>
  F.ob (ld false 1 v24 h5) fun v25 =>
  obh (mkv (.bslice 2 1 3 [(.int .i64 0), (.int .i64 0), (.int .i64 0)] [(0, 1, .c v21), (1, 1, .c v23), (2, 1, .c v25)]) h5) fun v26 h6 =>
  F.ob (pv (.len (.sl 0) (.c v26))) fun v27 =>
  letJ (fun (p0 : AV) h7 =>
  out [p0, (.s (.int .i64 0))] h7) fun j0 =>
  fx (AV × AV) (fun (r1 : (AV × AV) → H → R) (p1 : AV × AV) h8 =>
  F.ob (F.bin .lss p1.2 v27) fun v28 =>
  cnd v28 (
  F.ob (idxa (.sl 1) v26 p1.2) fun v29 =>
  F.ob (ld false 1 v29 h8) fun v30 =>
  F.ob (conv .u64 v30) fun v31 =>
  obh (cl 188 [v31] h8) fun v32 h9 =>
  obh (av (.app 5 1 1 (.c p1.1) (.c v32)) h9) fun v33 h10 =>
  F.ob (F.bin .add p1.2 (.s (.int .i64 1))) fun v34 =>
  r1 (v33, v34) h10) (
  j0 p1.1 h8)) (v19, (.s (.int .i64 0))) h6)
theorem e172 : (fun (fx : Fx) (cl : Cl) (a0 : AV) (h0 : H) => denF fx cl d172 [a0] h0) = g172 := by kernel_rfl
def d89r0 : D := .reg false [⟨(.some 1), .box 40 (.t 0), .none, 0⟩, ⟨(.some 2), .mv (.c (.s (.sl .none 0 0 true 1))), .none, 0⟩] []
def d89r1 : D := .reg false [⟨(.some 6), .fld 1 (.t 1), .none, 0⟩, ⟨(.some 7), .ld true 7 (.t 6), .none, 0⟩, ⟨(.some 8), .call 172 [(.t 7)], .none, 0⟩, ⟨(.some 5), .mv (.t 8), .none, 0⟩, ⟨(.some 9), .ext (.t 5) 0, .none, 0⟩, ⟨(.some 10), .ext (.t 5) 1, .none, 0⟩, ⟨(.some 3), .mv (.t 9), .none, 0⟩, ⟨(.some 4), .mv (.t 10), .none, 0⟩] []
def d89r2 : D := .reg false [⟨(.some 11), .fld 0 (.t 1), .none, 0⟩, ⟨(.some 12), .ld false 1 (.t 11), .none, 0⟩, ⟨(.some 13), .conv .u8 (.t 12), .none, 0⟩, ⟨(.some 14), .bslice 5 1 1 [(.int .u8 0)] [(0, 1, (.t 13))], .none, 0⟩, ⟨(.some 15), .mv (.t 3), .none, 0⟩, ⟨(.some 16), .app 5 1 1 (.t 14) (.t 15), .none, 0⟩, ⟨(.some 2), .mv (.t 16), .none, 0⟩] []
/-- quorumite/store.data -/
def d89 : Df := ⟨5, [.t 2], (.seq d89r0 (.seq d89r1 (.seq d89r2 .ret)))⟩
noncomputable def g89 (fx : Fx) (cl : Cl) (a0 : AV) (h0 : H) : R :=
  obh (mkv (.box 40 (.c a0)) h0) fun v0 h1 =>
  F.ob (fld 1 v0) fun v1 =>
  F.ob (ld true 7 v1 h1) fun v2 =>
  obh (cl 172 [v2] h1) fun v3 h2 =>
  F.ob (pv (.ext (.c v3) 0)) fun v4 =>
  F.ob (pv (.ext (.c v3) 1)) fun v5 =>
  F.ob (fld 0 v0) fun v6 =>
  F.ob (ld false 1 v6 h2) fun v7 =>
  F.ob (conv .u8 v7) fun v8 =>
  obh (mkv (.bslice 5 1 1 [(.int .u8 0)] [(0, 1, .c v8)]) h2) fun v9 h3 =>
  obh (av (.app 5 1 1 (.c v9) (.c v4)) h3) fun v10 h4 =>
  out [v10] h4
theorem e89 : (fun (fx : Fx) (cl : Cl) (a0 : AV) (h0 : H) => denF fx cl d89 [a0] h0) = g89 := by kernel_rfl
def d205r0 : D := .reg false [⟨(.some 3), .box 2 (.t 1), .none, 0⟩, ⟨(.some 4), .mv (.c (.s (.int .i64 0))), .none, 0⟩] []
def d205r1 : D := .reg false [⟨(.some 6), .mv (.t 0), .none, 0⟩, ⟨(.some 7), .eqv .ptr false (.t 6) (.c (.s (.ptr .none))), .none, 0⟩] []
def d205r2 : D := .reg false [⟨(.some 4), .mv (.c (.s (.int .i64 0))), .none, 0⟩] []
def d205r3 : D := .reg false [⟨(.some 8), .mv (.t 0), .none, 0⟩, ⟨(.some 9), .nilck (.t 8), .none, 0⟩, ⟨(.some 10), .fld 3 (.t 9), .none, 0⟩, ⟨(.some 11), .ld false 1 (.t 10), .none, 0⟩, ⟨(.some 12), .len (.sl 0) (.t 11), .none, 0⟩, ⟨(.some 5), .mv (.t 12), .none, 0⟩] []
def d205r4 : D := .reg false [⟨(.some 13), .mv (.t 0), .none, 0⟩, ⟨(.some 14), .mv (.t 0), .none, 0⟩, ⟨(.some 15), .nilck (.t 14), .none, 0⟩, ⟨(.some 16), .fld 3 (.t 15), .none, 0⟩, ⟨(.some 17), .ld false 1 (.t 16), .none, 0⟩, ⟨(.some 18), .mkfn 282 [] [(.t 3)], .none, 0⟩, ⟨(.some 19), .call 201 [(.t 17), (.t 18)], .none, 0⟩, ⟨(.some 20), .nilck (.t 13), .none, 0⟩, ⟨(.some 21), .fld 3 (.t 20), .none, 0⟩, ⟨.none, .st 1 (.t 21) (.t 19), .none, 0⟩] []
def d205r5 : D := .reg false [⟨(.some 22), .mv (.t 5), .none, 0⟩, ⟨(.some 23), .mv (.t 0), .none, 0⟩, ⟨(.some 24), .nilck (.t 23), .none, 0⟩, ⟨(.some 25), .fld 3 (.t 24), .none, 0⟩, ⟨(.some 26), .ld false 1 (.t 25), .none, 0⟩, ⟨(.some 27), .len (.sl 0) (.t 26), .none, 0⟩, ⟨(.some 28), .bin .sub (.t 22) (.t 27), .none, 0⟩, ⟨(.some 4), .mv (.t 28), .none, 0⟩] []
/-- (*quorumite/table.Table).Drop -/
def d205 : Df := ⟨5, [.t 4], (.seq d205r0 (.seq (.seq d205r1 (.cond .none (.t 7) (.seq d205r2 .ret) .skip)) (.seq d205r3 (.seq d205r4 (.seq d205r5 .ret)))))⟩
noncomputable def g205 (fx : Fx) (cl : Cl) (a0 a1 : AV) (h0 : H) : R :=
  obh (mkv (.box 2 (.c a1)) h0) fun v0 h1 =>
  F.ob (pv (.eqv .ptr false (.c a0) (.c (.s (.ptr .none))))) fun v1 =>
  cnd v1 (
  out [(.s (.int .i64 0))] h1) (
  F.ob (nilck a0) fun v2 =>
  F.ob (fld 3 v2) fun v3 =>
  F.ob (ld false 1 v3 h1) fun v4 =>
  F.ob (pv (.len (.sl 0) (.c v4))) fun v5 =>
  F.ob (nilck a0) fun v6 =>
  F.ob (fld 3 v6) fun v7 =>
  F.ob (ld false 1 v7 h1) fun v8 =>
  F.ob (pv (.mkfn 282 [] [.c v0])) fun v9 =>
  obh (cl 201 [v8, v9] h1) fun v10 h2 =>
  F.ob (nilck a0) fun v11 =>
  F.ob (fld 3 v11) fun v12 =>
  F.ob (st 1 v12 v10 h2) fun h3 =>
  F.ob (nilck a0) fun v13 =>
  F.ob (fld 3 v13) fun v14 =>
  F.ob (ld false 1 v14 h3) fun v15 =>
  F.ob (pv (.len (.sl 0) (.c v15))) fun v16 =>
  F.ob (F.bin .sub v5 v16) fun v17 =>
  out [v17] h3)
theorem e205 : (fun (fx : Fx) (cl : Cl) (a0 a1 : AV) (h0 : H) => denF fx cl d205 [a0, a1] h0) = g205 := by kernel_rfl
def d133r0 : D := .reg false [⟨(.some 8), .mv (.c (.s (.bool false))), .none, 0⟩] []
def d133r1 : D := .reg false [⟨(.some 10), .mv (.t 1), .none, 0⟩, ⟨(.some 11), .nilck (.t 10), .none, 0⟩, ⟨(.some 12), .fld 2 (.t 11), .none, 0⟩, ⟨(.some 13), .ld false 1 (.t 12), .none, 0⟩, ⟨(.some 9), .mv (.t 13), .none, 0⟩] []
def d133r2 : D := .reg false [⟨(.some 14), .mv (.t 1), .none, 0⟩, ⟨(.some 15), .nilck (.t 14), .none, 0⟩, ⟨(.some 16), .fld 1 (.t 15), .none, 0⟩, ⟨(.some 17), .ld false 1 (.t 16), .none, 0⟩, ⟨(.some 18), .bin .add (.t 17) (.c (.s (.int .i64 1))), .none, 0⟩, ⟨(.some 19), .nilck (.t 14), .none, 0⟩, ⟨(.some 20), .fld 1 (.t 19), .none, 0⟩, ⟨.none, .st 1 (.t 20) (.t 18), .none, 0⟩] []
def d133r3 : D := .reg true [⟨(.some 21), .mv (.t 1), .none, 0⟩, ⟨(.some 22), .nilck (.t 21), .none, 1⟩, ⟨(.some 23), .fld 1 (.t 22), .none, 3⟩, ⟨(.some 24), .ld false 1 (.t 23), .none, 7⟩, ⟨(.some 25), .mv (.t 0), .none, 0⟩, ⟨(.some 26), .nilck (.t 25), .none, 16⟩, ⟨(.some 27), .fld 2 (.t 26), .none, 48⟩, ⟨(.some 28), .ld false 1 (.t 27), .none, 112⟩, ⟨(.some 29), .bin .geq (.t 24) (.t 28), .none, 255⟩] []
def d133r4 : D := .reg false [⟨(.some 30), .mv (.t 1), .none, 0⟩, ⟨(.some 31), .build [(.int .i64 0), (.int .i64 0), (.bool false)] [], .none, 0⟩, ⟨(.some 32), .nilck (.t 30), .none, 0⟩, ⟨.none, .st 3 (.t 32) (.t 31), .none, 0⟩] []
def d133r5 : D := .reg false [⟨(.some 34), .mv (.t 2), .none, 0⟩, ⟨(.some 33), .mv (.t 34), .none, 0⟩] []
def d133r6 : D := .reg false [⟨(.some 35), .mv (.t 0), .none, 0⟩, ⟨(.some 36), .nilck (.t 35), .none, 0⟩, ⟨(.some 37), .fld 4 (.t 36), .none, 0⟩, ⟨(.some 38), .call 72 [(.t 37), (.c (.s (.int .i64 1)))], .none, 0⟩] []
def d133r7 : D := .reg false [⟨(.some 39), .mv (.t 1), .none, 0⟩, ⟨(.some 40), .nilck (.t 39), .none, 0⟩, ⟨(.some 41), .fld 0 (.t 40), .none, 0⟩, ⟨(.some 42), .ld false 1 (.t 41), .none, 0⟩, ⟨(.some 43), .bin .add (.t 42) (.c (.s (.int .i64 1))), .none, 0⟩, ⟨(.some 44), .nilck (.t 39), .none, 0⟩, ⟨(.some 45), .fld 0 (.t 44), .none, 0⟩, ⟨.none, .st 1 (.t 45) (.t 43), .none, 0⟩] []
def d133r8 : D := .reg true [⟨(.some 46), .mv (.t 1), .none, 0⟩, ⟨(.some 47), .nilck (.t 46), .none, 1⟩, ⟨(.some 48), .fld 0 (.t 47), .none, 3⟩, ⟨(.some 49), .ld false 1 (.t 48), .none, 7⟩, ⟨(.some 50), .mv (.t 0), .none, 0⟩, ⟨(.some 51), .nilck (.t 50), .none, 16⟩, ⟨(.some 52), .fld 1 (.t 51), .none, 48⟩, ⟨(.some 53), .ld false 1 (.t 52), .none, 112⟩, ⟨(.some 54), .bin .geq (.t 49) (.t 53), .none, 255⟩] []
def d133r9 : D := .reg false [⟨(.some 55), .mv (.t 1), .none, 0⟩, ⟨(.some 56), .build [(.int .i64 0), (.int .i64 0), (.bool false)] [(2, 1, (.c (.s (.bool true))))], .none, 0⟩, ⟨(.some 57), .nilck (.t 55), .none, 0⟩, ⟨.none, .st 3 (.t 57) (.t 56), .none, 0⟩] []
def d133r10 : D := .reg false [⟨(.some 8), .mv (.c (.s (.bool true))), .none, 0⟩] []
def d133r11 : D := .reg false [⟨(.some 59), .mv (.t 3), .none, 0⟩, ⟨(.some 58), .mv (.t 59), .none, 0⟩] []
def d133r12 : D := .reg false [⟨(.some 60), .mv (.t 1), .none, 0⟩, ⟨(.some 61), .mv (.t 1), .none, 0⟩, ⟨(.some 62), .nilck (.t 61), .none, 0⟩, ⟨(.some 63), .fld 0 (.t 62), .none, 0⟩, ⟨(.some 64), .ld false 1 (.t 63), .none, 0⟩, ⟨(.some 65), .bin .sub (.t 64) (.c (.s (.int .i64 1))), .none, 0⟩, ⟨(.some 66), .mx [(.t 65), (.c (.s (.int .i64 0)))], .none, 0⟩, ⟨(.some 67), .nilck (.t 60), .none, 0⟩, ⟨(.some 68), .fld 0 (.t 67), .none, 0⟩, ⟨.none, .st 1 (.t 68) (.t 66), .none, 0⟩] []
def d133r13 : D := .reg false [⟨(.some 8), .mv (.c (.s (.bool false))), .none, 0⟩] []
/-- (*quorumite/score.Score).end -/
def d133 : Df := ⟨7, [.t 8], (.seq d133r0 (.seq (.blk .none 0 (.seq d133r1 (.cond (.some []) (.t 9) (.seq d133r2 (.seq d133r3 (.cond (.some []) (.t 29) d133r4 .skip))) (.seq d133r5 (.cond (.some []) (.t 33) (.seq d133r6 (.seq d133r7 (.seq d133r8 (.cond .none (.t 54) (.seq d133r9 (.seq d133r10 .ret)) .skip)))) (.seq d133r11 (.cond (.some []) (.t 58) d133r12 .skip))))))) (.seq d133r13 .ret)))⟩
noncomputable def g133 (fx : Fx) (cl : Cl) (a0 a1 a2 a3 : AV) (h0 : H) : R :=
  F.ob (nilck a1) fun v0 =>
  F.ob (fld 2 v0) fun v1 =>
  F.ob (ld false 1 v1 h0) fun v2 =>
  letJ (fun (p0 : Unit) h1 =>
  out [(.s (.bool false))] h1) fun j0 =>
  cnd v2 (
  F.ob (nilck a1) fun v3 =>
  F.ob (fld 1 v3) fun v4 =>
  F.ob (ld false 1 v4 h0) fun v5 =>
  F.ob (F.bin .add v5 (.s (.int .i64 1))) fun v6 =>
  F.ob (nilck a1) fun v7 =>
  F.ob (fld 1 v7) fun v8 =>
  F.ob (st 1 v8 v6 h0) fun h2 =>
  F.ob (nilck a1) fun v9 =>
  F.ob (fld 1 v9) fun v10 =>
  F.ob (rdd (.ld false 1 (.c v10)) [] h2) fun v11 =>
  F.ob (nilck a0) fun v12 =>
  F.ob (fld 2 v12) fun v13 =>
  F.ob (rdd (.ld false 1 (.c v13)) [] h2) fun v14 =>
  F.ob (F.bin .geq v11 v14) fun v15 =>
  letJ (fun (p1 : Unit) h3 =>
  j0 () h3) fun j1 =>
  cnd v15 (
  F.ob (pv (.build [(.int .i64 0), (.int .i64 0), (.bool false)] [])) fun v16 =>
  F.ob (nilck a1) fun v17 =>
  F.ob (st 3 v17 v16 h2) fun h4 =>
  j1 () h4) (
  j1 () h2)) (
  letJ (fun (p2 : Unit) h5 =>
  j0 () h5) fun j2 =>
  cnd a2 (
  F.ob (nilck a0) fun v18 =>
  F.ob (fld 4 v18) fun v19 =>
  obh (cl 72 [v19, (.s (.int .i64 1))] h0) fun v20 h6 =>
  F.ob (nilck a1) fun v21 =>
  F.ob (fld 0 v21) fun v22 =>
  F.ob (ld false 1 v22 h6) fun v23 =>
  F.ob (F.bin .add v23 (.s (.int .i64 1))) fun v24 =>
  F.ob (nilck a1) fun v25 =>
  F.ob (fld 0 v25) fun v26 =>
  F.ob (st 1 v26 v24 h6) fun h7 =>
  F.ob (nilck a1) fun v27 =>
  F.ob (fld 0 v27) fun v28 =>
  F.ob (rdd (.ld false 1 (.c v28)) [] h7) fun v29 =>
  F.ob (nilck a0) fun v30 =>
  F.ob (fld 1 v30) fun v31 =>
  F.ob (rdd (.ld false 1 (.c v31)) [] h7) fun v32 =>
  F.ob (F.bin .geq v29 v32) fun v33 =>
  cnd v33 (
  F.ob (pv (.build [(.int .i64 0), (.int .i64 0), (.bool false)] [(2, 1, .c (.s (.bool true)))])) fun v34 =>
  F.ob (nilck a1) fun v35 =>
  F.ob (st 3 v35 v34 h7) fun h8 =>
  out [(.s (.bool true))] h8) (
  j2 () h7)) (
  letJ (fun (p3 : Unit) h9 =>
  j2 () h9) fun j3 =>
  cnd a3 (
  F.ob (nilck a1) fun v36 =>
  F.ob (fld 0 v36) fun v37 =>
  F.ob (ld false 1 v37 h0) fun v38 =>
  F.ob (F.bin .sub v38 (.s (.int .i64 1))) fun v39 =>
  F.ob (pv (.mx [.c v39, .c (.s (.int .i64 0))])) fun v40 =>
  F.ob (nilck a1) fun v41 =>
  F.ob (fld 0 v41) fun v42 =>
  F.ob (st 1 v42 v40 h0) fun h10 =>
  j3 () h10) (
  j3 () h0)))
theorem e133 : (fun (fx : Fx) (cl : Cl) (a0 a1 a2 a3 : AV) (h0 : H) => denF fx cl d133 [a0, a1, a2, a3] h0) = g133 := by kernel_rfl
def d218r0 : D := .reg false [⟨(.some 2), .mv (.c (.s (.int .i64 0))), .none, 0⟩, ⟨(.some 3), .mv (.c (.s (.bool false))), .none, 0⟩] []
def d218r1 : D := .reg false [⟨(.some 4), .mv (.t 0), .none, 0⟩, ⟨(.some 5), .call 291 [(.t 4)], .none, 0⟩, ⟨(.some 6), .un .not (.t 5), .none, 0⟩, ⟨(.some 7), .mv (.t 6), .none, 0⟩, ⟨(.some 8), .mv (.t 0), (.some (7, false)), 0⟩, ⟨(.some 9), .len (.sl 0) (.t 8), (.some (7, false)), 0⟩, ⟨(.some 10), .bin .eql (.t 9) (.c (.s (.int .i64 0))), (.some (7, false)), 0⟩, ⟨(.some 11), .pick (.t 7) (.c (.s (.bool true))) (.t 10), .none, 0⟩] []
def d218r2 : D := .reg false [⟨(.some 2), .mv (.c (.s (.int .i64 0))), .none, 0⟩, ⟨(.some 3), .mv (.c (.s (.bool false))), .none, 0⟩] []
def d218r3 : D := .reg false [⟨(.some 12), .mv (.t 0), .none, 0⟩, ⟨(.some 13), .mv (.t 0), .none, 0⟩, ⟨(.some 14), .len (.sl 0) (.t 13), .none, 0⟩, ⟨(.some 15), .bin .sub (.t 14) (.c (.s (.int .i64 1))), .none, 0⟩, ⟨(.some 16), .bin .quo (.t 15) (.c (.s (.int .i64 2))), .none, 0⟩, ⟨(.some 17), .call 301 [(.t 12), (.t 16)], .none, 0⟩, ⟨(.some 18), .ext (.t 17) 0, .none, 0⟩, ⟨(.some 19), .ext (.t 17) 1, .none, 0⟩, ⟨(.some 2), .mv (.t 18), .none, 0⟩, ⟨(.some 3), .mv (.t 19), .none, 0⟩] []
/-- quorumite/trim.Median -/
def d218 : Df := ⟨5, [.t 2, .t 3], (.seq d218r0 (.seq (.seq d218r1 (.cond .none (.t 11) (.seq d218r2 .ret) .skip)) (.seq d218r3 .ret)))⟩
noncomputable def g218 (fx : Fx) (cl : Cl) (a0 : AV) (h0 : H) : R :=
  obh (cl 291 [a0] h0) fun v0 h1 =>
  F.ob (pv (.un .not (.c v0))) fun v1 =>
  F.ob (gd v1 false (some a0) (some nought)) fun v2 =>
  F.ob (gd v1 false (pv (.len (.sl 0) (.c v2))) (some nought)) fun v3 =>
  F.ob (gd v1 false (F.bin .eql v3 (.s (.int .i64 0))) (some nought)) fun v4 =>
  F.ob (pv (.pick (.c v1) (.c (.s (.bool true))) (.c v4))) fun v5 =>
  cnd v5 (
  out [(.s (.int .i64 0)), (.s (.bool false))] h1) (
  F.ob (pv (.len (.sl 0) (.c a0))) fun v6 =>
  F.ob (F.bin .sub v6 (.s (.int .i64 1))) fun v7 =>
  F.ob (F.bin .quo v7 (.s (.int .i64 2))) fun v8 =>
  obh (cl 301 [a0, v8] h1) fun v9 h2 =>
  F.ob (pv (.ext (.c v9) 0)) fun v10 =>
  F.ob (pv (.ext (.c v9) 1)) fun v11 =>
  out [v10, v11] h2)
theorem e218 : (fun (fx : Fx) (cl : Cl) (a0 : AV) (h0 : H) => denF fx cl d218 [a0] h0) = g218 := by kernel_rfl
def d132r0 : D := .reg false [⟨(.some 5), .box 105 (.t 0), .none, 0⟩] []
def d132r1 : D := .reg false [⟨(.some 17), .mv (.t 1), .none, 0⟩, ⟨(.some 18), .call 192 [(.t 17)], .none, 0⟩, ⟨(.some 19), .mkfn 217 [] [(.t 5)], .none, 0⟩, ⟨(.some 20), .call 201 [(.t 18), (.t 19)], .none, 0⟩, ⟨(.some 1), .mv (.t 20), .none, 0⟩] []
def d132r2 : D := .reg false [⟨(.some 10), .mv (.c (.s (.sl .none 0 0 true 1))), .none, 0⟩] []
def d132r3 : D := .reg false [⟨(.some 21), .mv (.t 1), .none, 0⟩, ⟨(.some 22), .len (.sl 0) (.t 21), .none, 0⟩, ⟨(.some 23), .mv (.c (.s (.int .i64 0))), .none, 0⟩] []
def d132r4 : D := .reg false [⟨(.some 24), .bin .lss (.t 23) (.t 22), .none, 0⟩] []
def d132r5 : D := .reg false [⟨(.some 25), .idxa (.sl 4) (.t 21) (.t 23), .none, 0⟩, ⟨(.some 26), .ld true 4 (.t 25), .none, 0⟩, ⟨(.some 12), .alloc 126 [(.int .i64 0), (.int .i64 0), (.int .i64 0), (.int .i64 0)], .none, 0⟩, ⟨.none, .st 4 (.t 12) (.t 26), .none, 0⟩] []
def d132r6 : D := .reg false [⟨(.some 27), .mv (.t 10), .none, 0⟩, ⟨(.some 28), .fld 3 (.t 12), .none, 0⟩, ⟨(.some 29), .ld false 1 (.t 28), .none, 0⟩, ⟨(.some 30), .bslice 2 1 1 [(.int .i64 0)] [(0, 1, (.t 29))], .none, 0⟩, ⟨(.some 31), .app 2 1 8 (.t 27) (.t 30), .none, 0⟩, ⟨(.some 10), .mv (.t 31), .none, 0⟩] []
def d132r7 : D := .reg false [⟨(.some 32), .bin .add (.t 23) (.c (.s (.int .i64 1))), .none, 0⟩, ⟨(.some 23), .mv (.t 32), .none, 0⟩] []
def d132r8 : D := .reg false [⟨(.some 34), .mv (.t 10), .none, 0⟩, ⟨(.some 35), .call 218 [(.t 34)], .none, 0⟩, ⟨(.some 33), .mv (.t 35), .none, 0⟩, ⟨(.some 36), .ext (.t 33) 0, .none, 0⟩, ⟨(.some 37), .ext (.t 33) 1, .none, 0⟩, ⟨(.some 13), .mv (.t 36), .none, 0⟩, ⟨(.some 14), .mv (.t 37), .none, 0⟩] []
def d132r9 : D := .reg false [⟨(.some 38), .mv (.t 14), .none, 0⟩, ⟨(.some 39), .un .not (.t 38), .none, 0⟩, ⟨(.some 40), .mv (.t 39), .none, 0⟩, ⟨(.some 41), .mv (.t 10), (.some (40, false)), 0⟩, ⟨(.some 42), .len (.sl 0) (.t 41), (.some (40, false)), 0⟩, ⟨(.some 43), .mv (.t 2), (.some (40, false)), 0⟩, ⟨(.some 44), .call 219 [(.t 42), (.t 43)], (.some (40, false)), 0⟩, ⟨(.some 45), .un .not (.t 44), (.some (40, false)), 0⟩, ⟨(.some 46), .pick (.t 40) (.c (.s (.bool true))) (.t 45), .none, 0⟩] []
def d132r10 : D := .reg false [⟨(.some 47), .mv (.t 1), .none, 0⟩, ⟨(.some 48), .len (.sl 0) (.t 47), .none, 0⟩, ⟨(.some 49), .mv (.c (.s (.int .i64 0))), .none, 0⟩] []
def d132r11 : D := .reg false [⟨(.some 50), .bin .lss (.t 49) (.t 48), .none, 0⟩] []
def d132r12 : D := .reg false [⟨(.some 51), .idxa (.sl 4) (.t 47) (.t 49), .none, 0⟩, ⟨(.some 52), .ld true 4 (.t 51), .none, 0⟩, ⟨(.some 16), .alloc 126 [(.int .i64 0), (.int .i64 0), (.int .i64 0), (.int .i64 0)], .none, 0⟩, ⟨.none, .st 4 (.t 16) (.t 52), .none, 0⟩] []
def d132r13 : D := .reg false [⟨(.some 53), .mv (.t 4), .none, 0⟩, ⟨(.some 54), .fld 0 (.t 16), .none, 0⟩, ⟨(.some 55), .ld false 1 (.t 54), .none, 0⟩, ⟨.none, .mupd false [.i] (.t 53) (.t 55) (.c (.s (.bool true))), .none, 0⟩] []
def d132r14 : D := .reg true [⟨(.some 56), .fld 3 (.t 16), .none, 0⟩, ⟨(.some 57), .ld false 1 (.t 56), .none, 1⟩, ⟨(.some 58), .mv (.t 13), .none, 0⟩, ⟨(.some 59), .bin .sub (.t 57) (.t 58), .none, 7⟩, ⟨(.some 60), .ld false 1 (.t 5), .none, 0⟩, ⟨(.some 61), .nilck (.t 60), .none, 16⟩, ⟨(.some 62), .fld 3 (.t 61), .none, 48⟩, ⟨(.some 63), .ld false 1 (.t 62), .none, 112⟩, ⟨(.some 64), .bin .gtr (.t 59) (.t 63), .none, 255⟩, ⟨(.some 65), .mv (.t 64), .none, 511⟩, ⟨(.some 66), .mv (.t 13), (.some (65, false)), 1023⟩, ⟨(.some 67), .fld 3 (.t 16), (.some (65, false)), 1023⟩, ⟨(.some 68), .ld false 1 (.t 67), (.some (65, false)), 3071⟩, ⟨(.some 69), .bin .sub (.t 66) (.t 68), (.some (65, false)), 8191⟩, ⟨(.some 70), .ld false 1 (.t 5), (.some (65, false)), 1023⟩, ⟨(.some 71), .nilck (.t 70), (.some (65, false)), 17407⟩, ⟨(.some 72), .fld 3 (.t 71), (.some (65, false)), 50175⟩, ⟨(.some 73), .ld false 1 (.t 72), (.some (65, false)), 115711⟩, ⟨(.some 74), .bin .gtr (.t 69) (.t 73), (.some (65, false)), 262143⟩, ⟨(.some 75), .pick (.t 65) (.c (.s (.bool true))) (.t 74), .none, 524287⟩] []
def d132r15 : D := .reg false [⟨(.some 76), .mv (.t 3), .none, 0⟩, ⟨(.some 77), .fld 0 (.t 16), .none, 0⟩, ⟨(.some 78), .ld false 1 (.t 77), .none, 0⟩, ⟨.none, .mupd false [.i] (.t 76) (.t 78) (.c (.s (.bool true))), .none, 0⟩] []
def d132r16 : D := .reg false [⟨(.some 79), .bin .add (.t 49) (.c (.s (.int .i64 1))), .none, 0⟩, ⟨(.some 49), .mv (.t 79), .none, 0⟩] []
/-- (*quorumite/score.Score).judge -/
def d132 : Df := ⟨7, [], (.seq d132r0 (.seq d132r1 (.seq d132r2 (.seq (.seq d132r3 (.blk (.some [10]) 0 (.loop [10, 23] (.seq d132r4 (.seq (.cond .none (.t 24) .skip (.exit 0)) (.seq (.blk .none 1 (.seq d132r5 d132r6)) d132r7)))))) (.seq d132r8 (.seq (.seq d132r9 (.cond .none (.t 46) .ret .skip)) (.seq d132r10 (.blk (.some []) 2 (.loop [49] (.seq d132r11 (.seq (.cond .none (.t 50) .skip (.exit 2)) (.seq (.blk .none 3 (.seq d132r12 (.seq d132r13 (.seq d132r14 (.cond (.some []) (.t 75) d132r15 .skip))))) d132r16))))))))))))⟩
noncomputable def g132 (fx : Fx) (cl : Cl) (a0 a1 a2 a3 a4 : AV) (h0 : H) : R :=
  obh (mkv (.box 105 (.c a0)) h0) fun v0 h1 =>
  obh (cl 192 [a1] h1) fun v1 h2 =>
  F.ob (pv (.mkfn 217 [] [.c v0])) fun v2 =>
  obh (cl 201 [v1, v2] h2) fun v3 h3 =>
  F.ob (pv (.len (.sl 0) (.c v3))) fun v4 =>
  letJ (fun (p0 : AV) h4 =>
  obh (cl 218 [p0] h4) fun v5 h5 =>
  F.ob (pv (.ext (.c v5) 0)) fun v6 =>
  F.ob (pv (.ext (.c v5) 1)) fun v7 =>
  F.ob (pv (.un .not (.c v7))) fun v8 =>
  F.ob (gd v8 false (some p0) (some nought)) fun v9 =>
  F.ob (gd v8 false (pv (.len (.sl 0) (.c v9))) (some nought)) fun v10 =>
  F.ob (gd v8 false (some a2) (some nought)) fun v11 =>
  obh (gd v8 false (cl 219 [v10, v11] h5) (some (nought, h5))) fun v12 h6 =>
  F.ob (gd v8 false (pv (.un .not (.c v12))) (some nought)) fun v13 =>
  F.ob (pv (.pick (.c v8) (.c (.s (.bool true))) (.c v13))) fun v14 =>
  cnd v14 (
  out [] h6) (
  F.ob (pv (.len (.sl 0) (.c v3))) fun v15 =>
  letJ (fun (p1 : Unit) h7 =>
  out [] h7) fun j1 =>
  fx AV (fun (r2 : AV → H → R) (p2 : AV) h8 =>
  F.ob (F.bin .lss p2 v15) fun v16 =>
  cnd v16 (
  F.ob (idxa (.sl 4) v3 p2) fun v17 =>
  F.ob (ld true 4 v17 h8) fun v18 =>
  obh (mkv (.alloc 126 [(.int .i64 0), (.int .i64 0), (.int .i64 0), (.int .i64 0)]) h8) fun v19 h9 =>
  F.ob (st 4 v19 v18 h9) fun h10 =>
  F.ob (fld 0 v19) fun v20 =>
  F.ob (ld false 1 v20 h10) fun v21 =>
  F.ob (avn (.mupd false [.i] (.c a4) (.c v21) (.c (.s (.bool true)))) h10) fun h11 =>
  F.ob (fld 3 v19) fun v22 =>
  F.ob (rdd (.ld false 1 (.c v22)) [] h11) fun v23 =>
  F.ob (F.bin .sub v23 v6) fun v24 =>
  F.ob (rdd (.ld false 1 (.c v0)) [] h11) fun v25 =>
  F.ob (nilck v25) fun v26 =>
  F.ob (fld 3 v26) fun v27 =>
  F.ob (rdd (.ld false 1 (.c v27)) [] h11) fun v28 =>
  F.ob (F.bin .gtr v24 v28) fun v29 =>
  F.ob (gd v29 false (some v6) (some nought)) fun v30 =>
  F.ob (gd v29 false (fld 3 v19) (some nought)) fun v31 =>
  F.ob (gd v29 false (rdd (.ld false 1 (.c v31)) [] h11) (some nought)) fun v32 =>
  F.ob (gd v29 false (F.bin .sub v30 v32) (some nought)) fun v33 =>
  F.ob (gd v29 false (rdd (.ld false 1 (.c v0)) [] h11) (some nought)) fun v34 =>
  F.ob (gd v29 false (nilck v34) (some nought)) fun v35 =>
  F.ob (gd v29 false (fld 3 v35) (some nought)) fun v36 =>
  F.ob (gd v29 false (rdd (.ld false 1 (.c v36)) [] h11) (some nought)) fun v37 =>
  F.ob (gd v29 false (F.bin .gtr v33 v37) (some nought)) fun v38 =>
  F.ob (pv (.pick (.c v29) (.c (.s (.bool true))) (.c v38))) fun v39 =>
  letJ (fun (p3 : Unit) h12 =>
  F.ob (F.bin .add p2 (.s (.int .i64 1))) fun v40 =>
  r2 v40 h12) fun j3 =>
  cnd v39 (
  F.ob (fld 0 v19) fun v41 =>
  F.ob (ld false 1 v41 h11) fun v42 =>
  F.ob (avn (.mupd false [.i] (.c a3) (.c v42) (.c (.s (.bool true)))) h11) fun h13 =>
  j3 () h13) (
  j3 () h11)) (
  j1 () h8)) (.s (.int .i64 0)) h6)) fun j0 =>
  fx (AV × AV) (fun (r4 : (AV × AV) → H → R) (p4 : AV × AV) h14 =>
  F.ob (F.bin .lss p4.2 v4) fun v43 =>
  cnd v43 (
  F.ob (idxa (.sl 4) v3 p4.2) fun v44 =>
  F.ob (ld true 4 v44 h14) fun v45 =>
  obh (mkv (.alloc 126 [(.int .i64 0), (.int .i64 0), (.int .i64 0), (.int .i64 0)]) h14) fun v46 h15 =>
  F.ob (st 4 v46 v45 h15) fun h16 =>
  F.ob (fld 3 v46) fun v47 =>
  F.ob (ld false 1 v47 h16) fun v48 =>
  obh (mkv (.bslice 2 1 1 [(.int .i64 0)] [(0, 1, .c v48)]) h16) fun v49 h17 =>
  obh (av (.app 2 1 8 (.c p4.1) (.c v49)) h17) fun v50 h18 =>
  F.ob (F.bin .add p4.2 (.s (.int .i64 1))) fun v51 =>
  r4 (v50, v51) h18) (
  j0 p4.1 h14)) ((.s (.sl .none 0 0 true 1)), (.s (.int .i64 0))) h3
theorem e132 : (fun (fx : Fx) (cl : Cl) (a0 a1 a2 a3 a4 : AV) (h0 : H) => denF fx cl d132 [a0, a1, a2, a3, a4] h0) = g132 := by kernel_rfl
def d60r0 : D := .reg false [⟨(.some 6), .mv (.c (.s (.sl .none 0 0 true 1))), .none, 0⟩] []
def d60r1 : D := .reg false [⟨(.some 13), .mv (.t 0), .none, 0⟩, ⟨(.some 14), .eqv .ptr false (.t 13) (.c (.s (.ptr .none))), .none, 0⟩] []
def d60r2 : D := .reg false [⟨(.some 6), .mv (.c (.s (.sl .none 0 0 true 1))), .none, 0⟩] []
def d60r3 : D := .reg false [⟨(.some 15), .mkmap, .none, 0⟩, ⟨(.some 16), .mkmap, .none, 0⟩, ⟨(.some 7), .mv (.t 15), .none, 0⟩, ⟨(.some 8), .mv (.t 16), .none, 0⟩] []
def d60r4 : D := .reg false [⟨(.some 17), .mv (.t 1), .none, 0⟩, ⟨(.some 18), .len (.sl 0) (.t 17), .none, 0⟩, ⟨(.some 19), .mv (.c (.s (.int .i64 0))), .none, 0⟩] []
def d60r5 : D := .reg false [⟨(.some 20), .bin .lss (.t 19) (.t 18), .none, 0⟩] []
def d60r6 : D := .reg false [⟨(.some 21), .idxa (.sl 1) (.t 17) (.t 19), .none, 0⟩, ⟨(.some 22), .ld false 1 (.t 21), .none, 0⟩, ⟨(.some 10), .mv (.t 22), .none, 0⟩] []
def d60r7 : D := .reg false [⟨(.some 23), .mv (.t 0), .none, 0⟩, ⟨(.some 24), .mv (.t 10), .none, 0⟩, ⟨(.some 25), .mv (.t 2), .none, 0⟩, ⟨(.some 26), .mv (.t 7), .none, 0⟩, ⟨(.some 27), .mv (.t 8), .none, 0⟩, ⟨(.some 28), .call 132 [(.t 23), (.t 24), (.t 25), (.t 26), (.t 27)], .none, 0⟩] []
def d60r8 : D := .reg false [⟨(.some 29), .bin .add (.t 19) (.c (.s (.int .i64 1))), .none, 0⟩, ⟨(.some 19), .mv (.t 29), .none, 0⟩] []
def d60r9 : D := .reg false [⟨(.some 11), .mv (.c (.s (.sl .none 0 0 true 1))), .none, 0⟩] []
def d60r10 : D := .reg false [⟨(.some 30), .mv (.t 0), .none, 0⟩, ⟨(.some 31), .nilck (.t 30), .none, 0⟩, ⟨(.some 32), .fld 0 (.t 31), .none, 0⟩, ⟨(.some 33), .ld false 1 (.t 32), .none, 0⟩, ⟨(.some 34), .len (.sl 0) (.t 33), .none, 0⟩, ⟨(.some 35), .mv (.c (.s (.int .i64 0))), .none, 0⟩] []
def d60r11 : D := .reg false [⟨(.some 36), .bin .lss (.t 35) (.t 34), .none, 0⟩] []
def d60r12 : D := .reg false [⟨(.some 37), .mv (.t 35), .none, 0⟩, ⟨(.some 12), .mv (.t 37), .none, 0⟩] []
def d60r13 : D := .reg true [⟨(.some 38), .mv (.t 0), .none, 0⟩, ⟨(.some 39), .mv (.t 0), .none, 0⟩, ⟨(.some 40), .nilck (.t 39), .none, 2⟩, ⟨(.some 41), .fld 0 (.t 40), .none, 6⟩, ⟨(.some 42), .ld false 1 (.t 41), .none, 14⟩, ⟨(.some 43), .mv (.t 12), .none, 0⟩, ⟨(.some 44), .idxa (.sl 3) (.t 42) (.t 43), .none, 62⟩, ⟨(.some 45), .mv (.t 7), .none, 0⟩, ⟨(.some 46), .mv (.t 12), .none, 0⟩, ⟨(.some 47), .lookup false [.i] (.bool false) (.t 45) (.t 46) false, .none, 384⟩, ⟨(.some 48), .mv (.t 8), .none, 0⟩, ⟨(.some 49), .mv (.t 12), .none, 0⟩, ⟨(.some 50), .lookup false [.i] (.bool false) (.t 48) (.t 49) false, .none, 3072⟩, ⟨(.some 51), .call 133 [(.t 38), (.t 44), (.t 47), (.t 50)], .none, 8191⟩] []
def d60r14 : D := .reg false [⟨(.some 52), .mv (.t 11), .none, 0⟩, ⟨(.some 53), .mv (.t 12), .none, 0⟩, ⟨(.some 54), .bslice 3 1 1 [(.int .i64 0)] [(0, 1, (.t 53))], .none, 0⟩, ⟨(.some 55), .app 3 1 8 (.t 52) (.t 54), .none, 0⟩, ⟨(.some 11), .mv (.t 55), .none, 0⟩] []
def d60r15 : D := .reg false [⟨(.some 56), .bin .add (.t 35) (.c (.s (.int .i64 1))), .none, 0⟩, ⟨(.some 35), .mv (.t 56), .none, 0⟩] []
def d60r16 : D := .reg false [⟨(.some 57), .mv (.t 11), .none, 0⟩, ⟨(.some 6), .mv (.t 57), .none, 0⟩] []
/-- (*quorumite/score.Score).Close -/
def d60 : Df := ⟨6, [.t 6], (.seq d60r0 (.seq (.seq d60r1 (.cond .none (.t 14) (.seq d60r2 .ret) .skip)) (.seq d60r3 (.seq (.seq d60r4 (.blk (.some []) 0 (.loop [19] (.seq d60r5 (.seq (.cond .none (.t 20) .skip (.exit 0)) (.seq (.blk .none 1 (.seq d60r6 d60r7)) d60r8)))))) (.seq d60r9 (.seq (.seq d60r10 (.blk (.some [11]) 2 (.loop [11, 35] (.seq d60r11 (.seq (.cond .none (.t 36) .skip (.exit 2)) (.seq (.blk .none 3 (.seq d60r12 (.seq d60r13 (.cond (.some [11]) (.t 51) d60r14 .skip)))) d60r15)))))) (.seq d60r16 .ret)))))))⟩
noncomputable def g60 (fx : Fx) (cl : Cl) (a0 a1 a2 : AV) (h0 : H) : R :=
  F.ob (pv (.eqv .ptr false (.c a0) (.c (.s (.ptr .none))))) fun v0 =>
  cnd v0 (
  out [(.s (.sl .none 0 0 true 1))] h0) (
  obh (mkv (.mkmap) h0) fun v1 h1 =>
  obh (mkv (.mkmap) h1) fun v2 h2 =>
  F.ob (pv (.len (.sl 0) (.c a1))) fun v3 =>
  letJ (fun (p0 : Unit) h3 =>
  F.ob (nilck a0) fun v4 =>
  F.ob (fld 0 v4) fun v5 =>
  F.ob (ld false 1 v5 h3) fun v6 =>
  F.ob (pv (.len (.sl 0) (.c v6))) fun v7 =>
  letJ (fun (p1 : AV) h4 =>
  out [p1] h4) fun j1 =>
  fx (AV × AV) (fun (r2 : (AV × AV) → H → R) (p2 : AV × AV) h5 =>
  F.ob (F.bin .lss p2.2 v7) fun v8 =>
  cnd v8 (
  F.ob (nilck a0) fun v9 =>
  F.ob (fld 0 v9) fun v10 =>
  F.ob (rdd (.ld false 1 (.c v10)) [] h5) fun v11 =>
  F.ob (idxa (.sl 3) v11 p2.2) fun v12 =>
  F.ob (rdd (.lookup false [.i] (.bool false) (.c v1) (.c p2.2) false) [] h5) fun v13 =>
  F.ob (rdd (.lookup false [.i] (.bool false) (.c v2) (.c p2.2) false) [] h5) fun v14 =>
  obh (cl 133 [a0, v12, v13, v14] h5) fun v15 h6 =>
  letJ (fun (p3 : AV) h7 =>
  F.ob (F.bin .add p2.2 (.s (.int .i64 1))) fun v16 =>
  r2 (p3, v16) h7) fun j3 =>
  cnd v15 (
  obh (mkv (.bslice 3 1 1 [(.int .i64 0)] [(0, 1, .c p2.2)]) h6) fun v17 h8 =>
  obh (av (.app 3 1 8 (.c p2.1) (.c v17)) h8) fun v18 h9 =>
  j3 v18 h9) (
  j3 p2.1 h6)) (
  j1 p2.1 h5)) ((.s (.sl .none 0 0 true 1)), (.s (.int .i64 0))) h3) fun j0 =>
  fx AV (fun (r4 : AV → H → R) (p4 : AV) h10 =>
  F.ob (F.bin .lss p4 v3) fun v19 =>
  cnd v19 (
  F.ob (idxa (.sl 1) a1 p4) fun v20 =>
  F.ob (ld false 1 v20 h10) fun v21 =>
  obh (cl 132 [a0, v21, a2, v1, v2] h10) fun v22 h11 =>
  F.ob (F.bin .add p4 (.s (.int .i64 1))) fun v23 =>
  r4 v23 h11) (
  j0 () h10)) (.s (.int .i64 0)) h2)
theorem e60 : (fun (fx : Fx) (cl : Cl) (a0 a1 a2 : AV) (h0 : H) => denF fx cl d60 [a0, a1, a2] h0) = g60 := by kernel_rfl
def d213r0 : D := .reg false [⟨(.some 4), .mv (.c (.s (.int .i64 0))), .none, 0⟩] []
def d213r1 : D := .reg false [⟨(.some 5), .mv (.t 0), .none, 0⟩, ⟨(.some 6), .eqv .ptr false (.t 5) (.c (.s (.ptr .none))), .none, 0⟩, ⟨(.some 7), .mv (.t 6), .none, 0⟩, ⟨(.some 8), .mv (.t 1), (.some (7, false)), 0⟩, ⟨(.some 9), .mv (.t 0), (.some (7, false)), 0⟩, ⟨(.some 10), .nilck (.t 9), (.some (7, false)), 0⟩, ⟨(.some 11), .fld 0 (.t 10), (.some (7, false)), 0⟩, ⟨(.some 12), .fld 12 (.t 11), (.some (7, false)), 0⟩, ⟨(.some 13), .ld false 1 (.t 12), (.some (7, false)), 0⟩, ⟨(.some 14), .bin .lss (.t 8) (.t 13), (.some (7, false)), 0⟩, ⟨(.some 15), .pick (.t 7) (.c (.s (.bool true))) (.t 14), .none, 0⟩, ⟨(.some 16), .mv (.t 15), .none, 0⟩, ⟨(.some 17), .mv (.t 1), (.some (16, false)), 0⟩, ⟨(.some 18), .mv (.t 0), (.some (16, false)), 0⟩, ⟨(.some 19), .nilck (.t 18), (.some (16, false)), 0⟩, ⟨(.some 20), .fld 0 (.t 19), (.some (16, false)), 0⟩, ⟨(.some 21), .fld 13 (.t 20), (.some (16, false)), 0⟩, ⟨(.some 22), .ld false 1 (.t 21), (.some (16, false)), 0⟩, ⟨(.some 23), .bin .gtr (.t 17) (.t 22), (.some (16, false)), 0⟩, ⟨(.some 24), .pick (.t 16) (.c (.s (.bool true))) (.t 23), .none, 0⟩] []
def d213r2 : D := .reg false [⟨(.some 4), .mv (.c (.s (.int .i64 1))), .none, 0⟩] []
def d213r3 : D := .reg false [⟨(.some 25), .mv (.t 0), .none, 0⟩, ⟨(.some 26), .mv (.t 0), .none, 0⟩, ⟨(.some 27), .nilck (.t 26), .none, 0⟩, ⟨(.some 28), .fld 26 (.t 27), .none, 0⟩, ⟨(.some 29), .ld false 1 (.t 28), .none, 0⟩, ⟨(.some 30), .mv (.t 1), .none, 0⟩, ⟨(.some 31), .bslice 3 1 1 [(.int .i64 0)] [(0, 1, (.t 30))], .none, 0⟩, ⟨(.some 32), .app 3 1 8 (.t 29) (.t 31), .none, 0⟩, ⟨(.some 33), .nilck (.t 25), .none, 0⟩, ⟨(.some 34), .fld 26 (.t 33), .none, 0⟩, ⟨.none, .st 1 (.t 34) (.t 32), .none, 0⟩] []
def d213r4 : D := .reg true [⟨(.some 35), .mv (.t 0), .none, 0⟩, ⟨(.some 36), .mv (.t 0), .none, 0⟩, ⟨(.some 37), .nilck (.t 36), .none, 2⟩, ⟨(.some 38), .fld 26 (.t 37), .none, 6⟩, ⟨(.some 39), .ld false 1 (.t 38), .none, 14⟩, ⟨(.some 40), .mv (.t 0), .none, 0⟩, ⟨(.some 41), .nilck (.t 40), .none, 32⟩, ⟨(.some 42), .fld 26 (.t 41), .none, 96⟩, ⟨(.some 43), .ld false 1 (.t 42), .none, 224⟩, ⟨(.some 44), .len (.sl 0) (.t 43), .none, 480⟩, ⟨(.some 45), .mv (.t 0), .none, 0⟩, ⟨(.some 46), .nilck (.t 45), .none, 1024⟩, ⟨(.some 47), .fld 0 (.t 46), .none, 3072⟩, ⟨(.some 48), .fld 20 (.t 47), .none, 7168⟩, ⟨(.some 49), .ld false 1 (.t 48), .none, 15360⟩, ⟨(.some 50), .bin .sub (.t 44) (.t 49), .none, 32736⟩, ⟨(.some 51), .mx [(.t 50), (.c (.s (.int .i64 0)))], .none, 65504⟩, ⟨(.some 52), .slc (.sl 1) (.t 39) (.some (.t 51)) .none .none, .none, 131070⟩, ⟨(.some 53), .call 191 [(.t 52)], .none, 262142⟩, ⟨(.some 54), .nilck (.t 35), .none, 524287⟩, ⟨(.some 55), .fld 26 (.t 54), .none, 1048575⟩, ⟨.none, .st 1 (.t 55) (.t 53), .none, 2097151⟩] []
def d213r5 : D := .reg false [⟨(.some 4), .mv (.c (.s (.int .i64 0))), .none, 0⟩] []
/-- (*quorumite/policy.Policy).Put -/
def d213 : Df := ⟨6, [.t 4], (.seq d213r0 (.seq (.seq d213r1 (.cond .none (.t 24) (.seq d213r2 .ret) .skip)) (.seq d213r3 (.seq d213r4 (.seq d213r5 .ret)))))⟩
noncomputable def g213 (fx : Fx) (cl : Cl) (a0 a1 : AV) (h0 : H) : R :=
  F.ob (pv (.eqv .ptr false (.c a0) (.c (.s (.ptr .none))))) fun v0 =>
  F.ob (gd v0 false (some a1) (some nought)) fun v1 =>
  F.ob (gd v0 false (some a0) (some nought)) fun v2 =>
  F.ob (gd v0 false (nilck v2) (some nought)) fun v3 =>
  F.ob (gd v0 false (fld 0 v3) (some nought)) fun v4 =>
  F.ob (gd v0 false (fld 12 v4) (some nought)) fun v5 =>
  F.ob (gd v0 false (ld false 1 v5 h0) (some nought)) fun v6 =>
  F.ob (gd v0 false (F.bin .lss v1 v6) (some nought)) fun v7 =>
  F.ob (pv (.pick (.c v0) (.c (.s (.bool true))) (.c v7))) fun v8 =>
  F.ob (gd v8 false (some a1) (some nought)) fun v9 =>
  F.ob (gd v8 false (some a0) (some nought)) fun v10 =>
  F.ob (gd v8 false (nilck v10) (some nought)) fun v11 =>
  F.ob (gd v8 false (fld 0 v11) (some nought)) fun v12 =>
  F.ob (gd v8 false (fld 13 v12) (some nought)) fun v13 =>
  F.ob (gd v8 false (ld false 1 v13 h0) (some nought)) fun v14 =>
  F.ob (gd v8 false (F.bin .gtr v9 v14) (some nought)) fun v15 =>
  F.ob (pv (.pick (.c v8) (.c (.s (.bool true))) (.c v15))) fun v16 =>
  cnd v16 (
  out [(.s (.int .i64 1))] h0) (
  F.ob (nilck a0) fun v17 =>
  F.ob (fld 26 v17) fun v18 =>
  F.ob (ld false 1 v18 h0) fun v19 =>
  obh (mkv (.bslice 3 1 1 [(.int .i64 0)] [(0, 1, .c a1)]) h0) fun v20 h1 =>
  obh (av (.app 3 1 8 (.c v19) (.c v20)) h1) fun v21 h2 =>
  F.ob (nilck a0) fun v22 =>
  F.ob (fld 26 v22) fun v23 =>
  F.ob (st 1 v23 v21 h2) fun h3 =>
  F.ob (nilck a0) fun v24 =>
  F.ob (fld 26 v24) fun v25 =>
  F.ob (rdd (.ld false 1 (.c v25)) [] h3) fun v26 =>
  F.ob (nilck a0) fun v27 =>
  F.ob (fld 26 v27) fun v28 =>
  F.ob (rdd (.ld false 1 (.c v28)) [] h3) fun v29 =>
  F.ob (pv (.len (.sl 0) (.c v29))) fun v30 =>
  F.ob (nilck a0) fun v31 =>
  F.ob (fld 0 v31) fun v32 =>
  F.ob (fld 20 v32) fun v33 =>
  F.ob (rdd (.ld false 1 (.c v33)) [] h3) fun v34 =>
  F.ob (F.bin .sub v30 v34) fun v35 =>
  F.ob (pv (.mx [.c v35, .c (.s (.int .i64 0))])) fun v36 =>
  F.ob (pv (.slc (.sl 1) (.c v26) (.some (.c v36)) .none .none)) fun v37 =>
  obh (cl 191 [v37] h3) fun v38 h4 =>
  F.ob (nilck a0) fun v39 =>
  F.ob (fld 26 v39) fun v40 =>
  F.ob (st 1 v40 v38 h4) fun h5 =>
  out [(.s (.int .i64 0))] h5)
theorem e213 : (fun (fx : Fx) (cl : Cl) (a0 a1 : AV) (h0 : H) => denF fx cl d213 [a0, a1] h0) = g213 := by kernel_rfl
def d130r0 : D := .reg false [⟨(.some 2), .mv (.c (.s (.int .i64 0))), .none, 0⟩] []
def d130r1 : D := .reg false [⟨(.some 3), .mv (.t 0), .none, 0⟩, ⟨(.some 4), .eqv .ptr false (.t 3) (.c (.s (.ptr .none))), .none, 0⟩] []
def d130r2 : D := .reg false [⟨(.some 2), .mv (.c (.s (.int .i64 0))), .none, 0⟩] []
def d130r3 : D := .reg false [⟨(.some 5), .mv (.t 0), .none, 0⟩, ⟨(.some 6), .nilck (.t 5), .none, 0⟩, ⟨(.some 7), .fld 29 (.t 6), .none, 0⟩, ⟨(.some 8), .call 72 [(.t 7), (.c (.s (.int .i64 1)))], .none, 0⟩] []
def d130r4 : D := .reg true [⟨(.some 9), .mv (.t 0), .none, 0⟩, ⟨(.some 10), .nilck (.t 9), .none, 1⟩, ⟨(.some 11), .fld 28 (.t 10), .none, 3⟩, ⟨(.some 12), .ld false 1 (.t 11), .none, 7⟩, ⟨(.some 13), .mv (.t 0), .none, 0⟩, ⟨(.some 14), .nilck (.t 13), .none, 16⟩, ⟨(.some 15), .fld 26 (.t 14), .none, 48⟩, ⟨(.some 16), .ld false 1 (.t 15), .none, 112⟩, ⟨(.some 17), .call 213 [(.t 12), (.t 16)], .none, 255⟩] []
def d130r5 : D := .reg false [⟨(.some 18), .mv (.t 0), .none, 0⟩, ⟨(.some 19), .nilck (.t 18), .none, 0⟩, ⟨(.some 20), .fld 26 (.t 19), .none, 0⟩, ⟨(.some 21), .ld false 1 (.t 20), .none, 0⟩, ⟨(.some 2), .mv (.t 21), .none, 0⟩] []
/-- (*quorumite/law.Law).Hold -/
def d130 : Df := ⟨5, [.t 2], (.seq d130r0 (.seq (.seq d130r1 (.cond .none (.t 4) (.seq d130r2 .ret) .skip)) (.seq d130r3 (.seq d130r4 (.seq d130r5 .ret)))))⟩
noncomputable def g130 (fx : Fx) (cl : Cl) (a0 : AV) (h0 : H) : R :=
  F.ob (pv (.eqv .ptr false (.c a0) (.c (.s (.ptr .none))))) fun v0 =>
  cnd v0 (
  out [(.s (.int .i64 0))] h0) (
  F.ob (nilck a0) fun v1 =>
  F.ob (fld 29 v1) fun v2 =>
  obh (cl 72 [v2, (.s (.int .i64 1))] h0) fun v3 h1 =>
  F.ob (nilck a0) fun v4 =>
  F.ob (fld 28 v4) fun v5 =>
  F.ob (rdd (.ld false 1 (.c v5)) [] h1) fun v6 =>
  F.ob (nilck a0) fun v7 =>
  F.ob (fld 26 v7) fun v8 =>
  F.ob (rdd (.ld false 1 (.c v8)) [] h1) fun v9 =>
  obh (cl 213 [v6, v9] h1) fun v10 h2 =>
  F.ob (nilck a0) fun v11 =>
  F.ob (fld 26 v11) fun v12 =>
  F.ob (ld false 1 v12 h2) fun v13 =>
  out [v13] h2)
theorem e130 : (fun (fx : Fx) (cl : Cl) (a0 : AV) (h0 : H) => denF fx cl d130 [a0] h0) = g130 := by kernel_rfl
def d291r0 : D := .reg false [⟨(.some 2), .mv (.c (.s (.bool false))), .none, 0⟩] []
def d291r1 : D := .reg false [⟨(.some 6), .mv (.t 0), .none, 0⟩, ⟨(.some 7), .len (.sl 0) (.t 6), .none, 0⟩, ⟨(.some 8), .bin .leq (.t 7) (.c (.s (.int .i64 1000))), .none, 0⟩, ⟨(.some 3), .mv (.t 8), .none, 0⟩] []
def d291r2 : D := .reg false [⟨(.some 9), .mv (.t 0), .none, 0⟩, ⟨(.some 10), .len (.sl 0) (.t 9), .none, 0⟩, ⟨(.some 11), .mv (.c (.s (.int .i64 0))), .none, 0⟩] []
def d291r3 : D := .reg false [⟨(.some 12), .bin .lss (.t 11) (.t 10), .none, 0⟩] []
def d291r4 : D := .reg false [⟨(.some 13), .idxa (.sl 1) (.t 9) (.t 11), .none, 0⟩, ⟨(.some 14), .ld false 1 (.t 13), .none, 0⟩, ⟨(.some 5), .mv (.t 14), .none, 0⟩] []
def d291r5 : D := .reg false [⟨(.some 15), .mv (.t 3), .none, 0⟩, ⟨(.some 16), .mv (.t 15), .none, 0⟩, ⟨(.some 17), .mv (.t 5), (.some (16, true)), 0⟩, ⟨(.some 18), .bin .geq (.t 17) (.c (.s (.int .i64 0))), (.some (16, true)), 0⟩, ⟨(.some 19), .pick (.t 16) (.t 18) (.c (.s (.bool false))), .none, 0⟩, ⟨(.some 20), .mv (.t 19), .none, 0⟩, ⟨(.some 21), .mv (.t 5), (.some (20, true)), 0⟩, ⟨(.some 22), .bin .leq (.t 21) (.c (.s (.int .i64 1099511627776))), (.some (20, true)), 0⟩, ⟨(.some 23), .pick (.t 20) (.t 22) (.c (.s (.bool false))), .none, 0⟩, ⟨(.some 3), .mv (.t 23), .none, 0⟩] []
def d291r6 : D := .reg false [⟨(.some 24), .bin .add (.t 11) (.c (.s (.int .i64 1))), .none, 0⟩, ⟨(.some 11), .mv (.t 24), .none, 0⟩] []
def d291r7 : D := .reg false [⟨(.some 25), .mv (.t 3), .none, 0⟩, ⟨(.some 2), .mv (.t 25), .none, 0⟩] []
/-- quorumite/trim.may -/
def d291 : Df := ⟨5, [.t 2], (.seq d291r0 (.seq d291r1 (.seq (.seq d291r2 (.blk (.some [3]) 0 (.loop [3, 11] (.seq d291r3 (.seq (.cond .none (.t 12) .skip (.exit 0)) (.seq (.blk .none 1 (.seq d291r4 d291r5)) d291r6)))))) (.seq d291r7 .ret))))⟩
noncomputable def g291 (fx : Fx) (cl : Cl) (a0 : AV) (h0 : H) : R :=
  F.ob (pv (.len (.sl 0) (.c a0))) fun v0 =>
  F.ob (F.bin .leq v0 (.s (.int .i64 1000))) fun v1 =>
  F.ob (pv (.len (.sl 0) (.c a0))) fun v2 =>
  letJ (fun (p0 : AV) h1 =>
  out [p0] h1) fun j0 =>
  fx (AV × AV) (fun (r1 : (AV × AV) → H → R) (p1 : AV × AV) h2 =>
  F.ob (F.bin .lss p1.2 v2) fun v3 =>
  cnd v3 (
  F.ob (idxa (.sl 1) a0 p1.2) fun v4 =>
  F.ob (ld false 1 v4 h2) fun v5 =>
  F.ob (gd p1.1 true (some v5) (some nought)) fun v6 =>
  F.ob (gd p1.1 true (F.bin .geq v6 (.s (.int .i64 0))) (some nought)) fun v7 =>
  F.ob (pv (.pick (.c p1.1) (.c v7) (.c (.s (.bool false))))) fun v8 =>
  F.ob (gd v8 true (some v5) (some nought)) fun v9 =>
  F.ob (gd v8 true (F.bin .leq v9 (.s (.int .i64 1099511627776))) (some nought)) fun v10 =>
  F.ob (pv (.pick (.c v8) (.c v10) (.c (.s (.bool false))))) fun v11 =>
  F.ob (F.bin .add p1.2 (.s (.int .i64 1))) fun v12 =>
  r1 (v11, v12) h2) (
  j0 p1.1 h2)) (v1, (.s (.int .i64 0))) h0
theorem e291 : (fun (fx : Fx) (cl : Cl) (a0 : AV) (h0 : H) => denF fx cl d291 [a0] h0) = g291 := by kernel_rfl
def d210r0 : D := .reg false [⟨(.some 4), .mv (.c (.s (.sl .none 0 0 true 1))), .none, 0⟩] []
def d210r1 : D := .reg false [⟨(.some 5), .mv (.t 0), .none, 0⟩, ⟨(.some 6), .call 291 [(.t 5)], .none, 0⟩, ⟨(.some 7), .un .not (.t 6), .none, 0⟩, ⟨(.some 8), .mv (.t 7), .none, 0⟩, ⟨(.some 9), .mv (.t 1), (.some (8, false)), 0⟩, ⟨(.some 10), .bin .lss (.t 9) (.c (.s (.int .i64 0))), (.some (8, false)), 0⟩, ⟨(.some 11), .pick (.t 8) (.c (.s (.bool true))) (.t 10), .none, 0⟩, ⟨(.some 12), .mv (.t 11), .none, 0⟩, ⟨(.some 13), .mv (.t 1), (.some (12, false)), 0⟩, ⟨(.some 14), .mv (.t 0), (.some (12, false)), 0⟩, ⟨(.some 15), .len (.sl 0) (.t 14), (.some (12, false)), 0⟩, ⟨(.some 16), .bin .gtr (.t 13) (.t 15), (.some (12, false)), 0⟩, ⟨(.some 17), .pick (.t 12) (.c (.s (.bool true))) (.t 16), .none, 0⟩, ⟨(.some 18), .mv (.t 17), .none, 0⟩, ⟨(.some 19), .mv (.t 1), (.some (18, false)), 0⟩, ⟨(.some 20), .bin .mul (.c (.s (.int .i64 2))) (.t 19), (.some (18, false)), 0⟩, ⟨(.some 21), .mv (.t 0), (.some (18, false)), 0⟩, ⟨(.some 22), .len (.sl 0) (.t 21), (.some (18, false)), 0⟩, ⟨(.some 23), .bin .geq (.t 20) (.t 22), (.some (18, false)), 0⟩, ⟨(.some 24), .pick (.t 18) (.c (.s (.bool true))) (.t 23), .none, 0⟩] []
def d210r2 : D := .reg false [⟨(.some 4), .mv (.c (.s (.sl .none 0 0 true 1))), .none, 0⟩] []
def d210r3 : D := .reg false [⟨(.some 25), .mv (.t 0), .none, 0⟩, ⟨(.some 26), .call 292 [(.t 25)], .none, 0⟩, ⟨(.some 27), .mv (.t 1), .none, 0⟩, ⟨(.some 28), .mv (.t 0), .none, 0⟩, ⟨(.some 29), .len (.sl 0) (.t 28), .none, 0⟩, ⟨(.some 30), .mv (.t 1), .none, 0⟩, ⟨(.some 31), .bin .sub (.t 29) (.t 30), .none, 0⟩, ⟨(.some 32), .slc (.sl 1) (.t 26) (.some (.t 27)) (.some (.t 31)) .none, .none, 0⟩, ⟨(.some 4), .mv (.t 32), .none, 0⟩] []
/-- quorumite/trim.rest -/
def d210 : Df := ⟨6, [.t 4], (.seq d210r0 (.seq (.seq d210r1 (.cond .none (.t 24) (.seq d210r2 .ret) .skip)) (.seq d210r3 .ret)))⟩
noncomputable def g210 (fx : Fx) (cl : Cl) (a0 a1 : AV) (h0 : H) : R :=
  obh (cl 291 [a0] h0) fun v0 h1 =>
  F.ob (pv (.un .not (.c v0))) fun v1 =>
  F.ob (gd v1 false (some a1) (some nought)) fun v2 =>
  F.ob (gd v1 false (F.bin .lss v2 (.s (.int .i64 0))) (some nought)) fun v3 =>
  F.ob (pv (.pick (.c v1) (.c (.s (.bool true))) (.c v3))) fun v4 =>
  F.ob (gd v4 false (some a1) (some nought)) fun v5 =>
  F.ob (gd v4 false (some a0) (some nought)) fun v6 =>
  F.ob (gd v4 false (pv (.len (.sl 0) (.c v6))) (some nought)) fun v7 =>
  F.ob (gd v4 false (F.bin .gtr v5 v7) (some nought)) fun v8 =>
  F.ob (pv (.pick (.c v4) (.c (.s (.bool true))) (.c v8))) fun v9 =>
  F.ob (gd v9 false (some a1) (some nought)) fun v10 =>
  F.ob (gd v9 false (F.bin .mul (.s (.int .i64 2)) v10) (some nought)) fun v11 =>
  F.ob (gd v9 false (some a0) (some nought)) fun v12 =>
  F.ob (gd v9 false (pv (.len (.sl 0) (.c v12))) (some nought)) fun v13 =>
  F.ob (gd v9 false (F.bin .geq v11 v13) (some nought)) fun v14 =>
  F.ob (pv (.pick (.c v9) (.c (.s (.bool true))) (.c v14))) fun v15 =>
  cnd v15 (
  out [(.s (.sl .none 0 0 true 1))] h1) (
  obh (cl 292 [a0] h1) fun v16 h2 =>
  F.ob (pv (.len (.sl 0) (.c a0))) fun v17 =>
  F.ob (F.bin .sub v17 a1) fun v18 =>
  F.ob (pv (.slc (.sl 1) (.c v16) (.some (.c a1)) (.some (.c v18)) .none)) fun v19 =>
  out [v19] h2)
theorem e210 : (fun (fx : Fx) (cl : Cl) (a0 a1 : AV) (h0 : H) => denF fx cl d210 [a0, a1] h0) = g210 := by kernel_rfl
def d128r0 : D := .reg false [⟨(.some 4), .mv (.c (.s (.int .i64 0))), .none, 0⟩, ⟨(.some 5), .mv (.c (.s (.bool false))), .none, 0⟩] []
def d128r1 : D := .reg false [⟨(.some 10), .mv (.t 0), .none, 0⟩, ⟨(.some 11), .mv (.t 1), .none, 0⟩, ⟨(.some 12), .call 210 [(.t 10), (.t 11)], .none, 0⟩, ⟨(.some 6), .mv (.t 12), .none, 0⟩] []
def d128r2 : D := .reg false [⟨(.some 13), .mv (.t 6), .none, 0⟩, ⟨(.some 14), .len (.sl 0) (.t 13), .none, 0⟩, ⟨(.some 15), .bin .eql (.t 14) (.c (.s (.int .i64 0))), .none, 0⟩] []
def d128r3 : D := .reg false [⟨(.some 4), .mv (.c (.s (.int .i64 0))), .none, 0⟩, ⟨(.some 5), .mv (.c (.s (.bool false))), .none, 0⟩] []
def d128r4 : D := .reg false [⟨(.some 7), .mv (.c (.s (.int .i64 0))), .none, 0⟩] []
def d128r5 : D := .reg false [⟨(.some 16), .mv (.t 6), .none, 0⟩, ⟨(.some 17), .len (.sl 0) (.t 16), .none, 0⟩, ⟨(.some 18), .mv (.c (.s (.int .i64 0))), .none, 0⟩] []
def d128r6 : D := .reg false [⟨(.some 19), .bin .lss (.t 18) (.t 17), .none, 0⟩] []
def d128r7 : D := .reg false [⟨(.some 20), .idxa (.sl 1) (.t 16) (.t 18), .none, 0⟩, ⟨(.some 21), .ld false 1 (.t 20), .none, 0⟩, ⟨(.some 9), .mv (.t 21), .none, 0⟩] []
def d128r8 : D := .reg false [⟨(.some 22), .mv (.t 7), .none, 0⟩, ⟨(.some 23), .mv (.t 9), .none, 0⟩, ⟨(.some 24), .bin .add (.t 22) (.t 23), .none, 0⟩, ⟨(.some 7), .mv (.t 24), .none, 0⟩] []
def d128r9 : D := .reg false [⟨(.some 25), .bin .add (.t 18) (.c (.s (.int .i64 1))), .none, 0⟩, ⟨(.some 18), .mv (.t 25), .none, 0⟩] []
def d128r10 : D := .reg false [⟨(.some 26), .mv (.t 7), .none, 0⟩, ⟨(.some 27), .mv (.t 6), .none, 0⟩, ⟨(.some 28), .len (.sl 0) (.t 27), .none, 0⟩, ⟨(.some 29), .bin .quo (.t 26) (.t 28), .none, 0⟩, ⟨(.some 4), .mv (.t 29), .none, 0⟩, ⟨(.some 5), .mv (.c (.s (.bool true))), .none, 0⟩] []
/-- quorumite/trim.Mean -/
def d128 : Df := ⟨5, [.t 4, .t 5], (.seq d128r0 (.seq d128r1 (.seq (.seq d128r2 (.cond .none (.t 15) (.seq d128r3 .ret) .skip)) (.seq d128r4 (.seq (.seq d128r5 (.blk (.some [7]) 0 (.loop [7, 18] (.seq d128r6 (.seq (.cond .none (.t 19) .skip (.exit 0)) (.seq (.blk .none 1 (.seq d128r7 d128r8)) d128r9)))))) (.seq d128r10 .ret))))))⟩
noncomputable def g128 (fx : Fx) (cl : Cl) (a0 a1 : AV) (h0 : H) : R :=
  obh (cl 210 [a0, a1] h0) fun v0 h1 =>
  F.ob (pv (.len (.sl 0) (.c v0))) fun v1 =>
  F.ob (F.bin .eql v1 (.s (.int .i64 0))) fun v2 =>
  cnd v2 (
  out [(.s (.int .i64 0)), (.s (.bool false))] h1) (
  F.ob (pv (.len (.sl 0) (.c v0))) fun v3 =>
  letJ (fun (p0 : AV) h2 =>
  F.ob (pv (.len (.sl 0) (.c v0))) fun v4 =>
  F.ob (F.bin .quo p0 v4) fun v5 =>
  out [v5, (.s (.bool true))] h2) fun j0 =>
  fx (AV × AV) (fun (r1 : (AV × AV) → H → R) (p1 : AV × AV) h3 =>
  F.ob (F.bin .lss p1.2 v3) fun v6 =>
  cnd v6 (
  F.ob (idxa (.sl 1) v0 p1.2) fun v7 =>
  F.ob (ld false 1 v7 h3) fun v8 =>
  F.ob (F.bin .add p1.1 v8) fun v9 =>
  F.ob (F.bin .add p1.2 (.s (.int .i64 1))) fun v10 =>
  r1 (v9, v10) h3) (
  j0 p1.1 h3)) ((.s (.int .i64 0)), (.s (.int .i64 0))) h1)
theorem e128 : (fun (fx : Fx) (cl : Cl) (a0 a1 : AV) (h0 : H) => denF fx cl d128 [a0, a1] h0) = g128 := by kernel_rfl
def d204r0 : D := .reg false [⟨(.some 4), .mv (.c (.s (.sl .none 0 0 true 1))), .none, 0⟩, ⟨(.some 5), .mv (.c (.s (.bool false))), .none, 0⟩] []
def d204r1 : D := .reg false [⟨(.some 6), .mv (.c (.s (.sl .none 0 0 true 1))), .none, 0⟩] []
def d204r2 : D := .reg false [⟨(.some 14), .mv (.t 1), .none, 0⟩, ⟨(.some 15), .len (.sl 0) (.t 14), .none, 0⟩, ⟨(.some 16), .mv (.c (.s (.int .i64 0))), .none, 0⟩] []
def d204r3 : D := .reg false [⟨(.some 17), .bin .lss (.t 16) (.t 15), .none, 0⟩] []
def d204r4 : D := .reg false [⟨(.some 18), .idxa (.sl 1) (.t 14) (.t 16), .none, 0⟩, ⟨(.some 19), .ld false 1 (.t 18), .none, 0⟩, ⟨(.some 8), .mv (.t 19), .none, 0⟩] []
def d204r5 : D := .reg false [⟨(.some 9), .mv (.c (.s (.sl .none 0 0 true 1))), .none, 0⟩] []
def d204r6 : D := .reg false [⟨(.some 20), .mv (.t 8), .none, 0⟩, ⟨(.some 21), .len (.sl 0) (.t 20), .none, 0⟩, ⟨(.some 22), .mv (.c (.s (.int .i64 0))), .none, 0⟩] []
def d204r7 : D := .reg false [⟨(.some 23), .bin .lss (.t 22) (.t 21), .none, 0⟩] []
def d204r8 : D := .reg false [⟨(.some 24), .idxa (.sl 4) (.t 20) (.t 22), .none, 0⟩, ⟨(.some 25), .ld true 4 (.t 24), .none, 0⟩, ⟨(.some 11), .alloc 126 [(.int .i64 0), (.int .i64 0), (.int .i64 0), (.int .i64 0)], .none, 0⟩, ⟨.none, .st 4 (.t 11) (.t 25), .none, 0⟩] []
def d204r9 : D := .reg false [⟨(.some 26), .mv (.t 9), .none, 0⟩, ⟨(.some 27), .fld 3 (.t 11), .none, 0⟩, ⟨(.some 28), .ld false 1 (.t 27), .none, 0⟩, ⟨(.some 29), .bslice 2 1 1 [(.int .i64 0)] [(0, 1, (.t 28))], .none, 0⟩, ⟨(.some 30), .app 2 1 8 (.t 26) (.t 29), .none, 0⟩, ⟨(.some 9), .mv (.t 30), .none, 0⟩] []
def d204r10 : D := .reg false [⟨(.some 31), .bin .add (.t 22) (.c (.s (.int .i64 1))), .none, 0⟩, ⟨(.some 22), .mv (.t 31), .none, 0⟩] []
def d204r11 : D := .reg false [⟨(.some 33), .mv (.t 9), .none, 0⟩, ⟨(.some 34), .mv (.t 0), .none, 0⟩, ⟨(.some 35), .nilck (.t 34), .none, 0⟩, ⟨(.some 36), .fld 0 (.t 35), .none, 0⟩, ⟨(.some 37), .fld 1 (.t 36), .none, 0⟩, ⟨(.some 38), .ld false 1 (.t 37), .none, 0⟩, ⟨(.some 39), .call 128 [(.t 33), (.t 38)], .none, 0⟩, ⟨(.some 32), .mv (.t 39), .none, 0⟩, ⟨(.some 40), .ext (.t 32) 0, .none, 0⟩, ⟨(.some 41), .ext (.t 32) 1, .none, 0⟩, ⟨(.some 12), .mv (.t 40), .none, 0⟩, ⟨(.some 13), .mv (.t 41), .none, 0⟩] []
def d204r12 : D := .reg false [⟨(.some 42), .mv (.t 13), .none, 0⟩, ⟨(.some 43), .un .not (.t 42), .none, 0⟩, ⟨(.some 44), .mv (.t 43), .none, 0⟩, ⟨(.some 45), .mv (.t 9), (.some (44, false)), 0⟩, ⟨(.some 46), .len (.sl 0) (.t 45), (.some (44, false)), 0⟩, ⟨(.some 47), .mv (.t 0), (.some (44, false)), 0⟩, ⟨(.some 48), .nilck (.t 47), (.some (44, false)), 0⟩, ⟨(.some 49), .fld 0 (.t 48), (.some (44, false)), 0⟩, ⟨(.some 50), .fld 3 (.t 49), (.some (44, false)), 0⟩, ⟨(.some 51), .ld false 1 (.t 50), (.some (44, false)), 0⟩, ⟨(.some 52), .call 219 [(.t 46), (.t 51)], (.some (44, false)), 0⟩, ⟨(.some 53), .un .not (.t 52), (.some (44, false)), 0⟩, ⟨(.some 54), .pick (.t 44) (.c (.s (.bool true))) (.t 53), .none, 0⟩] []
def d204r13 : D := .reg false [⟨(.some 4), .mv (.c (.s (.sl .none 0 0 true 1))), .none, 0⟩, ⟨(.some 5), .mv (.c (.s (.bool false))), .none, 0⟩] []
def d204r14 : D := .reg false [⟨(.some 55), .mv (.t 6), .none, 0⟩, ⟨(.some 56), .mv (.t 12), .none, 0⟩, ⟨(.some 57), .bslice 2 1 1 [(.int .i64 0)] [(0, 1, (.t 56))], .none, 0⟩, ⟨(.some 58), .app 2 1 8 (.t 55) (.t 57), .none, 0⟩, ⟨(.some 6), .mv (.t 58), .none, 0⟩] []
def d204r15 : D := .reg false [⟨(.some 59), .bin .add (.t 16) (.c (.s (.int .i64 1))), .none, 0⟩, ⟨(.some 16), .mv (.t 59), .none, 0⟩] []
def d204r16 : D := .reg false [⟨(.some 60), .mv (.t 6), .none, 0⟩, ⟨(.some 4), .mv (.t 60), .none, 0⟩, ⟨(.some 5), .mv (.c (.s (.bool true))), .none, 0⟩] []
/-- (*quorumite/state.State).values -/
def d204 : Df := ⟨6, [.t 4, .t 5], (.seq d204r0 (.seq d204r1 (.seq (.seq d204r2 (.blk (.some [6]) 0 (.loop [6, 16] (.seq d204r3 (.seq (.cond .none (.t 17) .skip (.exit 0)) (.seq (.blk (.some [6]) 1 (.seq d204r4 (.seq d204r5 (.seq (.seq d204r6 (.blk (.some [9]) 2 (.loop [9, 22] (.seq d204r7 (.seq (.cond .none (.t 23) .skip (.exit 2)) (.seq (.blk .none 3 (.seq d204r8 d204r9)) d204r10)))))) (.seq d204r11 (.seq (.seq d204r12 (.cond .none (.t 54) (.seq d204r13 .ret) .skip)) d204r14)))))) d204r15)))))) (.seq d204r16 .ret))))⟩
noncomputable def g204 (fx : Fx) (cl : Cl) (a0 a1 : AV) (h0 : H) : R :=
  F.ob (pv (.len (.sl 0) (.c a1))) fun v0 =>
  letJ (fun (p0 : AV) h1 =>
  out [p0, (.s (.bool true))] h1) fun j0 =>
  fx (AV × AV) (fun (r1 : (AV × AV) → H → R) (p1 : AV × AV) h2 =>
  F.ob (F.bin .lss p1.2 v0) fun v1 =>
  cnd v1 (
  letJ (fun (p2 : AV) h3 =>
  F.ob (F.bin .add p1.2 (.s (.int .i64 1))) fun v2 =>
  r1 (p2, v2) h3) fun j2 =>
  F.ob (idxa (.sl 1) a1 p1.2) fun v3 =>
  F.ob (ld false 1 v3 h2) fun v4 =>
  F.ob (pv (.len (.sl 0) (.c v4))) fun v5 =>
  letJ (fun (p3 : AV) h4 =>
  F.ob (nilck a0) fun v6 =>
  F.ob (fld 0 v6) fun v7 =>
  F.ob (fld 1 v7) fun v8 =>
  F.ob (ld false 1 v8 h4) fun v9 =>
  obh (cl 128 [p3, v9] h4) fun v10 h5 =>
  F.ob (pv (.ext (.c v10) 0)) fun v11 =>
  F.ob (pv (.ext (.c v10) 1)) fun v12 =>
  F.ob (pv (.un .not (.c v12))) fun v13 =>
  F.ob (gd v13 false (some p3) (some nought)) fun v14 =>
  F.ob (gd v13 false (pv (.len (.sl 0) (.c v14))) (some nought)) fun v15 =>
  F.ob (gd v13 false (some a0) (some nought)) fun v16 =>
  F.ob (gd v13 false (nilck v16) (some nought)) fun v17 =>
  F.ob (gd v13 false (fld 0 v17) (some nought)) fun v18 =>
  F.ob (gd v13 false (fld 3 v18) (some nought)) fun v19 =>
  F.ob (gd v13 false (ld false 1 v19 h5) (some nought)) fun v20 =>
  obh (gd v13 false (cl 219 [v15, v20] h5) (some (nought, h5))) fun v21 h6 =>
  F.ob (gd v13 false (pv (.un .not (.c v21))) (some nought)) fun v22 =>
  F.ob (pv (.pick (.c v13) (.c (.s (.bool true))) (.c v22))) fun v23 =>
  cnd v23 (
  out [(.s (.sl .none 0 0 true 1)), (.s (.bool false))] h6) (
  obh (mkv (.bslice 2 1 1 [(.int .i64 0)] [(0, 1, .c v11)]) h6) fun v24 h7 =>
  obh (av (.app 2 1 8 (.c p1.1) (.c v24)) h7) fun v25 h8 =>
  j2 v25 h8)) fun j3 =>
  fx (AV × AV) (fun (r4 : (AV × AV) → H → R) (p4 : AV × AV) h9 =>
  F.ob (F.bin .lss p4.2 v5) fun v26 =>
  cnd v26 (
  F.ob (idxa (.sl 4) v4 p4.2) fun v27 =>
  F.ob (ld true 4 v27 h9) fun v28 =>
  obh (mkv (.alloc 126 [(.int .i64 0), (.int .i64 0), (.int .i64 0), (.int .i64 0)]) h9) fun v29 h10 =>
  F.ob (st 4 v29 v28 h10) fun h11 =>
  F.ob (fld 3 v29) fun v30 =>
  F.ob (ld false 1 v30 h11) fun v31 =>
  obh (mkv (.bslice 2 1 1 [(.int .i64 0)] [(0, 1, .c v31)]) h11) fun v32 h12 =>
  obh (av (.app 2 1 8 (.c p4.1) (.c v32)) h12) fun v33 h13 =>
  F.ob (F.bin .add p4.2 (.s (.int .i64 1))) fun v34 =>
  r4 (v33, v34) h13) (
  j3 p4.1 h9)) ((.s (.sl .none 0 0 true 1)), (.s (.int .i64 0))) h2) (
  j0 p1.1 h2)) ((.s (.sl .none 0 0 true 1)), (.s (.int .i64 0))) h0
theorem e204 : (fun (fx : Fx) (cl : Cl) (a0 a1 : AV) (h0 : H) => denF fx cl d204 [a0, a1] h0) = g204 := by kernel_rfl
def d228r0 : D := .reg false [⟨(.some 4), .mv (.c (.s (.int .i64 0))), .none, 0⟩] []
def d228r1 : D := .reg false [⟨(.some 6), .mv (.t 0), .none, 0⟩, ⟨(.some 7), .len (.sl 0) (.t 6), .none, 0⟩, ⟨(.some 8), .mv (.c (.s (.int .i64 0))), .none, 0⟩] []
def d228r2 : D := .reg false [⟨(.some 9), .bin .lss (.t 8) (.t 7), .none, 0⟩] []
def d228r3 : D := .reg false [⟨(.some 10), .mv (.t 8), .none, 0⟩, ⟨(.some 5), .mv (.t 10), .none, 0⟩] []
def d228r4 : D := .reg false [⟨(.some 11), .mv (.t 1), .none, 0⟩, ⟨(.some 12), .mv (.t 0), .none, 0⟩, ⟨(.some 13), .mv (.t 5), .none, 0⟩, ⟨(.some 14), .idxa (.sl 4) (.t 12) (.t 13), .none, 0⟩, ⟨(.some 15), .ld true 4 (.t 14), .none, 0⟩, ⟨(.some 16), .callv (.t 11) [(.t 15)], .none, 0⟩] []
def d228r5 : D := .reg false [⟨(.some 17), .mv (.t 5), .none, 0⟩, ⟨(.some 4), .mv (.t 17), .none, 0⟩] []
def d228r6 : D := .reg false [⟨(.some 18), .bin .add (.t 8) (.c (.s (.int .i64 1))), .none, 0⟩, ⟨(.some 8), .mv (.t 18), .none, 0⟩] []
def d228r7 : D := .reg false [⟨(.some 4), .mv (.c (.s (.int .i64 (-1)))), .none, 0⟩] []
/-- slices.IndexFunc[[]quorumite/api.Sample,quorumite/api.Sample] -/
def d228 : Df := ⟨5, [.t 4], (.seq d228r0 (.seq (.seq d228r1 (.blk (.some []) 0 (.loop [8] (.seq d228r2 (.seq (.cond .none (.t 9) .skip (.exit 0)) (.seq (.blk .none 1 (.seq d228r3 (.seq d228r4 (.cond .none (.t 16) (.seq d228r5 .ret) .skip)))) d228r6)))))) (.seq d228r7 .ret)))⟩
noncomputable def g228 (fx : Fx) (cl : Cl) (a0 a1 : AV) (h0 : H) : R :=
  F.ob (pv (.len (.sl 0) (.c a0))) fun v0 =>
  letJ (fun (p0 : Unit) h1 =>
  out [(.s (.int .i64 (-1)))] h1) fun j0 =>
  fx AV (fun (r1 : AV → H → R) (p1 : AV) h2 =>
  F.ob (F.bin .lss p1 v0) fun v1 =>
  cnd v1 (
  F.ob (idxa (.sl 4) a0 p1) fun v2 =>
  F.ob (ld true 4 v2 h2) fun v3 =>
  obh (callv cl a1 [v3] h2) fun v4 h3 =>
  cnd v4 (
  out [p1] h3) (
  F.ob (F.bin .add p1 (.s (.int .i64 1))) fun v5 =>
  r1 v5 h3)) (
  j0 () h2)) (.s (.int .i64 0)) h0
theorem e228 : (fun (fx : Fx) (cl : Cl) (a0 a1 : AV) (h0 : H) => denF fx cl d228 [a0, a1] h0) = g228 := by kernel_rfl
def d201r0 : D := .reg false [⟨(.some 4), .mv (.c (.s (.sl .none 0 0 true 1))), .none, 0⟩] []
def d201r1 : D := .reg false [⟨(.some 8), .mv (.t 0), .none, 0⟩, ⟨(.some 9), .mv (.t 1), .none, 0⟩, ⟨(.some 10), .call 228 [(.t 8), (.t 9)], .none, 0⟩, ⟨(.some 5), .mv (.t 10), .none, 0⟩] []
def d201r2 : D := .reg false [⟨(.some 11), .mv (.t 5), .none, 0⟩, ⟨(.some 12), .bin .eql (.t 11) (.c (.s (.int .i64 (-1)))), .none, 0⟩] []
def d201r3 : D := .reg false [⟨(.some 13), .mv (.t 0), .none, 0⟩, ⟨(.some 4), .mv (.t 13), .none, 0⟩] []
def d201r4 : D := .reg false [⟨(.some 14), .mv (.t 5), .none, 0⟩, ⟨(.some 15), .bin .add (.t 14) (.c (.s (.int .i64 1))), .none, 0⟩, ⟨(.some 6), .mv (.t 15), .none, 0⟩] []
def d201r5 : D := .reg false [⟨(.some 16), .mv (.t 6), .none, 0⟩, ⟨(.some 17), .mv (.t 0), .none, 0⟩, ⟨(.some 18), .len (.sl 0) (.t 17), .none, 0⟩, ⟨(.some 19), .bin .lss (.t 16) (.t 18), .none, 0⟩] []
def d201r6 : D := .reg false [⟨(.some 22), .mv (.t 0), .none, 0⟩, ⟨(.some 23), .mv (.t 6), .none, 0⟩, ⟨(.some 24), .idxa (.sl 4) (.t 22) (.t 23), .none, 0⟩, ⟨(.some 25), .ld true 4 (.t 24), .none, 0⟩, ⟨(.some 7), .alloc 126 [(.int .i64 0), (.int .i64 0), (.int .i64 0), (.int .i64 0)], .none, 0⟩, ⟨.none, .st 4 (.t 7) (.t 25), .none, 0⟩] []
def d201r7 : D := .reg false [⟨(.some 26), .mv (.t 1), .none, 0⟩, ⟨(.some 27), .ld true 4 (.t 7), .none, 0⟩, ⟨(.some 28), .callv (.t 26) [(.t 27)], .none, 0⟩, ⟨(.some 29), .un .not (.t 28), .none, 0⟩] []
def d201r8 : D := .reg false [⟨(.some 30), .mv (.t 0), .none, 0⟩, ⟨(.some 31), .mv (.t 5), .none, 0⟩, ⟨(.some 32), .ld true 4 (.t 7), .none, 0⟩, ⟨(.some 33), .idxa (.sl 4) (.t 30) (.t 31), .none, 0⟩, ⟨.none, .st 4 (.t 33) (.t 32), .none, 0⟩] []
def d201r9 : D := .reg false [⟨(.some 34), .mv (.t 5), .none, 0⟩, ⟨(.some 35), .bin .add (.t 34) (.c (.s (.int .i64 1))), .none, 0⟩, ⟨(.some 5), .mv (.t 35), .none, 0⟩] []
def d201r10 : D := .reg false [⟨(.some 20), .mv (.t 6), .none, 0⟩, ⟨(.some 21), .bin .add (.t 20) (.c (.s (.int .i64 1))), .none, 0⟩, ⟨(.some 6), .mv (.t 21), .none, 0⟩] []
def d201r11 : D := .reg false [⟨(.some 36), .mv (.t 0), .none, 0⟩, ⟨(.some 37), .mv (.t 5), .none, 0⟩, ⟨(.some 38), .slc (.sl 4) (.t 36) (.some (.t 37)) .none .none, .none, 0⟩, ⟨.none, .clear [(.int .i64 0), (.int .i64 0), (.int .i64 0), (.int .i64 0)] (.t 38), .none, 0⟩] []
def d201r12 : D := .reg false [⟨(.some 39), .mv (.t 0), .none, 0⟩, ⟨(.some 40), .mv (.t 5), .none, 0⟩, ⟨(.some 41), .slc (.sl 4) (.t 39) .none (.some (.t 40)) .none, .none, 0⟩, ⟨(.some 4), .mv (.t 41), .none, 0⟩] []
/-- slices.DeleteFunc[[]quorumite/api.Sample,quorumite/api.Sample] -/
def d201 : Df := ⟨6, [.t 4], (.seq d201r0 (.seq d201r1 (.seq (.seq d201r2 (.cond .none (.t 12) (.seq d201r3 .ret) .skip)) (.seq (.seq d201r4 (.blk (.some [5]) 0 (.loop [5, 6] (.seq (.seq d201r5 (.cond .none (.t 19) .skip (.exit 0))) (.seq (.blk .none 1 (.seq d201r6 (.seq d201r7 (.cond (.some [5]) (.t 29) (.seq d201r8 d201r9) .skip)))) d201r10))))) (.seq d201r11 (.seq d201r12 .ret))))))⟩
noncomputable def g201 (fx : Fx) (cl : Cl) (a0 a1 : AV) (h0 : H) : R :=
  obh (cl 228 [a0, a1] h0) fun v0 h1 =>
  F.ob (F.bin .eql v0 (.s (.int .i64 (-1)))) fun v1 =>
  cnd v1 (
  out [a0] h1) (
  F.ob (F.bin .add v0 (.s (.int .i64 1))) fun v2 =>
  letJ (fun (p0 : AV) h2 =>
  F.ob (pv (.slc (.sl 4) (.c a0) (.some (.c p0)) .none .none)) fun v3 =>
  F.ob (avn (.clear [(.int .i64 0), (.int .i64 0), (.int .i64 0), (.int .i64 0)] (.c v3)) h2) fun h3 =>
  F.ob (pv (.slc (.sl 4) (.c a0) .none (.some (.c p0)) .none)) fun v4 =>
  out [v4] h3) fun j0 =>
  fx (AV × AV) (fun (r1 : (AV × AV) → H → R) (p1 : AV × AV) h4 =>
  F.ob (pv (.len (.sl 0) (.c a0))) fun v5 =>
  F.ob (F.bin .lss p1.2 v5) fun v6 =>
  cnd v6 (
  F.ob (idxa (.sl 4) a0 p1.2) fun v7 =>
  F.ob (ld true 4 v7 h4) fun v8 =>
  obh (mkv (.alloc 126 [(.int .i64 0), (.int .i64 0), (.int .i64 0), (.int .i64 0)]) h4) fun v9 h5 =>
  F.ob (st 4 v9 v8 h5) fun h6 =>
  F.ob (ld true 4 v9 h6) fun v10 =>
  obh (callv cl a1 [v10] h6) fun v11 h7 =>
  F.ob (pv (.un .not (.c v11))) fun v12 =>
  letJ (fun (p2 : AV) h8 =>
  F.ob (F.bin .add p1.2 (.s (.int .i64 1))) fun v13 =>
  r1 (p2, v13) h8) fun j2 =>
  cnd v12 (
  F.ob (ld true 4 v9 h7) fun v14 =>
  F.ob (idxa (.sl 4) a0 p1.1) fun v15 =>
  F.ob (st 4 v15 v14 h7) fun h9 =>
  F.ob (F.bin .add p1.1 (.s (.int .i64 1))) fun v16 =>
  j2 v16 h9) (
  j2 p1.1 h7)) (
  j0 p1.1 h4)) (v0, v2) h1)
theorem e201 : (fun (fx : Fx) (cl : Cl) (a0 a1 : AV) (h0 : H) => denF fx cl d201 [a0, a1] h0) = g201 := by kernel_rfl
def d202r0 : D := .reg false [⟨(.some 4), .box 2 (.t 1), .none, 0⟩, ⟨(.some 5), .box 3 (.t 2), .none, 0⟩, ⟨(.some 6), .mv (.c (.s (.sl .none 0 0 true 1))), .none, 0⟩] []
def d202r1 : D := .reg false [⟨(.some 7), .mv (.t 0), .none, 0⟩, ⟨(.some 8), .call 116 [(.t 7)], .none, 0⟩, ⟨(.some 9), .mkfn 281 [] [(.t 4), (.t 5)], .none, 0⟩, ⟨(.some 10), .call 201 [(.t 8), (.t 9)], .none, 0⟩, ⟨(.some 6), .mv (.t 10), .none, 0⟩] []
/-- (*quorumite/table.Table).Of -/
def d202 : Df := ⟨4, [.t 6], (.seq d202r0 (.seq d202r1 .ret))⟩
noncomputable def g202 (fx : Fx) (cl : Cl) (a0 a1 a2 : AV) (h0 : H) : R :=
  obh (mkv (.box 2 (.c a1)) h0) fun v0 h1 =>
  obh (mkv (.box 3 (.c a2)) h1) fun v1 h2 =>
  obh (cl 116 [a0] h2) fun v2 h3 =>
  F.ob (pv (.mkfn 281 [] [.c v0, .c v1])) fun v3 =>
  obh (cl 201 [v2, v3] h3) fun v4 h4 =>
  out [v4] h4
theorem e202 : (fun (fx : Fx) (cl : Cl) (a0 a1 a2 : AV) (h0 : H) => denF fx cl d202 [a0, a1, a2] h0) = g202 := by kernel_rfl
def d124r0 : D := .reg false [⟨(.some 1), .box 80 (.t 0), .none, 0⟩, ⟨(.some 2), .alloc 44 [(.int .i64 0), (.int .i64 0), (.int .i64 0), (.bool false), (.int .i64 0), (.int .i64 0), (.int .i64 0), (.int .i64 0)], .none, 0⟩, ⟨(.some 3), .mv (.c (.s (.int .i64 0))), .none, 0⟩] []
def d124r1 : D := .reg false [⟨(.some 9), .ld false 1 (.t 1), .none, 0⟩, ⟨(.some 10), .nilck (.t 9), .none, 0⟩, ⟨(.some 11), .fld 26 (.t 10), .none, 0⟩, ⟨(.some 12), .ld false 1 (.t 11), .none, 0⟩, ⟨(.some 13), .bin .geq (.t 12) (.c (.s (.int .i64 1099511627776))), .none, 0⟩] []
def d124r2 : D := .reg false [⟨(.some 14), .build [(.int .i64 0), (.int .i64 0), (.int .i64 0), (.bool false), (.int .i64 0), (.int .i64 0), (.int .i64 0), (.int .i64 0)] [], .none, 0⟩, ⟨.none, .st 8 (.t 2) (.t 14), .none, 0⟩, ⟨(.some 3), .mv (.c (.s (.int .i64 1))), .none, 0⟩] []
def d124r3 : D := .reg false [⟨(.some 15), .ld false 1 (.t 1), .none, 0⟩, ⟨(.some 16), .nilck (.t 15), .none, 0⟩, ⟨(.some 17), .fld 0 (.t 16), .none, 0⟩, ⟨(.some 18), .fld 2 (.t 17), .none, 0⟩, ⟨(.some 19), .ld false 1 (.t 18), .none, 0⟩, ⟨(.some 20), .mkslice 60 [(.sl .none 0 0 true 1)] 24 (.t 19) (.t 19), .none, 0⟩, ⟨(.some 4), .mv (.t 20), .none, 0⟩] []
def d124r4 : D := .reg false [⟨(.some 21), .mv (.t 4), .none, 0⟩, ⟨(.some 22), .len (.sl 0) (.t 21), .none, 0⟩, ⟨(.some 23), .mv (.c (.s (.int .i64 0))), .none, 0⟩] []
def d124r5 : D := .reg false [⟨(.some 24), .bin .lss (.t 23) (.t 22), .none, 0⟩] []
def d124r6 : D := .reg false [⟨(.some 25), .mv (.t 23), .none, 0⟩, ⟨(.some 5), .mv (.t 25), .none, 0⟩] []
def d124r7 : D := .reg true [⟨(.some 26), .mv (.t 4), .none, 0⟩, ⟨(.some 27), .mv (.t 5), .none, 0⟩, ⟨(.some 28), .ld false 1 (.t 1), .none, 0⟩, ⟨(.some 29), .nilck (.t 28), .none, 4⟩, ⟨(.some 30), .fld 28 (.t 29), .none, 12⟩, ⟨(.some 31), .ld false 1 (.t 30), .none, 28⟩, ⟨(.some 32), .ld false 1 (.t 1), .none, 0⟩, ⟨(.some 33), .nilck (.t 32), .none, 64⟩, ⟨(.some 34), .fld 26 (.t 33), .none, 192⟩, ⟨(.some 35), .ld false 1 (.t 34), .none, 448⟩, ⟨(.some 36), .mv (.t 5), .none, 0⟩, ⟨(.some 37), .call 202 [(.t 31), (.t 35), (.t 36)], .none, 2044⟩, ⟨(.some 38), .mkfn 203 [] [(.t 1)], .none, 0⟩, ⟨(.some 39), .call 201 [(.t 37), (.t 38)], .none, 8188⟩, ⟨(.some 40), .idxa (.sl 1) (.t 26) (.t 27), .none, 16383⟩, ⟨.none, .st 1 (.t 40) (.t 39), .none, 32767⟩] []
def d124r8 : D := .reg false [⟨(.some 41), .bin .add (.t 23) (.c (.s (.int .i64 1))), .none, 0⟩, ⟨(.some 23), .mv (.t 41), .none, 0⟩] []
def d124r9 : D := .reg false [⟨(.some 42), .ld false 1 (.t 1), .none, 0⟩, ⟨(.some 43), .nilck (.t 42), .none, 0⟩, ⟨(.some 44), .fld 26 (.t 43), .none, 0⟩, ⟨(.some 45), .ld false 1 (.t 44), .none, 0⟩, ⟨(.some 46), .build [(.int .i64 0), (.int .i64 0), (.int .i64 0), (.bool false), (.int .i64 0), (.int .i64 0), (.int .i64 0), (.int .i64 0)] [(0, 1, (.t 45)), (3, 1, (.c (.s (.bool true))))], .none, 0⟩, ⟨(.some 6), .alloc 44 [(.int .i64 0), (.int .i64 0), (.int .i64 0), (.bool false), (.int .i64 0), (.int .i64 0), (.int .i64 0), (.int .i64 0)], .none, 0⟩, ⟨.none, .st 8 (.t 6) (.t 46), .none, 0⟩] []
def d124r10 : D := .reg false [⟨(.some 48), .ld false 1 (.t 1), .none, 0⟩, ⟨(.some 49), .mv (.t 4), .none, 0⟩, ⟨(.some 50), .call 204 [(.t 48), (.t 49)], .none, 0⟩, ⟨(.some 47), .mv (.t 50), .none, 0⟩, ⟨(.some 51), .ext (.t 47) 0, .none, 0⟩, ⟨(.some 52), .ext (.t 47) 1, .none, 0⟩, ⟨(.some 7), .mv (.t 51), .none, 0⟩, ⟨(.some 8), .mv (.t 52), .none, 0⟩] []
def d124r11 : D := .reg false [⟨(.some 53), .mv (.t 8), .none, 0⟩] []
def d124r12 : D := .reg false [⟨(.some 54), .fld 3 (.t 6), .none, 0⟩, ⟨.none, .st 1 (.t 54) (.c (.s (.bool false))), .none, 0⟩] []
def d124r13 : D := .reg false [⟨(.some 55), .fld 4 (.t 6), .none, 0⟩, ⟨(.some 56), .slc (.arr 4 1) (.t 55) .none .none .none, .none, 0⟩, ⟨(.some 57), .mv (.t 7), .none, 0⟩, ⟨(.some 58), .copy 1 (.t 56) (.t 57), .none, 0⟩] []
def d124r14 : D := .reg false [⟨(.some 60), .ld false 1 (.t 1), .none, 0⟩, ⟨(.some 61), .nilck (.t 60), .none, 0⟩, ⟨(.some 62), .fld 30 (.t 61), .none, 0⟩, ⟨(.some 63), .ld false 1 (.t 62), .none, 0⟩, ⟨(.some 64), .mv (.t 7), .none, 0⟩, ⟨(.some 65), .call 131 [(.t 63), (.t 64)], .none, 0⟩, ⟨(.some 59), .mv (.t 65), .none, 0⟩, ⟨(.some 66), .ext (.t 59) 0, .none, 0⟩, ⟨(.some 67), .ext (.t 59) 1, .none, 0⟩, ⟨(.some 68), .ext (.t 59) 2, .none, 0⟩, ⟨(.some 69), .fld 1 (.t 6), .none, 0⟩, ⟨.none, .st 1 (.t 69) (.t 66), .none, 0⟩, ⟨(.some 70), .fld 2 (.t 6), .none, 0⟩, ⟨.none, .st 1 (.t 70) (.t 67), .none, 0⟩] []
def d124r15 : D := .reg false [⟨(.some 71), .ld false 1 (.t 1), .none, 0⟩, ⟨(.some 72), .nilck (.t 71), .none, 0⟩, ⟨(.some 73), .fld 30 (.t 72), .none, 0⟩, ⟨(.some 74), .ld false 1 (.t 73), .none, 0⟩, ⟨(.some 75), .call 130 [(.t 74)], .none, 0⟩, ⟨(.some 76), .fld 1 (.t 6), .none, 0⟩, ⟨.none, .st 1 (.t 76) (.t 75), .none, 0⟩] []
def d124r16 : D := .reg true [⟨(.some 77), .ld false 1 (.t 1), .none, 0⟩, ⟨(.some 78), .nilck (.t 77), .none, 1⟩, ⟨(.some 79), .fld 29 (.t 78), .none, 3⟩, ⟨(.some 80), .ld false 1 (.t 79), .none, 7⟩, ⟨(.some 81), .mv (.t 4), .none, 0⟩, ⟨(.some 82), .ld false 1 (.t 1), .none, 0⟩, ⟨(.some 83), .nilck (.t 82), .none, 32⟩, ⟨(.some 84), .fld 0 (.t 83), .none, 96⟩, ⟨(.some 85), .fld 3 (.t 84), .none, 224⟩, ⟨(.some 86), .ld false 1 (.t 85), .none, 480⟩, ⟨(.some 87), .call 60 [(.t 80), (.t 81), (.t 86)], .none, 1023⟩] []
def d124r17 : D := .reg true [⟨(.some 88), .ld false 1 (.t 1), .none, 0⟩, ⟨(.some 89), .nilck (.t 88), .none, 1⟩, ⟨(.some 90), .fld 28 (.t 89), .none, 3⟩, ⟨(.some 91), .ld false 1 (.t 90), .none, 7⟩, ⟨(.some 92), .ld false 1 (.t 1), .none, 0⟩, ⟨(.some 93), .nilck (.t 92), .none, 16⟩, ⟨(.some 94), .fld 26 (.t 93), .none, 48⟩, ⟨(.some 95), .ld false 1 (.t 94), .none, 112⟩, ⟨(.some 96), .call 205 [(.t 91), (.t 95)], .none, 255⟩] []
def d124r18 : D := .reg false [⟨(.some 97), .ld false 1 (.t 1), .none, 0⟩, ⟨(.some 98), .nilck (.t 97), .none, 0⟩, ⟨(.some 99), .fld 26 (.t 98), .none, 0⟩, ⟨(.some 100), .ld false 1 (.t 99), .none, 0⟩, ⟨(.some 101), .bin .add (.t 100) (.c (.s (.int .i64 1))), .none, 0⟩, ⟨(.some 102), .nilck (.t 97), .none, 0⟩, ⟨(.some 103), .fld 26 (.t 102), .none, 0⟩, ⟨.none, .st 1 (.t 103) (.t 101), .none, 0⟩] []
def d124r19 : D := .reg true [⟨(.some 104), .ld false 1 (.t 1), .none, 0⟩, ⟨(.some 105), .ld false 1 (.t 1), .none, 0⟩, ⟨(.some 106), .nilck (.t 105), .none, 2⟩, ⟨(.some 107), .fld 31 (.t 106), .none, 6⟩, ⟨(.some 108), .ld false 1 (.t 107), .none, 14⟩, ⟨(.some 109), .ld true 8 (.t 6), .none, 0⟩, ⟨(.some 110), .bslice 44 8 1 [(.int .i64 0), (.int .i64 0), (.int .i64 0), (.bool false), (.int .i64 0), (.int .i64 0), (.int .i64 0), (.int .i64 0)] [(0, 8, (.t 109))], .none, 32⟩, ⟨(.some 111), .app 44 8 64 (.t 108) (.t 110), .none, 126⟩, ⟨(.some 112), .nilck (.t 104), .none, 255⟩, ⟨(.some 113), .fld 31 (.t 112), .none, 511⟩, ⟨.none, .st 1 (.t 113) (.t 111), .none, 1023⟩] []
def d124r20 : D := .reg true [⟨(.some 114), .ld false 1 (.t 1), .none, 0⟩, ⟨(.some 115), .ld false 1 (.t 1), .none, 0⟩, ⟨(.some 116), .nilck (.t 115), .none, 2⟩, ⟨(.some 117), .fld 31 (.t 116), .none, 6⟩, ⟨(.some 118), .ld false 1 (.t 117), .none, 14⟩, ⟨(.some 119), .ld false 1 (.t 1), .none, 0⟩, ⟨(.some 120), .nilck (.t 119), .none, 32⟩, ⟨(.some 121), .fld 31 (.t 120), .none, 96⟩, ⟨(.some 122), .ld false 1 (.t 121), .none, 224⟩, ⟨(.some 123), .len (.sl 0) (.t 122), .none, 480⟩, ⟨(.some 124), .bin .sub (.t 123) (.c (.s (.int .i64 64))), .none, 992⟩, ⟨(.some 125), .mx [(.t 124), (.c (.s (.int .i64 0)))], .none, 2016⟩, ⟨(.some 126), .slc (.sl 8) (.t 118) (.some (.t 125)) .none .none, .none, 4094⟩, ⟨(.some 127), .call 78 [(.t 126)], .none, 8190⟩, ⟨(.some 128), .nilck (.t 114), .none, 16383⟩, ⟨(.some 129), .fld 31 (.t 128), .none, 32767⟩, ⟨.none, .st 1 (.t 129) (.t 127), .none, 65535⟩] []
def d124r21 : D := .reg false [⟨(.some 130), .ld true 8 (.t 6), .none, 0⟩, ⟨.none, .st 8 (.t 2) (.t 130), .none, 0⟩, ⟨(.some 3), .mv (.c (.s (.int .i64 0))), .none, 0⟩] []
/-- (*quorumite/state.State).close -/
def d124 : Df := ⟨8, [.cell 2 true 8, .t 3], (.seq d124r0 (.seq (.seq d124r1 (.cond .none (.t 13) (.seq d124r2 .ret) .skip)) (.seq d124r3 (.seq (.seq d124r4 (.blk (.some []) 0 (.loop [23] (.seq d124r5 (.seq (.cond .none (.t 24) .skip (.exit 0)) (.seq (.blk .none 1 (.seq d124r6 d124r7)) d124r8)))))) (.seq d124r9 (.seq (.seq d124r10 (.seq d124r11 (.cond (.some []) (.t 53) (.seq d124r12 (.seq d124r13 d124r14)) d124r15))) (.seq d124r16 (.seq d124r17 (.seq d124r18 (.seq d124r19 (.seq d124r20 (.seq d124r21 .ret))))))))))))⟩
noncomputable def g124 (fx : Fx) (cl : Cl) (a0 : AV) (h0 : H) : R :=
  obh (mkv (.box 80 (.c a0)) h0) fun v0 h1 =>
  obh (mkv (.alloc 44 [(.int .i64 0), (.int .i64 0), (.int .i64 0), (.bool false), (.int .i64 0), (.int .i64 0), (.int .i64 0), (.int .i64 0)]) h1) fun v1 h2 =>
  F.ob (ld false 1 v0 h2) fun v2 =>
  F.ob (nilck v2) fun v3 =>
  F.ob (fld 26 v3) fun v4 =>
  F.ob (ld false 1 v4 h2) fun v5 =>
  F.ob (F.bin .geq v5 (.s (.int .i64 1099511627776))) fun v6 =>
  cnd v6 (
  F.ob (pv (.build [(.int .i64 0), (.int .i64 0), (.int .i64 0), (.bool false), (.int .i64 0), (.int .i64 0), (.int .i64 0), (.int .i64 0)] [])) fun v7 =>
  F.ob (st 8 v1 v7 h2) fun h3 =>
  F.ob (ld true 8 v1 h3) fun v8 =>
  out [v8, (.s (.int .i64 1))] h3) (
  F.ob (ld false 1 v0 h2) fun v9 =>
  F.ob (nilck v9) fun v10 =>
  F.ob (fld 0 v10) fun v11 =>
  F.ob (fld 2 v11) fun v12 =>
  F.ob (ld false 1 v12 h2) fun v13 =>
  obh (mkv (.mkslice 60 [(.sl .none 0 0 true 1)] 24 (.c v13) (.c v13)) h2) fun v14 h4 =>
  F.ob (pv (.len (.sl 0) (.c v14))) fun v15 =>
  letJ (fun (p0 : Unit) h5 =>
  F.ob (ld false 1 v0 h5) fun v16 =>
  F.ob (nilck v16) fun v17 =>
  F.ob (fld 26 v17) fun v18 =>
  F.ob (ld false 1 v18 h5) fun v19 =>
  F.ob (pv (.build [(.int .i64 0), (.int .i64 0), (.int .i64 0), (.bool false), (.int .i64 0), (.int .i64 0), (.int .i64 0), (.int .i64 0)] [(0, 1, .c v19), (3, 1, .c (.s (.bool true)))])) fun v20 =>
  obh (mkv (.alloc 44 [(.int .i64 0), (.int .i64 0), (.int .i64 0), (.bool false), (.int .i64 0), (.int .i64 0), (.int .i64 0), (.int .i64 0)]) h5) fun v21 h6 =>
  F.ob (st 8 v21 v20 h6) fun h7 =>
  F.ob (ld false 1 v0 h7) fun v22 =>
  obh (cl 204 [v22, v14] h7) fun v23 h8 =>
  F.ob (pv (.ext (.c v23) 0)) fun v24 =>
  F.ob (pv (.ext (.c v23) 1)) fun v25 =>
  letJ (fun (p1 : Unit) h9 =>
  F.ob (rdd (.ld false 1 (.c v0)) [] h9) fun v26 =>
  F.ob (nilck v26) fun v27 =>
  F.ob (fld 29 v27) fun v28 =>
  F.ob (rdd (.ld false 1 (.c v28)) [] h9) fun v29 =>
  F.ob (rdd (.ld false 1 (.c v0)) [] h9) fun v30 =>
  F.ob (nilck v30) fun v31 =>
  F.ob (fld 0 v31) fun v32 =>
  F.ob (fld 3 v32) fun v33 =>
  F.ob (rdd (.ld false 1 (.c v33)) [] h9) fun v34 =>
  obh (cl 60 [v29, v14, v34] h9) fun v35 h10 =>
  F.ob (rdd (.ld false 1 (.c v0)) [] h10) fun v36 =>
  F.ob (nilck v36) fun v37 =>
  F.ob (fld 28 v37) fun v38 =>
  F.ob (rdd (.ld false 1 (.c v38)) [] h10) fun v39 =>
  F.ob (rdd (.ld false 1 (.c v0)) [] h10) fun v40 =>
  F.ob (nilck v40) fun v41 =>
  F.ob (fld 26 v41) fun v42 =>
  F.ob (rdd (.ld false 1 (.c v42)) [] h10) fun v43 =>
  obh (cl 205 [v39, v43] h10) fun v44 h11 =>
  F.ob (ld false 1 v0 h11) fun v45 =>
  F.ob (nilck v45) fun v46 =>
  F.ob (fld 26 v46) fun v47 =>
  F.ob (ld false 1 v47 h11) fun v48 =>
  F.ob (F.bin .add v48 (.s (.int .i64 1))) fun v49 =>
  F.ob (nilck v45) fun v50 =>
  F.ob (fld 26 v50) fun v51 =>
  F.ob (st 1 v51 v49 h11) fun h12 =>
  F.ob (rdd (.ld false 1 (.c v0)) [] h12) fun v52 =>
  F.ob (rdd (.ld false 1 (.c v0)) [] h12) fun v53 =>
  F.ob (nilck v53) fun v54 =>
  F.ob (fld 31 v54) fun v55 =>
  F.ob (rdd (.ld false 1 (.c v55)) [] h12) fun v56 =>
  F.ob (rdd (.ld true 8 (.c v21)) [] h12) fun v57 =>
  obh (mkv (.bslice 44 8 1 [(.int .i64 0), (.int .i64 0), (.int .i64 0), (.bool false), (.int .i64 0), (.int .i64 0), (.int .i64 0), (.int .i64 0)] [(0, 8, .c v57)]) h12) fun v58 h13 =>
  obh (chk Prod.snd [⟨none, .ld false 1 (.c v0), v52, 0⟩] (av (.app 44 8 64 (.c v56) (.c v58)) h13)) fun v59 h14 =>
  F.ob (nilck v52) fun v60 =>
  F.ob (fld 31 v60) fun v61 =>
  F.ob (st 1 v61 v59 h14) fun h15 =>
  F.ob (rdd (.ld false 1 (.c v0)) [] h15) fun v62 =>
  F.ob (rdd (.ld false 1 (.c v0)) [] h15) fun v63 =>
  F.ob (nilck v63) fun v64 =>
  F.ob (fld 31 v64) fun v65 =>
  F.ob (rdd (.ld false 1 (.c v65)) [] h15) fun v66 =>
  F.ob (rdd (.ld false 1 (.c v0)) [] h15) fun v67 =>
  F.ob (nilck v67) fun v68 =>
  F.ob (fld 31 v68) fun v69 =>
  F.ob (rdd (.ld false 1 (.c v69)) [] h15) fun v70 =>
  F.ob (pv (.len (.sl 0) (.c v70))) fun v71 =>
  F.ob (F.bin .sub v71 (.s (.int .i64 64))) fun v72 =>
  F.ob (pv (.mx [.c v72, .c (.s (.int .i64 0))])) fun v73 =>
  F.ob (pv (.slc (.sl 8) (.c v66) (.some (.c v73)) .none .none)) fun v74 =>
  obh (chk Prod.snd [⟨none, .ld false 1 (.c v0), v62, 0⟩] (cl 78 [v74] h15)) fun v75 h16 =>
  F.ob (nilck v62) fun v76 =>
  F.ob (fld 31 v76) fun v77 =>
  F.ob (st 1 v77 v75 h16) fun h17 =>
  F.ob (ld true 8 v21 h17) fun v78 =>
  F.ob (st 8 v1 v78 h17) fun h18 =>
  F.ob (ld true 8 v1 h18) fun v79 =>
  out [v79, (.s (.int .i64 0))] h18) fun j1 =>
  cnd v25 (
  F.ob (fld 3 v21) fun v80 =>
  F.ob (st 1 v80 (.s (.bool false)) h8) fun h19 =>
  F.ob (fld 4 v21) fun v81 =>
  F.ob (pv (.slc (.arr 4 1) (.c v81) .none .none .none)) fun v82 =>
  obh (av (.copy 1 (.c v82) (.c v24)) h19) fun v83 h20 =>
  F.ob (ld false 1 v0 h20) fun v84 =>
  F.ob (nilck v84) fun v85 =>
  F.ob (fld 30 v85) fun v86 =>
  F.ob (ld false 1 v86 h20) fun v87 =>
  obh (cl 131 [v87, v24] h20) fun v88 h21 =>
  F.ob (pv (.ext (.c v88) 0)) fun v89 =>
  F.ob (pv (.ext (.c v88) 1)) fun v90 =>
  F.ob (pv (.ext (.c v88) 2)) fun v91 =>
  F.ob (fld 1 v21) fun v92 =>
  F.ob (st 1 v92 v89 h21) fun h22 =>
  F.ob (fld 2 v21) fun v93 =>
  F.ob (st 1 v93 v90 h22) fun h23 =>
  j1 () h23) (
  F.ob (ld false 1 v0 h8) fun v94 =>
  F.ob (nilck v94) fun v95 =>
  F.ob (fld 30 v95) fun v96 =>
  F.ob (ld false 1 v96 h8) fun v97 =>
  obh (cl 130 [v97] h8) fun v98 h24 =>
  F.ob (fld 1 v21) fun v99 =>
  F.ob (st 1 v99 v98 h24) fun h25 =>
  j1 () h25)) fun j0 =>
  fx AV (fun (r2 : AV → H → R) (p2 : AV) h26 =>
  F.ob (F.bin .lss p2 v15) fun v100 =>
  cnd v100 (
  F.ob (rdd (.ld false 1 (.c v0)) [] h26) fun v101 =>
  F.ob (nilck v101) fun v102 =>
  F.ob (fld 28 v102) fun v103 =>
  F.ob (rdd (.ld false 1 (.c v103)) [] h26) fun v104 =>
  F.ob (rdd (.ld false 1 (.c v0)) [] h26) fun v105 =>
  F.ob (nilck v105) fun v106 =>
  F.ob (fld 26 v106) fun v107 =>
  F.ob (rdd (.ld false 1 (.c v107)) [] h26) fun v108 =>
  obh (cl 202 [v104, v108, p2] h26) fun v109 h27 =>
  F.ob (pv (.mkfn 203 [] [.c v0])) fun v110 =>
  obh (cl 201 [v109, v110] h27) fun v111 h28 =>
  F.ob (idxa (.sl 1) v14 p2) fun v112 =>
  F.ob (st 1 v112 v111 h28) fun h29 =>
  F.ob (F.bin .add p2 (.s (.int .i64 1))) fun v113 =>
  r2 v113 h29) (
  j0 () h26)) (.s (.int .i64 0)) h4)
theorem e124 : (fun (fx : Fx) (cl : Cl) (a0 : AV) (h0 : H) => denF fx cl d124 [a0] h0) = g124 := by kernel_rfl
def d50r0 : D := .reg false [⟨(.some 3), .box 40 (.t 1), .none, 0⟩, ⟨(.some 4), .alloc 44 [(.int .i64 0), (.int .i64 0), (.int .i64 0), (.bool false), (.int .i64 0), (.int .i64 0), (.int .i64 0), (.int .i64 0)], .none, 0⟩, ⟨(.some 5), .mv (.c (.s (.int .i64 0))), .none, 0⟩] []
def d50r1 : D := .reg false [⟨(.some 7), .mv (.t 0), .none, 0⟩, ⟨(.some 8), .eqv .ptr false (.t 7) (.c (.s (.ptr .none))), .none, 0⟩] []
def d50r2 : D := .reg false [⟨(.some 9), .build [(.int .i64 0), (.int .i64 0), (.int .i64 0), (.bool false), (.int .i64 0), (.int .i64 0), (.int .i64 0), (.int .i64 0)] [], .none, 0⟩, ⟨.none, .st 8 (.t 4) (.t 9), .none, 0⟩, ⟨(.some 5), .mv (.c (.s (.int .i64 1))), .none, 0⟩] []
def d50r3 : D := .reg false [⟨(.some 10), .fld 1 (.t 3), .none, 0⟩, ⟨(.some 11), .fld 0 (.t 10), .none, 0⟩, ⟨(.some 12), .ld false 1 (.t 11), .none, 0⟩, ⟨(.some 6), .mv (.t 12), .none, 0⟩] []
def d50r4 : D := .reg false [⟨(.some 14), .fld 0 (.t 3), .none, 0⟩, ⟨(.some 15), .ld false 1 (.t 14), .none, 0⟩, ⟨(.some 16), .bin .eql (.t 15) (.c (.s (.int .i64 3))), .none, 0⟩, ⟨(.some 17), .mv (.t 16), .none, 0⟩, ⟨(.some 18), .fld 1 (.t 3), (.some (17, true)), 0⟩, ⟨(.some 19), .ld true 7 (.t 18), (.some (17, true)), 0⟩, ⟨(.some 20), .build [(.int .i64 0), (.int .i64 0), (.int .i64 0), (.int .i64 0), (.int .i64 0), (.int .i64 0), (.int .i64 0)] [], (.some (17, true)), 0⟩, ⟨(.some 21), .eqv (.k true [.i, .i, .i, .i, .i, .i, .i]) false (.t 19) (.t 20), (.some (17, true)), 0⟩, ⟨(.some 22), .pick (.t 17) (.t 21) (.c (.s (.bool false))), .none, 0⟩, ⟨(.some 13), .mv (.t 22), .none, 0⟩] []
def d50r5 : D := .reg false [⟨(.some 23), .mv (.t 0), .none, 0⟩, ⟨(.some 24), .nilck (.t 23), .none, 0⟩, ⟨(.some 25), .fld 32 (.t 24), .none, 0⟩, ⟨(.some 26), .call 72 [(.t 25), (.c (.s (.int .i64 1)))], .none, 0⟩] []
def d50r6 : D := .reg false [⟨(.some 27), .mv (.t 0), .none, 0⟩, ⟨(.some 28), .call 124 [(.t 27)], .none, 0⟩, ⟨(.some 29), .ext (.t 28) 0, .none, 0⟩, ⟨(.some 30), .ext (.t 28) 1, .none, 0⟩, ⟨.none, .st 8 (.t 4) (.t 29), .none, 0⟩, ⟨(.some 5), .mv (.t 30), .none, 0⟩] []
def d50r7 : D := .reg false [⟨(.some 32), .fld 0 (.t 3), .none, 0⟩, ⟨(.some 33), .ld false 1 (.t 32), .none, 0⟩, ⟨(.some 34), .bin .eql (.t 33) (.c (.s (.int .i64 1))), .none, 0⟩, ⟨(.some 35), .mv (.t 34), .none, 0⟩, ⟨(.some 36), .mv (.t 6), (.some (35, true)), 0⟩, ⟨(.some 37), .bin .eql (.t 36) (.c (.s (.int .i64 1))), (.some (35, true)), 0⟩, ⟨(.some 38), .mv (.t 37), (.some (35, true)), 0⟩, ⟨(.some 39), .mv (.t 6), (.some (38, false)), 0⟩, ⟨(.some 40), .bin .eql (.t 39) (.c (.s (.int .i64 3))), (.some (38, false)), 0⟩, ⟨(.some 41), .pick (.t 38) (.c (.s (.bool true))) (.t 40), (.some (35, true)), 0⟩, ⟨(.some 42), .pick (.t 35) (.t 41) (.c (.s (.bool false))), .none, 0⟩, ⟨(.some 31), .mv (.t 42), .none, 0⟩] []
def d50r8 : D := .reg false [⟨(.some 43), .fld 0 (.t 3), .none, 0⟩, ⟨(.some 44), .ld false 1 (.t 43), .none, 0⟩, ⟨(.some 45), .bin .eql (.t 44) (.c (.s (.int .i64 2))), .none, 0⟩, ⟨(.some 46), .mv (.t 45), .none, 0⟩, ⟨(.some 47), .mv (.t 6), (.some (46, true)), 0⟩, ⟨(.some 48), .bin .eql (.t 47) (.c (.s (.int .i64 2))), (.some (46, true)), 0⟩, ⟨(.some 49), .pick (.t 46) (.t 48) (.c (.s (.bool false))), .none, 0⟩, ⟨(.some 31), .mv (.t 49), .none, 0⟩] []
def d50r9 : D := .reg false [⟨(.some 50), .mv (.t 0), .none, 0⟩, ⟨(.some 51), .nilck (.t 50), .none, 0⟩, ⟨(.some 52), .fld 32 (.t 51), .none, 0⟩, ⟨(.some 53), .call 72 [(.t 52), (.c (.s (.int .i64 1)))], .none, 0⟩] []
def d50r10 : D := .reg false [⟨(.some 54), .build [(.int .i64 0), (.int .i64 0), (.int .i64 0), (.bool false), (.int .i64 0), (.int .i64 0), (.int .i64 0), (.int .i64 0)] [], .none, 0⟩, ⟨(.some 55), .mv (.t 0), .none, 0⟩, ⟨(.some 56), .fld 1 (.t 3), .none, 0⟩, ⟨(.some 57), .ld true 7 (.t 56), .none, 0⟩, ⟨(.some 58), .call 125 [(.t 55), (.t 57)], .none, 0⟩, ⟨.none, .st 8 (.t 4) (.t 54), .none, 0⟩, ⟨(.some 5), .mv (.t 58), .none, 0⟩] []
def d50r11 : D := .reg false [⟨(.some 59), .build [(.int .i64 0), (.int .i64 0), (.int .i64 0), (.bool false), (.int .i64 0), (.int .i64 0), (.int .i64 0), (.int .i64 0)] [], .none, 0⟩, ⟨.none, .st 8 (.t 4) (.t 59), .none, 0⟩, ⟨(.some 5), .mv (.c (.s (.int .i64 1))), .none, 0⟩] []
/-- (*quorumite/state.State).Do -/
def d50 : Df := ⟨6, [.cell 4 true 8, .t 5], (.seq d50r0 (.seq (.seq d50r1 (.cond .none (.t 8) (.seq d50r2 .ret) .skip)) (.seq d50r3 (.seq (.blk .none 0 (.seq d50r4 (.cond .none (.t 13) (.seq d50r5 (.seq d50r6 .ret)) (.seq (.seq d50r7 (.cond (.some [31]) (.t 31) .skip d50r8)) (.cond .none (.t 31) (.seq d50r9 (.seq d50r10 .ret)) .skip))))) (.seq d50r11 .ret)))))⟩
noncomputable def g50 (fx : Fx) (cl : Cl) (a0 a1 : AV) (h0 : H) : R :=
  obh (mkv (.box 40 (.c a1)) h0) fun v0 h1 =>
  obh (mkv (.alloc 44 [(.int .i64 0), (.int .i64 0), (.int .i64 0), (.bool false), (.int .i64 0), (.int .i64 0), (.int .i64 0), (.int .i64 0)]) h1) fun v1 h2 =>
  F.ob (pv (.eqv .ptr false (.c a0) (.c (.s (.ptr .none))))) fun v2 =>
  cnd v2 (
  F.ob (pv (.build [(.int .i64 0), (.int .i64 0), (.int .i64 0), (.bool false), (.int .i64 0), (.int .i64 0), (.int .i64 0), (.int .i64 0)] [])) fun v3 =>
  F.ob (st 8 v1 v3 h2) fun h3 =>
  F.ob (ld true 8 v1 h3) fun v4 =>
  out [v4, (.s (.int .i64 1))] h3) (
  F.ob (fld 1 v0) fun v5 =>
  F.ob (fld 0 v5) fun v6 =>
  F.ob (ld false 1 v6 h2) fun v7 =>
  F.ob (fld 0 v0) fun v8 =>
  F.ob (ld false 1 v8 h2) fun v9 =>
  F.ob (F.bin .eql v9 (.s (.int .i64 3))) fun v10 =>
  F.ob (gd v10 true (fld 1 v0) (some nought)) fun v11 =>
  F.ob (gd v10 true (ld true 7 v11 h2) (some nought)) fun v12 =>
  F.ob (gd v10 true (pv (.build [(.int .i64 0), (.int .i64 0), (.int .i64 0), (.int .i64 0), (.int .i64 0), (.int .i64 0), (.int .i64 0)] [])) (some nought)) fun v13 =>
  F.ob (gd v10 true (pv (.eqv (.k true [.i, .i, .i, .i, .i, .i, .i]) false (.c v12) (.c v13))) (some nought)) fun v14 =>
  F.ob (pv (.pick (.c v10) (.c v14) (.c (.s (.bool false))))) fun v15 =>
  cnd v15 (
  F.ob (nilck a0) fun v16 =>
  F.ob (fld 32 v16) fun v17 =>
  obh (cl 72 [v17, (.s (.int .i64 1))] h2) fun v18 h4 =>
  obh (cl 124 [a0] h4) fun v19 h5 =>
  F.ob (pv (.ext (.c v19) 0)) fun v20 =>
  F.ob (pv (.ext (.c v19) 1)) fun v21 =>
  F.ob (st 8 v1 v20 h5) fun h6 =>
  F.ob (ld true 8 v1 h6) fun v22 =>
  out [v22, v21] h6) (
  F.ob (fld 0 v0) fun v23 =>
  F.ob (ld false 1 v23 h2) fun v24 =>
  F.ob (F.bin .eql v24 (.s (.int .i64 1))) fun v25 =>
  F.ob (gd v25 true (some v7) (some nought)) fun v26 =>
  F.ob (gd v25 true (F.bin .eql v26 (.s (.int .i64 1))) (some nought)) fun v27 =>
  F.ob (gd v25 true (some v27) (some nought)) fun v28 =>
  F.ob (gd v28 false (some v7) (some nought)) fun v29 =>
  F.ob (gd v28 false (F.bin .eql v29 (.s (.int .i64 3))) (some nought)) fun v30 =>
  F.ob (gd v25 true (pv (.pick (.c v28) (.c (.s (.bool true))) (.c v30))) (some nought)) fun v31 =>
  F.ob (pv (.pick (.c v25) (.c v31) (.c (.s (.bool false))))) fun v32 =>
  letJ (fun (p0 : AV) h7 =>
  cnd p0 (
  F.ob (nilck a0) fun v33 =>
  F.ob (fld 32 v33) fun v34 =>
  obh (cl 72 [v34, (.s (.int .i64 1))] h7) fun v35 h8 =>
  F.ob (pv (.build [(.int .i64 0), (.int .i64 0), (.int .i64 0), (.bool false), (.int .i64 0), (.int .i64 0), (.int .i64 0), (.int .i64 0)] [])) fun v36 =>
  F.ob (fld 1 v0) fun v37 =>
  F.ob (ld true 7 v37 h8) fun v38 =>
  obh (cl 125 [a0, v38] h8) fun v39 h9 =>
  F.ob (st 8 v1 v36 h9) fun h10 =>
  F.ob (ld true 8 v1 h10) fun v40 =>
  out [v40, v39] h10) (
  F.ob (pv (.build [(.int .i64 0), (.int .i64 0), (.int .i64 0), (.bool false), (.int .i64 0), (.int .i64 0), (.int .i64 0), (.int .i64 0)] [])) fun v41 =>
  F.ob (st 8 v1 v41 h7) fun h11 =>
  F.ob (ld true 8 v1 h11) fun v42 =>
  out [v42, (.s (.int .i64 1))] h11)) fun j0 =>
  cnd v32 (
  j0 v32 h2) (
  F.ob (fld 0 v0) fun v43 =>
  F.ob (ld false 1 v43 h2) fun v44 =>
  F.ob (F.bin .eql v44 (.s (.int .i64 2))) fun v45 =>
  F.ob (gd v45 true (some v7) (some nought)) fun v46 =>
  F.ob (gd v45 true (F.bin .eql v46 (.s (.int .i64 2))) (some nought)) fun v47 =>
  F.ob (pv (.pick (.c v45) (.c v47) (.c (.s (.bool false))))) fun v48 =>
  j0 v48 h2)))
theorem e50 : (fun (fx : Fx) (cl : Cl) (a0 a1 : AV) (h0 : H) => denF fx cl d50 [a0, a1] h0) = g50 := by kernel_rfl
def d78r0 : D := .reg false [⟨(.some 2), .mv (.c (.s (.sl .none 0 0 true 1))), .none, 0⟩] []
def d78r1 : D := .reg false [⟨(.some 3), .mv (.t 0), .none, 0⟩, ⟨(.some 4), .eqv .sl false (.t 3) (.c (.s (.sl .none 0 0 true 1))), .none, 0⟩] []
def d78r2 : D := .reg false [⟨(.some 2), .mv (.c (.s (.sl .none 0 0 true 1))), .none, 0⟩] []
def d78r3 : D := .reg false [⟨(.some 5), .bslice 44 8 0 [] [], .none, 0⟩, ⟨(.some 6), .mv (.t 0), .none, 0⟩, ⟨(.some 7), .app 44 8 64 (.t 5) (.t 6), .none, 0⟩, ⟨(.some 2), .mv (.t 7), .none, 0⟩] []
/-- slices.Clone[[]quorumite/api.Decision,quorumite/api.Decision] -/
def d78 : Df := ⟨4, [.t 2], (.seq d78r0 (.seq (.seq d78r1 (.cond .none (.t 4) (.seq d78r2 .ret) .skip)) (.seq d78r3 .ret)))⟩
noncomputable def g78 (fx : Fx) (cl : Cl) (a0 : AV) (h0 : H) : R :=
  F.ob (pv (.eqv .sl false (.c a0) (.c (.s (.sl .none 0 0 true 1))))) fun v0 =>
  cnd v0 (
  out [(.s (.sl .none 0 0 true 1))] h0) (
  obh (mkv (.bslice 44 8 0 [] []) h0) fun v1 h1 =>
  obh (av (.app 44 8 64 (.c v1) (.c a0)) h1) fun v2 h2 =>
  out [v2] h2)
theorem e78 : (fun (fx : Fx) (cl : Cl) (a0 : AV) (h0 : H) => denF fx cl d78 [a0] h0) = g78 := by kernel_rfl
def d279r0 : D := .reg false [⟨(.some 3), .mv (.c (.s (.bool false))), .none, 0⟩] []
def d279r1 : D := .reg false [⟨(.some 4), .mv (.t 0), .none, 0⟩, ⟨(.some 5), .ld false 1 (.t 1), .none, 0⟩, ⟨(.some 6), .nilck (.t 5), .none, 0⟩, ⟨(.some 7), .fld 0 (.t 6), .none, 0⟩, ⟨(.some 8), .fld 12 (.t 7), .none, 0⟩, ⟨(.some 9), .ld false 1 (.t 8), .none, 0⟩, ⟨(.some 10), .bin .lss (.t 4) (.t 9), .none, 0⟩, ⟨(.some 11), .mv (.t 10), .none, 0⟩, ⟨(.some 12), .mv (.t 0), (.some (11, false)), 0⟩, ⟨(.some 13), .ld false 1 (.t 1), (.some (11, false)), 0⟩, ⟨(.some 14), .nilck (.t 13), (.some (11, false)), 0⟩, ⟨(.some 15), .fld 0 (.t 14), (.some (11, false)), 0⟩, ⟨(.some 16), .fld 13 (.t 15), (.some (11, false)), 0⟩, ⟨(.some 17), .ld false 1 (.t 16), (.some (11, false)), 0⟩, ⟨(.some 18), .bin .gtr (.t 12) (.t 17), (.some (11, false)), 0⟩, ⟨(.some 19), .pick (.t 11) (.c (.s (.bool true))) (.t 18), .none, 0⟩, ⟨(.some 3), .mv (.t 19), .none, 0⟩] []
/-- (*quorumite/policy.Policy).Set$1 -/
def d279 : Df := ⟨5, [.t 3], (.seq d279r0 (.seq d279r1 .ret))⟩
noncomputable def g279 (fx : Fx) (cl : Cl) (a0 a1 : AV) (h0 : H) : R :=
  F.ob (ld false 1 a1 h0) fun v0 =>
  F.ob (nilck v0) fun v1 =>
  F.ob (fld 0 v1) fun v2 =>
  F.ob (fld 12 v2) fun v3 =>
  F.ob (ld false 1 v3 h0) fun v4 =>
  F.ob (F.bin .lss a0 v4) fun v5 =>
  F.ob (gd v5 false (some a0) (some nought)) fun v6 =>
  F.ob (gd v5 false (ld false 1 a1 h0) (some nought)) fun v7 =>
  F.ob (gd v5 false (nilck v7) (some nought)) fun v8 =>
  F.ob (gd v5 false (fld 0 v8) (some nought)) fun v9 =>
  F.ob (gd v5 false (fld 13 v9) (some nought)) fun v10 =>
  F.ob (gd v5 false (ld false 1 v10 h0) (some nought)) fun v11 =>
  F.ob (gd v5 false (F.bin .gtr v6 v11) (some nought)) fun v12 =>
  F.ob (pv (.pick (.c v5) (.c (.s (.bool true))) (.c v12))) fun v13 =>
  out [v13] h0
theorem e279 : (fun (fx : Fx) (cl : Cl) (a0 a1 : AV) (h0 : H) => denF fx cl d279 [a0, a1] h0) = g279 := by kernel_rfl
def d199r0 : D := .reg false [⟨(.some 2), .box 214 (.t 0), .none, 0⟩, ⟨(.some 4), .mv (.c (.s (.int .i64 0))), .none, 0⟩] []
def d199r1 : D := .reg false [⟨(.some 5), .ld false 1 (.t 2), .none, 0⟩, ⟨(.some 6), .eqv .ptr false (.t 5) (.c (.s (.ptr .none))), .none, 0⟩, ⟨(.some 7), .mv (.t 6), .none, 0⟩, ⟨(.some 8), .mv (.t 1), (.some (7, false)), 0⟩, ⟨(.some 9), .len (.sl 0) (.t 8), (.some (7, false)), 0⟩, ⟨(.some 10), .bin .lss (.t 9) (.c (.s (.int .i64 1))), (.some (7, false)), 0⟩, ⟨(.some 11), .pick (.t 7) (.c (.s (.bool true))) (.t 10), .none, 0⟩, ⟨(.some 12), .mv (.t 11), .none, 0⟩, ⟨(.some 13), .mv (.t 1), (.some (12, false)), 0⟩, ⟨(.some 14), .len (.sl 0) (.t 13), (.some (12, false)), 0⟩, ⟨(.some 15), .ld false 1 (.t 2), (.some (12, false)), 0⟩, ⟨(.some 16), .nilck (.t 15), (.some (12, false)), 0⟩, ⟨(.some 17), .fld 0 (.t 16), (.some (12, false)), 0⟩, ⟨(.some 18), .fld 20 (.t 17), (.some (12, false)), 0⟩, ⟨(.some 19), .ld false 1 (.t 18), (.some (12, false)), 0⟩, ⟨(.some 20), .bin .gtr (.t 14) (.t 19), (.some (12, false)), 0⟩, ⟨(.some 21), .pick (.t 12) (.c (.s (.bool true))) (.t 20), .none, 0⟩, ⟨(.some 22), .mv (.t 21), .none, 0⟩, ⟨(.some 23), .mv (.t 1), (.some (22, false)), 0⟩, ⟨(.some 24), .mkfn 279 [] [(.t 2)], (.some (22, false)), 0⟩, ⟨(.some 25), .call 277 [(.t 23), (.t 24)], (.some (22, false)), 0⟩, ⟨(.some 26), .pick (.t 22) (.c (.s (.bool true))) (.t 25), .none, 0⟩] []
def d199r2 : D := .reg false [⟨(.some 4), .mv (.c (.s (.int .i64 1))), .none, 0⟩] []
def d199r3 : D := .reg true [⟨(.some 27), .ld false 1 (.t 2), .none, 0⟩, ⟨(.some 28), .mv (.t 1), .none, 0⟩, ⟨(.some 29), .call 191 [(.t 28)], .none, 2⟩, ⟨(.some 30), .nilck (.t 27), .none, 7⟩, ⟨(.some 31), .fld 26 (.t 30), .none, 15⟩, ⟨.none, .st 1 (.t 31) (.t 29), .none, 31⟩] []
def d199r4 : D := .reg false [⟨(.some 4), .mv (.c (.s (.int .i64 0))), .none, 0⟩] []
/-- (*quorumite/policy.Policy).Set -/
def d199 : Df := ⟨6, [.t 4], (.seq d199r0 (.seq (.seq d199r1 (.cond .none (.t 26) (.seq d199r2 .ret) .skip)) (.seq d199r3 (.seq d199r4 .ret))))⟩
noncomputable def g199 (fx : Fx) (cl : Cl) (a0 a1 : AV) (h0 : H) : R :=
  obh (mkv (.box 214 (.c a0)) h0) fun v0 h1 =>
  F.ob (ld false 1 v0 h1) fun v1 =>
  F.ob (pv (.eqv .ptr false (.c v1) (.c (.s (.ptr .none))))) fun v2 =>
  F.ob (gd v2 false (some a1) (some nought)) fun v3 =>
  F.ob (gd v2 false (pv (.len (.sl 0) (.c v3))) (some nought)) fun v4 =>
  F.ob (gd v2 false (F.bin .lss v4 (.s (.int .i64 1))) (some nought)) fun v5 =>
  F.ob (pv (.pick (.c v2) (.c (.s (.bool true))) (.c v5))) fun v6 =>
  F.ob (gd v6 false (some a1) (some nought)) fun v7 =>
  F.ob (gd v6 false (pv (.len (.sl 0) (.c v7))) (some nought)) fun v8 =>
  F.ob (gd v6 false (ld false 1 v0 h1) (some nought)) fun v9 =>
  F.ob (gd v6 false (nilck v9) (some nought)) fun v10 =>
  F.ob (gd v6 false (fld 0 v10) (some nought)) fun v11 =>
  F.ob (gd v6 false (fld 20 v11) (some nought)) fun v12 =>
  F.ob (gd v6 false (ld false 1 v12 h1) (some nought)) fun v13 =>
  F.ob (gd v6 false (F.bin .gtr v8 v13) (some nought)) fun v14 =>
  F.ob (pv (.pick (.c v6) (.c (.s (.bool true))) (.c v14))) fun v15 =>
  F.ob (gd v15 false (some a1) (some nought)) fun v16 =>
  F.ob (gd v15 false (pv (.mkfn 279 [] [.c v0])) (some nought)) fun v17 =>
  obh (gd v15 false (cl 277 [v16, v17] h1) (some (nought, h1))) fun v18 h2 =>
  F.ob (pv (.pick (.c v15) (.c (.s (.bool true))) (.c v18))) fun v19 =>
  cnd v19 (
  out [(.s (.int .i64 1))] h2) (
  F.ob (rdd (.ld false 1 (.c v0)) [] h2) fun v20 =>
  obh (chk Prod.snd [⟨none, .ld false 1 (.c v0), v20, 0⟩] (cl 191 [a1] h2)) fun v21 h3 =>
  F.ob (nilck v20) fun v22 =>
  F.ob (fld 26 v22) fun v23 =>
  F.ob (st 1 v23 v21 h3) fun h4 =>
  out [(.s (.int .i64 0))] h4)
theorem e199 : (fun (fx : Fx) (cl : Cl) (a0 a1 : AV) (h0 : H) => denF fx cl d199 [a0, a1] h0) = g199 := by kernel_rfl
def d330r0 : D := .reg false [⟨(.some 4), .mv (.c (.s (.int .i64 0))), .none, 0⟩] []
def d330r1 : D := .reg false [⟨(.some 6), .mv (.t 0), .none, 0⟩, ⟨(.some 7), .len (.sl 0) (.t 6), .none, 0⟩, ⟨(.some 8), .mv (.c (.s (.int .i64 0))), .none, 0⟩] []
def d330r2 : D := .reg false [⟨(.some 9), .bin .lss (.t 8) (.t 7), .none, 0⟩] []
def d330r3 : D := .reg false [⟨(.some 10), .mv (.t 8), .none, 0⟩, ⟨(.some 5), .mv (.t 10), .none, 0⟩] []
def d330r4 : D := .reg false [⟨(.some 11), .mv (.t 1), .none, 0⟩, ⟨(.some 12), .mv (.t 0), .none, 0⟩, ⟨(.some 13), .mv (.t 5), .none, 0⟩, ⟨(.some 14), .idxa (.sl 1) (.t 12) (.t 13), .none, 0⟩, ⟨(.some 15), .ld false 1 (.t 14), .none, 0⟩, ⟨(.some 16), .callv (.t 11) [(.t 15)], .none, 0⟩] []
def d330r5 : D := .reg false [⟨(.some 17), .mv (.t 5), .none, 0⟩, ⟨(.some 4), .mv (.t 17), .none, 0⟩] []
def d330r6 : D := .reg false [⟨(.some 18), .bin .add (.t 8) (.c (.s (.int .i64 1))), .none, 0⟩, ⟨(.some 8), .mv (.t 18), .none, 0⟩] []
def d330r7 : D := .reg false [⟨(.some 4), .mv (.c (.s (.int .i64 (-1)))), .none, 0⟩] []
/-- slices.IndexFunc[[]int,int] -/
def d330 : Df := ⟨5, [.t 4], (.seq d330r0 (.seq (.seq d330r1 (.blk (.some []) 0 (.loop [8] (.seq d330r2 (.seq (.cond .none (.t 9) .skip (.exit 0)) (.seq (.blk .none 1 (.seq d330r3 (.seq d330r4 (.cond .none (.t 16) (.seq d330r5 .ret) .skip)))) d330r6)))))) (.seq d330r7 .ret)))⟩
noncomputable def g330 (fx : Fx) (cl : Cl) (a0 a1 : AV) (h0 : H) : R :=
  F.ob (pv (.len (.sl 0) (.c a0))) fun v0 =>
  letJ (fun (p0 : Unit) h1 =>
  out [(.s (.int .i64 (-1)))] h1) fun j0 =>
  fx AV (fun (r1 : AV → H → R) (p1 : AV) h2 =>
  F.ob (F.bin .lss p1 v0) fun v1 =>
  cnd v1 (
  F.ob (idxa (.sl 1) a0 p1) fun v2 =>
  F.ob (ld false 1 v2 h2) fun v3 =>
  obh (callv cl a1 [v3] h2) fun v4 h3 =>
  cnd v4 (
  out [p1] h3) (
  F.ob (F.bin .add p1 (.s (.int .i64 1))) fun v5 =>
  r1 v5 h3)) (
  j0 () h2)) (.s (.int .i64 0)) h0
theorem e330 : (fun (fx : Fx) (cl : Cl) (a0 a1 : AV) (h0 : H) => denF fx cl d330 [a0, a1] h0) = g330 := by kernel_rfl
def d277r0 : D := .reg false [⟨(.some 4), .mv (.c (.s (.bool false))), .none, 0⟩] []
def d277r1 : D := .reg false [⟨(.some 5), .mv (.t 0), .none, 0⟩, ⟨(.some 6), .mv (.t 1), .none, 0⟩, ⟨(.some 7), .call 330 [(.t 5), (.t 6)], .none, 0⟩, ⟨(.some 8), .bin .geq (.t 7) (.c (.s (.int .i64 0))), .none, 0⟩, ⟨(.some 4), .mv (.t 8), .none, 0⟩] []
/-- slices.ContainsFunc[[]int,int] -/
def d277 : Df := ⟨4, [.t 4], (.seq d277r0 (.seq d277r1 .ret))⟩
noncomputable def g277 (fx : Fx) (cl : Cl) (a0 a1 : AV) (h0 : H) : R :=
  obh (cl 330 [a0, a1] h0) fun v0 h1 =>
  F.ob (F.bin .geq v0 (.s (.int .i64 0))) fun v1 =>
  out [v1] h1
theorem e277 : (fun (fx : Fx) (cl : Cl) (a0 a1 : AV) (h0 : H) => denF fx cl d277 [a0, a1] h0) = g277 := by kernel_rfl
def d276r0 : D := .reg false [⟨(.some 2), .mv (.c (.s (.int .i64 0))), .none, 0⟩] []
def d276r1 : D := .reg true [⟨(.some 3), .mv (.t 0), .none, 0⟩, ⟨(.some 4), .nilck (.t 3), .none, 1⟩, ⟨(.some 5), .fld 0 (.t 4), .none, 3⟩, ⟨(.some 6), .ld false 1 (.t 5), .none, 7⟩, ⟨(.some 7), .mv (.t 0), .none, 0⟩, ⟨(.some 8), .nilck (.t 7), .none, 16⟩, ⟨(.some 9), .fld 1 (.t 8), .none, 48⟩, ⟨(.some 10), .ld false 1 (.t 9), .none, 112⟩, ⟨(.some 11), .mx [(.t 6), (.t 10)], .none, 255⟩, ⟨(.some 12), .bin .add (.t 11) (.c (.s (.int .i64 1))), .none, 511⟩, ⟨(.some 2), .mv (.t 12), .none, 1023⟩] []
/-- (*quorumite/calm.Calm).kept -/
def d276 : Df := ⟨4, [.t 2], (.seq d276r0 (.seq d276r1 .ret))⟩
noncomputable def g276 (fx : Fx) (cl : Cl) (a0 : AV) (h0 : H) : R :=
  F.ob (nilck a0) fun v0 =>
  F.ob (fld 0 v0) fun v1 =>
  F.ob (rdd (.ld false 1 (.c v1)) [] h0) fun v2 =>
  F.ob (nilck a0) fun v3 =>
  F.ob (fld 1 v3) fun v4 =>
  F.ob (rdd (.ld false 1 (.c v4)) [] h0) fun v5 =>
  F.ob (pv (.mx [.c v2, .c v5])) fun v6 =>
  F.ob (F.bin .add v6 (.s (.int .i64 1))) fun v7 =>
  out [v7] h0
theorem e276 : (fun (fx : Fx) (cl : Cl) (a0 : AV) (h0 : H) => denF fx cl d276 [a0] h0) = g276 := by kernel_rfl
def d198r0 : D := .reg false [⟨(.some 4), .mv (.c (.s (.int .i64 0))), .none, 0⟩] []
def d198r1 : D := .reg false [⟨(.some 5), .mv (.t 0), .none, 0⟩, ⟨(.some 6), .eqv .ptr false (.t 5) (.c (.s (.ptr .none))), .none, 0⟩, ⟨(.some 7), .mv (.t 6), .none, 0⟩, ⟨(.some 8), .mv (.t 1), (.some (7, false)), 0⟩, ⟨(.some 9), .len (.sl 0) (.t 8), (.some (7, false)), 0⟩, ⟨(.some 10), .mv (.t 0), (.some (7, false)), 0⟩, ⟨(.some 11), .call 276 [(.t 10)], (.some (7, false)), 0⟩, ⟨(.some 12), .bin .gtr (.t 9) (.t 11), (.some (7, false)), 0⟩, ⟨(.some 13), .pick (.t 7) (.c (.s (.bool true))) (.t 12), .none, 0⟩, ⟨(.some 14), .mv (.t 13), .none, 0⟩, ⟨(.some 15), .mv (.t 1), (.some (14, false)), 0⟩, ⟨(.some 16), .call 277 [(.t 15), (.c (.s (.fn 278 [] [])))], (.some (14, false)), 0⟩, ⟨(.some 17), .pick (.t 14) (.c (.s (.bool true))) (.t 16), .none, 0⟩] []
def d198r2 : D := .reg false [⟨(.some 4), .mv (.c (.s (.int .i64 1))), .none, 0⟩] []
def d198r3 : D := .reg false [⟨(.some 18), .mv (.t 0), .none, 0⟩, ⟨(.some 19), .mv (.t 1), .none, 0⟩, ⟨(.some 20), .call 191 [(.t 19)], .none, 0⟩, ⟨(.some 21), .nilck (.t 18), .none, 0⟩, ⟨(.some 22), .fld 2 (.t 21), .none, 0⟩, ⟨.none, .st 1 (.t 22) (.t 20), .none, 0⟩] []
def d198r4 : D := .reg false [⟨(.some 4), .mv (.c (.s (.int .i64 0))), .none, 0⟩] []
/-- (*quorumite/calm.Calm).Set -/
def d198 : Df := ⟨5, [.t 4], (.seq d198r0 (.seq (.seq d198r1 (.cond .none (.t 17) (.seq d198r2 .ret) .skip)) (.seq d198r3 (.seq d198r4 .ret))))⟩
noncomputable def g198 (fx : Fx) (cl : Cl) (a0 a1 : AV) (h0 : H) : R :=
  F.ob (pv (.eqv .ptr false (.c a0) (.c (.s (.ptr .none))))) fun v0 =>
  F.ob (gd v0 false (some a1) (some nought)) fun v1 =>
  F.ob (gd v0 false (pv (.len (.sl 0) (.c v1))) (some nought)) fun v2 =>
  F.ob (gd v0 false (some a0) (some nought)) fun v3 =>
  obh (gd v0 false (cl 276 [v3] h0) (some (nought, h0))) fun v4 h1 =>
  F.ob (gd v0 false (F.bin .gtr v2 v4) (some nought)) fun v5 =>
  F.ob (pv (.pick (.c v0) (.c (.s (.bool true))) (.c v5))) fun v6 =>
  F.ob (gd v6 false (some a1) (some nought)) fun v7 =>
  obh (gd v6 false (cl 277 [v7, (.s (.fn 278 [] []))] h1) (some (nought, h1))) fun v8 h2 =>
  F.ob (pv (.pick (.c v6) (.c (.s (.bool true))) (.c v8))) fun v9 =>
  cnd v9 (
  out [(.s (.int .i64 1))] h2) (
  obh (cl 191 [a1] h2) fun v10 h3 =>
  F.ob (nilck a0) fun v11 =>
  F.ob (fld 2 v11) fun v12 =>
  F.ob (st 1 v12 v10 h3) fun h4 =>
  out [(.s (.int .i64 0))] h4)
theorem e198 : (fun (fx : Fx) (cl : Cl) (a0 a1 : AV) (h0 : H) => denF fx cl d198 [a0, a1] h0) = g198 := by kernel_rfl
def d121r0 : D := .reg false [⟨(.some 8), .mv (.c (.s (.bool false))), .none, 0⟩] []
def d121r1 : D := .reg false [⟨(.some 9), .mv (.t 0), .none, 0⟩, ⟨(.some 10), .eqv .ptr false (.t 9) (.c (.s (.ptr .none))), .none, 0⟩, ⟨(.some 11), .mv (.t 10), .none, 0⟩, ⟨(.some 12), .mv (.t 3), (.some (11, false)), 0⟩, ⟨(.some 13), .len (.sl 0) (.t 12), (.some (11, false)), 0⟩, ⟨(.some 14), .bin .eql (.t 13) (.c (.s (.int .i64 0))), (.some (11, false)), 0⟩, ⟨(.some 15), .pick (.t 11) (.c (.s (.bool true))) (.t 14), .none, 0⟩, ⟨(.some 16), .mv (.t 15), .none, 0⟩, ⟨(.some 17), .mv (.t 1), (.some (16, false)), 0⟩, ⟨(.some 18), .mv (.t 3), (.some (16, false)), 0⟩, ⟨(.some 19), .mv (.t 3), (.some (16, false)), 0⟩, ⟨(.some 20), .len (.sl 0) (.t 19), (.some (16, false)), 0⟩, ⟨(.some 21), .bin .sub (.t 20) (.c (.s (.int .i64 1))), (.some (16, false)), 0⟩, ⟨(.some 22), .idxa (.sl 1) (.t 18) (.t 21), (.some (16, false)), 0⟩, ⟨(.some 23), .ld false 1 (.t 22), (.some (16, false)), 0⟩, ⟨(.some 24), .bin .neq (.t 17) (.t 23), (.some (16, false)), 0⟩, ⟨(.some 25), .pick (.t 16) (.c (.s (.bool true))) (.t 24), .none, 0⟩, ⟨(.some 26), .mv (.t 25), .none, 0⟩, ⟨(.some 27), .mv (.t 0), (.some (26, false)), 0⟩, ⟨(.some 28), .nilck (.t 27), (.some (26, false)), 0⟩, ⟨(.some 29), .fld 27 (.t 28), (.some (26, false)), 0⟩, ⟨(.some 30), .ld false 1 (.t 29), (.some (26, false)), 0⟩, ⟨(.some 31), .mv (.t 2), (.some (26, false)), 0⟩, ⟨(.some 32), .call 198 [(.t 30), (.t 31)], (.some (26, false)), 0⟩, ⟨(.some 33), .bin .neq (.t 32) (.c (.s (.int .i64 0))), (.some (26, false)), 0⟩, ⟨(.some 34), .pick (.t 26) (.c (.s (.bool true))) (.t 33), .none, 0⟩, ⟨(.some 35), .mv (.t 34), .none, 0⟩, ⟨(.some 36), .mv (.t 0), (.some (35, false)), 0⟩, ⟨(.some 37), .nilck (.t 36), (.some (35, false)), 0⟩, ⟨(.some 38), .fld 28 (.t 37), (.some (35, false)), 0⟩, ⟨(.some 39), .ld false 1 (.t 38), (.some (35, false)), 0⟩, ⟨(.some 40), .mv (.t 3), (.some (35, false)), 0⟩, ⟨(.some 41), .call 199 [(.t 39), (.t 40)], (.some (35, false)), 0⟩, ⟨(.some 42), .bin .neq (.t 41) (.c (.s (.int .i64 0))), (.some (35, false)), 0⟩, ⟨(.some 43), .pick (.t 35) (.c (.s (.bool true))) (.t 42), .none, 0⟩] []
def d121r2 : D := .reg false [⟨(.some 8), .mv (.c (.s (.bool false))), .none, 0⟩] []
def d121r3 : D := .reg false [⟨(.some 44), .mv (.t 0), .none, 0⟩, ⟨(.some 45), .mv (.t 1), .none, 0⟩, ⟨(.some 46), .nilck (.t 44), .none, 0⟩, ⟨(.some 47), .fld 26 (.t 46), .none, 0⟩, ⟨.none, .st 1 (.t 47) (.t 45), .none, 0⟩] []
def d121r4 : D := .reg false [⟨(.some 8), .mv (.c (.s (.bool true))), .none, 0⟩] []
/-- (*quorumite/law.Law).Set -/
def d121 : Df := ⟨6, [.t 8], (.seq d121r0 (.seq (.seq d121r1 (.cond .none (.t 43) (.seq d121r2 .ret) .skip)) (.seq d121r3 (.seq d121r4 .ret))))⟩
noncomputable def g121 (fx : Fx) (cl : Cl) (a0 a1 a2 a3 : AV) (h0 : H) : R :=
  F.ob (pv (.eqv .ptr false (.c a0) (.c (.s (.ptr .none))))) fun v0 =>
  F.ob (gd v0 false (some a3) (some nought)) fun v1 =>
  F.ob (gd v0 false (pv (.len (.sl 0) (.c v1))) (some nought)) fun v2 =>
  F.ob (gd v0 false (F.bin .eql v2 (.s (.int .i64 0))) (some nought)) fun v3 =>
  F.ob (pv (.pick (.c v0) (.c (.s (.bool true))) (.c v3))) fun v4 =>
  F.ob (gd v4 false (some a1) (some nought)) fun v5 =>
  F.ob (gd v4 false (some a3) (some nought)) fun v6 =>
  F.ob (gd v4 false (some a3) (some nought)) fun v7 =>
  F.ob (gd v4 false (pv (.len (.sl 0) (.c v7))) (some nought)) fun v8 =>
  F.ob (gd v4 false (F.bin .sub v8 (.s (.int .i64 1))) (some nought)) fun v9 =>
  F.ob (gd v4 false (idxa (.sl 1) v6 v9) (some nought)) fun v10 =>
  F.ob (gd v4 false (ld false 1 v10 h0) (some nought)) fun v11 =>
  F.ob (gd v4 false (F.bin .neq v5 v11) (some nought)) fun v12 =>
  F.ob (pv (.pick (.c v4) (.c (.s (.bool true))) (.c v12))) fun v13 =>
  F.ob (gd v13 false (some a0) (some nought)) fun v14 =>
  F.ob (gd v13 false (nilck v14) (some nought)) fun v15 =>
  F.ob (gd v13 false (fld 27 v15) (some nought)) fun v16 =>
  F.ob (gd v13 false (ld false 1 v16 h0) (some nought)) fun v17 =>
  F.ob (gd v13 false (some a2) (some nought)) fun v18 =>
  obh (gd v13 false (cl 198 [v17, v18] h0) (some (nought, h0))) fun v19 h1 =>
  F.ob (gd v13 false (F.bin .neq v19 (.s (.int .i64 0))) (some nought)) fun v20 =>
  F.ob (pv (.pick (.c v13) (.c (.s (.bool true))) (.c v20))) fun v21 =>
  F.ob (gd v21 false (some a0) (some nought)) fun v22 =>
  F.ob (gd v21 false (nilck v22) (some nought)) fun v23 =>
  F.ob (gd v21 false (fld 28 v23) (some nought)) fun v24 =>
  F.ob (gd v21 false (ld false 1 v24 h1) (some nought)) fun v25 =>
  F.ob (gd v21 false (some a3) (some nought)) fun v26 =>
  obh (gd v21 false (cl 199 [v25, v26] h1) (some (nought, h1))) fun v27 h2 =>
  F.ob (gd v21 false (F.bin .neq v27 (.s (.int .i64 0))) (some nought)) fun v28 =>
  F.ob (pv (.pick (.c v21) (.c (.s (.bool true))) (.c v28))) fun v29 =>
  cnd v29 (
  out [(.s (.bool false))] h2) (
  F.ob (nilck a0) fun v30 =>
  F.ob (fld 26 v30) fun v31 =>
  F.ob (st 1 v31 a1 h2) fun h3 =>
  out [(.s (.bool true))] h3)
theorem e121 : (fun (fx : Fx) (cl : Cl) (a0 a1 a2 a3 : AV) (h0 : H) => denF fx cl d121 [a0, a1, a2, a3] h0) = g121 := by kernel_rfl
def d168r0 : D := .reg false [⟨(.some 2), .mv (.c (.s (.ptr .none))), .none, 0⟩] []
def d168r1 : D := .reg false [⟨(.some 4), .mv (.t 0), .none, 0⟩, ⟨(.some 5), .eqv .ptr false (.t 4) (.c (.s (.ptr .none))), .none, 0⟩] []
def d168r2 : D := .reg false [⟨(.some 2), .mv (.c (.s (.ptr .none))), .none, 0⟩] []
def d168r3 : D := .reg true [⟨(.some 6), .mv (.t 0), .none, 0⟩, ⟨(.some 7), .nilck (.t 6), .none, 1⟩, ⟨(.some 8), .fld 0 (.t 7), .none, 3⟩, ⟨(.some 9), .ld true 26 (.t 8), .none, 7⟩, ⟨(.some 10), .mv (.t 0), .none, 0⟩, ⟨(.some 11), .nilck (.t 10), .none, 16⟩, ⟨(.some 12), .fld 0 (.t 11), .none, 48⟩, ⟨(.some 13), .fld 12 (.t 12), .none, 112⟩, ⟨(.some 14), .ld false 1 (.t 13), .none, 240⟩, ⟨(.some 15), .call 129 [(.t 9), (.t 14)], .none, 511⟩, ⟨(.some 3), .mv (.t 15), .none, 1023⟩] []
def d168r4 : D := .reg true [⟨(.some 16), .mv (.t 3), .none, 0⟩, ⟨(.some 17), .mv (.t 0), .none, 0⟩, ⟨(.some 18), .nilck (.t 17), .none, 2⟩, ⟨(.some 19), .fld 26 (.t 18), .none, 6⟩, ⟨(.some 20), .ld false 1 (.t 19), .none, 14⟩, ⟨(.some 21), .mv (.t 0), .none, 0⟩, ⟨(.some 22), .nilck (.t 21), .none, 32⟩, ⟨(.some 23), .fld 27 (.t 22), .none, 96⟩, ⟨(.some 24), .ld false 1 (.t 23), .none, 224⟩, ⟨(.some 25), .call 113 [(.t 24)], .none, 480⟩, ⟨(.some 26), .mv (.t 0), .none, 0⟩, ⟨(.some 27), .nilck (.t 26), .none, 1024⟩, ⟨(.some 28), .fld 28 (.t 27), .none, 3072⟩, ⟨(.some 29), .ld false 1 (.t 28), .none, 7168⟩, ⟨(.some 30), .call 115 [(.t 29)], .none, 16352⟩, ⟨(.some 31), .call 121 [(.t 16), (.t 20), (.t 25), (.t 30)], .none, 32767⟩] []
def d168r5 : D := .reg false [⟨(.some 32), .mv (.t 3), .none, 0⟩, ⟨(.some 2), .mv (.t 32), .none, 0⟩] []
/-- (*quorumite/law.Law).Own -/
def d168 : Df := ⟨6, [.t 2], (.seq d168r0 (.seq (.seq d168r1 (.cond .none (.t 5) (.seq d168r2 .ret) .skip)) (.seq d168r3 (.seq d168r4 (.seq d168r5 .ret)))))⟩
noncomputable def g168 (fx : Fx) (cl : Cl) (a0 : AV) (h0 : H) : R :=
  F.ob (pv (.eqv .ptr false (.c a0) (.c (.s (.ptr .none))))) fun v0 =>
  cnd v0 (
  out [(.s (.ptr .none))] h0) (
  F.ob (nilck a0) fun v1 =>
  F.ob (fld 0 v1) fun v2 =>
  F.ob (rdd (.ld true 26 (.c v2)) [] h0) fun v3 =>
  F.ob (nilck a0) fun v4 =>
  F.ob (fld 0 v4) fun v5 =>
  F.ob (fld 12 v5) fun v6 =>
  F.ob (rdd (.ld false 1 (.c v6)) [] h0) fun v7 =>
  obh (cl 129 [v3, v7] h0) fun v8 h1 =>
  F.ob (nilck a0) fun v9 =>
  F.ob (fld 26 v9) fun v10 =>
  F.ob (rdd (.ld false 1 (.c v10)) [] h1) fun v11 =>
  F.ob (nilck a0) fun v12 =>
  F.ob (fld 27 v12) fun v13 =>
  F.ob (rdd (.ld false 1 (.c v13)) [] h1) fun v14 =>
  obh (chk Prod.snd [⟨none, .ld false 1 (.c v10), v11, 4⟩] (cl 113 [v14] h1)) fun v15 h2 =>
  F.ob (nilck a0) fun v16 =>
  F.ob (fld 28 v16) fun v17 =>
  F.ob (rdd (.ld false 1 (.c v17)) [(9, h1)] h2) fun v18 =>
  obh (chk Prod.snd [⟨none, .ld false 1 (.c v10), v11, 4⟩] (cl 115 [v18] h2)) fun v19 h3 =>
  obh (cl 121 [v8, v11, v15, v19] h3) fun v20 h4 =>
  out [v8] h4)
theorem e168 : (fun (fx : Fx) (cl : Cl) (a0 : AV) (h0 : H) => denF fx cl d168 [a0] h0) = g168 := by kernel_rfl
def d167r0 : D := .reg false [⟨(.some 2), .mv (.c (.s (.ptr .none))), .none, 0⟩] []
def d167r1 : D := .reg false [⟨(.some 3), .mv (.t 0), .none, 0⟩, ⟨(.some 4), .eqv .ptr false (.t 3) (.c (.s (.ptr .none))), .none, 0⟩] []
def d167r2 : D := .reg false [⟨(.some 2), .mv (.c (.s (.ptr .none))), .none, 0⟩] []
def d167r3 : D := .reg true [⟨(.some 5), .mv (.t 0), .none, 0⟩, ⟨(.some 6), .nilck (.t 5), .none, 1⟩, ⟨(.some 7), .fld 0 (.t 6), .none, 3⟩, ⟨(.some 8), .ld false 1 (.t 7), .none, 7⟩, ⟨(.some 9), .call 189 [(.t 8)], .none, 15⟩, ⟨(.some 10), .mv (.t 0), .none, 0⟩, ⟨(.some 11), .nilck (.t 10), .none, 32⟩, ⟨(.some 12), .fld 1 (.t 11), .none, 96⟩, ⟨(.some 13), .ld false 1 (.t 12), .none, 224⟩, ⟨(.some 14), .mv (.t 0), .none, 0⟩, ⟨(.some 15), .nilck (.t 14), .none, 512⟩, ⟨(.some 16), .fld 2 (.t 15), .none, 1536⟩, ⟨(.some 17), .ld false 1 (.t 16), .none, 3584⟩, ⟨(.some 18), .mv (.t 0), .none, 0⟩, ⟨(.some 19), .nilck (.t 18), .none, 8192⟩, ⟨(.some 20), .fld 3 (.t 19), .none, 24576⟩, ⟨(.some 21), .ld false 1 (.t 20), .none, 57344⟩, ⟨(.some 22), .build [(.sl .none 0 0 true 1), (.int .i64 0), (.int .i64 0), (.int .i64 0), (.int .i64 0)] [(0, 1, (.t 9)), (1, 1, (.t 13)), (2, 1, (.t 17)), (3, 1, (.t 21))], .none, 131071⟩, ⟨(.some 23), .box 226 (.t 22), .none, 262143⟩, ⟨(.some 2), .mv (.t 23), .none, 524287⟩] []
/-- (*quorumite/score.Score).Own -/
def d167 : Df := ⟨5, [.t 2], (.seq d167r0 (.seq (.seq d167r1 (.cond .none (.t 4) (.seq d167r2 .ret) .skip)) (.seq d167r3 .ret)))⟩
noncomputable def g167 (fx : Fx) (cl : Cl) (a0 : AV) (h0 : H) : R :=
  F.ob (pv (.eqv .ptr false (.c a0) (.c (.s (.ptr .none))))) fun v0 =>
  cnd v0 (
  out [(.s (.ptr .none))] h0) (
  F.ob (nilck a0) fun v1 =>
  F.ob (fld 0 v1) fun v2 =>
  F.ob (rdd (.ld false 1 (.c v2)) [] h0) fun v3 =>
  obh (cl 189 [v3] h0) fun v4 h1 =>
  F.ob (nilck a0) fun v5 =>
  F.ob (fld 1 v5) fun v6 =>
  F.ob (rdd (.ld false 1 (.c v6)) [(4, h0)] h1) fun v7 =>
  F.ob (nilck a0) fun v8 =>
  F.ob (fld 2 v8) fun v9 =>
  F.ob (rdd (.ld false 1 (.c v9)) [(4, h0)] h1) fun v10 =>
  F.ob (nilck a0) fun v11 =>
  F.ob (fld 3 v11) fun v12 =>
  F.ob (rdd (.ld false 1 (.c v12)) [(4, h0)] h1) fun v13 =>
  F.ob (pv (.build [(.sl .none 0 0 true 1), (.int .i64 0), (.int .i64 0), (.int .i64 0), (.int .i64 0)] [(0, 1, .c v4), (1, 1, .c v7), (2, 1, .c v10), (3, 1, .c v13)])) fun v14 =>
  obh (mkv (.box 226 (.c v14)) h1) fun v15 h2 =>
  out [v15] h2)
theorem e167 : (fun (fx : Fx) (cl : Cl) (a0 : AV) (h0 : H) => denF fx cl d167 [a0] h0) = g167 := by kernel_rfl
def d166r0 : D := .reg false [⟨(.some 2), .mv (.c (.s (.ptr .none))), .none, 0⟩] []
def d166r1 : D := .reg false [⟨(.some 3), .mv (.t 0), .none, 0⟩, ⟨(.some 4), .eqv .ptr false (.t 3) (.c (.s (.ptr .none))), .none, 0⟩] []
def d166r2 : D := .reg false [⟨(.some 2), .mv (.c (.s (.ptr .none))), .none, 0⟩] []
def d166r3 : D := .reg true [⟨(.some 5), .mv (.t 0), .none, 0⟩, ⟨(.some 6), .nilck (.t 5), .none, 1⟩, ⟨(.some 7), .fld 0 (.t 6), .none, 3⟩, ⟨(.some 8), .ld false 1 (.t 7), .none, 7⟩, ⟨(.some 9), .mv (.t 0), .none, 0⟩, ⟨(.some 10), .nilck (.t 9), .none, 16⟩, ⟨(.some 11), .fld 1 (.t 10), .none, 48⟩, ⟨(.some 12), .ld false 1 (.t 11), .none, 112⟩, ⟨(.some 13), .mv (.t 0), .none, 0⟩, ⟨(.some 14), .nilck (.t 13), .none, 256⟩, ⟨(.some 15), .fld 2 (.t 14), .none, 768⟩, ⟨(.some 16), .ld false 1 (.t 15), .none, 1792⟩, ⟨(.some 17), .mv (.t 0), .none, 0⟩, ⟨(.some 18), .nilck (.t 17), .none, 4096⟩, ⟨(.some 19), .fld 3 (.t 18), .none, 12288⟩, ⟨(.some 20), .ld false 1 (.t 19), .none, 28672⟩, ⟨(.some 21), .call 192 [(.t 20)], .none, 61440⟩, ⟨(.some 22), .build [(.int .i64 0), (.int .i64 0), (.int .i64 0), (.sl .none 0 0 true 1), (.int .i64 0)] [(0, 1, (.t 8)), (1, 1, (.t 12)), (2, 1, (.t 16)), (3, 1, (.t 21))], .none, 131071⟩, ⟨(.some 23), .box 325 (.t 22), .none, 262143⟩, ⟨(.some 2), .mv (.t 23), .none, 524287⟩] []
/-- (*quorumite/table.Table).Own -/
def d166 : Df := ⟨5, [.t 2], (.seq d166r0 (.seq (.seq d166r1 (.cond .none (.t 4) (.seq d166r2 .ret) .skip)) (.seq d166r3 .ret)))⟩
noncomputable def g166 (fx : Fx) (cl : Cl) (a0 : AV) (h0 : H) : R :=
  F.ob (pv (.eqv .ptr false (.c a0) (.c (.s (.ptr .none))))) fun v0 =>
  cnd v0 (
  out [(.s (.ptr .none))] h0) (
  F.ob (nilck a0) fun v1 =>
  F.ob (fld 0 v1) fun v2 =>
  F.ob (rdd (.ld false 1 (.c v2)) [] h0) fun v3 =>
  F.ob (nilck a0) fun v4 =>
  F.ob (fld 1 v4) fun v5 =>
  F.ob (rdd (.ld false 1 (.c v5)) [] h0) fun v6 =>
  F.ob (nilck a0) fun v7 =>
  F.ob (fld 2 v7) fun v8 =>
  F.ob (rdd (.ld false 1 (.c v8)) [] h0) fun v9 =>
  F.ob (nilck a0) fun v10 =>
  F.ob (fld 3 v10) fun v11 =>
  F.ob (rdd (.ld false 1 (.c v11)) [] h0) fun v12 =>
  obh (chk Prod.snd [⟨none, .ld false 1 (.c v8), v9, 11⟩, ⟨none, .ld false 1 (.c v5), v6, 7⟩, ⟨none, .ld false 1 (.c v2), v3, 3⟩] (cl 192 [v12] h0)) fun v13 h1 =>
  F.ob (pv (.build [(.int .i64 0), (.int .i64 0), (.int .i64 0), (.sl .none 0 0 true 1), (.int .i64 0)] [(0, 1, .c v3), (1, 1, .c v6), (2, 1, .c v9), (3, 1, .c v13)])) fun v14 =>
  obh (mkv (.box 325 (.c v14)) h1) fun v15 h2 =>
  out [v15] h2)
theorem e166 : (fun (fx : Fx) (cl : Cl) (a0 : AV) (h0 : H) => denF fx cl d166 [a0] h0) = g166 := by kernel_rfl
def d237r0 : D := .reg false [⟨(.some 2), .mv (.c (.s (.ptr .none))), .none, 0⟩] []
def d237r1 : D := .reg false [⟨(.some 3), .mv (.t 0), .none, 0⟩, ⟨(.some 4), .eqv .ptr false (.t 3) (.c (.s (.ptr .none))), .none, 0⟩] []
def d237r2 : D := .reg false [⟨(.some 2), .mv (.c (.s (.ptr .none))), .none, 0⟩] []
def d237r3 : D := .reg true [⟨(.some 5), .mv (.t 0), .none, 0⟩, ⟨(.some 6), .nilck (.t 5), .none, 1⟩, ⟨(.some 7), .fld 0 (.t 6), .none, 3⟩, ⟨(.some 8), .ld false 1 (.t 7), .none, 7⟩, ⟨(.some 9), .mv (.t 0), .none, 0⟩, ⟨(.some 10), .nilck (.t 9), .none, 16⟩, ⟨(.some 11), .fld 1 (.t 10), .none, 48⟩, ⟨(.some 12), .ld false 1 (.t 11), .none, 112⟩, ⟨(.some 13), .mv (.t 0), .none, 0⟩, ⟨(.some 14), .nilck (.t 13), .none, 256⟩, ⟨(.some 15), .fld 2 (.t 14), .none, 768⟩, ⟨(.some 16), .ld false 1 (.t 15), .none, 1792⟩, ⟨(.some 17), .build [(.int .i64 0), (.int .i64 0), (.int .u64 0), (.int .i64 0)] [(0, 1, (.t 8)), (1, 1, (.t 12)), (2, 1, (.t 16))], .none, 4095⟩, ⟨(.some 18), .box 318 (.t 17), .none, 8191⟩, ⟨(.some 2), .mv (.t 18), .none, 16383⟩] []
/-- (*quorumite/replay.Replay).Own -/
def d237 : Df := ⟨5, [.t 2], (.seq d237r0 (.seq (.seq d237r1 (.cond .none (.t 4) (.seq d237r2 .ret) .skip)) (.seq d237r3 .ret)))⟩
noncomputable def g237 (fx : Fx) (cl : Cl) (a0 : AV) (h0 : H) : R :=
  F.ob (pv (.eqv .ptr false (.c a0) (.c (.s (.ptr .none))))) fun v0 =>
  cnd v0 (
  out [(.s (.ptr .none))] h0) (
  F.ob (nilck a0) fun v1 =>
  F.ob (fld 0 v1) fun v2 =>
  F.ob (rdd (.ld false 1 (.c v2)) [] h0) fun v3 =>
  F.ob (nilck a0) fun v4 =>
  F.ob (fld 1 v4) fun v5 =>
  F.ob (rdd (.ld false 1 (.c v5)) [] h0) fun v6 =>
  F.ob (nilck a0) fun v7 =>
  F.ob (fld 2 v7) fun v8 =>
  F.ob (rdd (.ld false 1 (.c v8)) [] h0) fun v9 =>
  F.ob (pv (.build [(.int .i64 0), (.int .i64 0), (.int .u64 0), (.int .i64 0)] [(0, 1, .c v3), (1, 1, .c v6), (2, 1, .c v9)])) fun v10 =>
  obh (mkv (.box 318 (.c v10)) h0) fun v11 h1 =>
  out [v11] h1)
theorem e237 : (fun (fx : Fx) (cl : Cl) (a0 : AV) (h0 : H) => denF fx cl d237 [a0] h0) = g237 := by kernel_rfl
def d195r0 : D := .reg false [⟨(.some 8), .mv (.c (.s (.int .i64 0))), .none, 0⟩] []
def d195r1 : D := .reg false [⟨(.some 12), .mv (.t 0), .none, 0⟩, ⟨(.some 13), .mv (.t 1), .none, 0⟩, ⟨(.some 14), .call 190 [(.t 12), (.t 13)], .none, 0⟩, ⟨(.some 11), .mv (.t 14), .none, 0⟩, ⟨(.some 15), .ext (.t 11) 0, .none, 0⟩, ⟨(.some 16), .ext (.t 11) 1, .none, 0⟩, ⟨(.some 9), .mv (.t 15), .none, 0⟩, ⟨(.some 10), .mv (.t 16), .none, 0⟩] []
def d195r2 : D := .reg false [⟨(.some 18), .mv (.t 10), .none, 0⟩, ⟨(.some 19), .bin .neq (.t 18) (.c (.s (.int .i64 0))), .none, 0⟩, ⟨(.some 17), .mv (.t 19), .none, 0⟩] []
def d195r3 : D := .reg false [⟨(.some 20), .mv (.t 10), .none, 0⟩, ⟨(.some 8), .mv (.t 20), .none, 0⟩] []
def d195r4 : D := .reg false [⟨(.some 22), .mv (.t 2), .none, 0⟩, ⟨(.some 23), .bin .lss (.t 22) (.c (.s (.int .i64 0))), .none, 0⟩, ⟨(.some 24), .mv (.t 23), .none, 0⟩, ⟨(.some 25), .mv (.t 2), (.some (24, false)), 0⟩, ⟨(.some 26), .bin .gtr (.t 25) (.c (.s (.int .i64 60000))), (.some (24, false)), 0⟩, ⟨(.some 27), .pick (.t 24) (.c (.s (.bool true))) (.t 26), .none, 0⟩, ⟨(.some 28), .mv (.t 27), .none, 0⟩, ⟨(.some 29), .mv (.t 3), (.some (28, false)), 0⟩, ⟨(.some 30), .bin .lss (.t 29) (.c (.s (.int .i64 0))), (.some (28, false)), 0⟩, ⟨(.some 31), .pick (.t 28) (.c (.s (.bool true))) (.t 30), .none, 0⟩, ⟨(.some 32), .mv (.t 31), .none, 0⟩, ⟨(.some 33), .mv (.t 3), (.some (32, false)), 0⟩, ⟨(.some 34), .bin .gtr (.t 33) (.c (.s (.int .i64 1099511627776))), (.some (32, false)), 0⟩, ⟨(.some 35), .pick (.t 32) (.c (.s (.bool true))) (.t 34), .none, 0⟩, ⟨(.some 21), .mv (.t 35), .none, 0⟩] []
def d195r5 : D := .reg false [⟨(.some 8), .mv (.c (.s (.int .i64 1))), .none, 0⟩] []
def d195r6 : D := .reg false [⟨(.some 36), .mv (.t 9), .none, 0⟩, ⟨(.some 37), .mv (.t 2), .none, 0⟩, ⟨(.some 38), .mv (.t 3), .none, 0⟩, ⟨(.some 39), .build [(.int .i64 0), (.int .i64 0)] [(0, 1, (.t 37)), (1, 1, (.t 38))], .none, 0⟩, ⟨(.some 40), .nilck (.t 36), .none, 0⟩, ⟨.none, .st 2 (.t 40) (.t 39), .none, 0⟩] []
def d195r7 : D := .reg false [⟨(.some 8), .mv (.c (.s (.int .i64 0))), .none, 0⟩] []
/-- (*quorumite/ring.Ring).Set -/
def d195 : Df := ⟨6, [.t 8], (.seq d195r0 (.seq d195r1 (.seq (.blk .none 0 (.seq d195r2 (.cond .none (.t 17) (.seq d195r3 .ret) (.seq d195r4 (.cond .none (.t 21) (.seq d195r5 .ret) .skip))))) (.seq d195r6 (.seq d195r7 .ret)))))⟩
noncomputable def g195 (fx : Fx) (cl : Cl) (a0 a1 a2 a3 : AV) (h0 : H) : R :=
  obh (cl 190 [a0, a1] h0) fun v0 h1 =>
  F.ob (pv (.ext (.c v0) 0)) fun v1 =>
  F.ob (pv (.ext (.c v0) 1)) fun v2 =>
  F.ob (F.bin .neq v2 (.s (.int .i64 0))) fun v3 =>
  cnd v3 (
  out [v2] h1) (
  F.ob (F.bin .lss a2 (.s (.int .i64 0))) fun v4 =>
  F.ob (gd v4 false (some a2) (some nought)) fun v5 =>
  F.ob (gd v4 false (F.bin .gtr v5 (.s (.int .i64 60000))) (some nought)) fun v6 =>
  F.ob (pv (.pick (.c v4) (.c (.s (.bool true))) (.c v6))) fun v7 =>
  F.ob (gd v7 false (some a3) (some nought)) fun v8 =>
  F.ob (gd v7 false (F.bin .lss v8 (.s (.int .i64 0))) (some nought)) fun v9 =>
  F.ob (pv (.pick (.c v7) (.c (.s (.bool true))) (.c v9))) fun v10 =>
  F.ob (gd v10 false (some a3) (some nought)) fun v11 =>
  F.ob (gd v10 false (F.bin .gtr v11 (.s (.int .i64 1099511627776))) (some nought)) fun v12 =>
  F.ob (pv (.pick (.c v10) (.c (.s (.bool true))) (.c v12))) fun v13 =>
  cnd v13 (
  out [(.s (.int .i64 1))] h1) (
  F.ob (pv (.build [(.int .i64 0), (.int .i64 0)] [(0, 1, .c a2), (1, 1, .c a3)])) fun v14 =>
  F.ob (nilck v1) fun v15 =>
  F.ob (st 2 v15 v14 h1) fun h2 =>
  out [(.s (.int .i64 0))] h2))
theorem e195 : (fun (fx : Fx) (cl : Cl) (a0 a1 a2 a3 : AV) (h0 : H) => denF fx cl d195 [a0, a1, a2, a3] h0) = g195 := by kernel_rfl
def d165r0 : D := .reg false [⟨(.some 2), .mv (.c (.s (.ptr .none))), .none, 0⟩] []
def d165r1 : D := .reg false [⟨(.some 5), .mv (.t 0), .none, 0⟩, ⟨(.some 6), .eqv .ptr false (.t 5) (.c (.s (.ptr .none))), .none, 0⟩] []
def d165r2 : D := .reg false [⟨(.some 2), .mv (.c (.s (.ptr .none))), .none, 0⟩] []
def d165r3 : D := .reg false [⟨(.some 7), .mv (.t 0), .none, 0⟩, ⟨(.some 8), .nilck (.t 7), .none, 0⟩, ⟨(.some 9), .fld 0 (.t 8), .none, 0⟩, ⟨(.some 10), .ld true 26 (.t 9), .none, 0⟩, ⟨(.some 11), .call 159 [(.t 10)], .none, 0⟩, ⟨(.some 3), .mv (.t 11), .none, 0⟩] []
def d165r4 : D := .reg false [⟨(.some 12), .mv (.t 0), .none, 0⟩, ⟨(.some 13), .nilck (.t 12), .none, 0⟩, ⟨(.some 14), .fld 0 (.t 13), .none, 0⟩, ⟨(.some 15), .fld 0 (.t 14), .none, 0⟩, ⟨(.some 16), .ld false 1 (.t 15), .none, 0⟩, ⟨(.some 17), .mv (.c (.s (.int .i64 0))), .none, 0⟩] []
def d165r5 : D := .reg false [⟨(.some 18), .bin .lss (.t 17) (.t 16), .none, 0⟩] []
def d165r6 : D := .reg false [⟨(.some 19), .mv (.t 17), .none, 0⟩, ⟨(.some 4), .mv (.t 19), .none, 0⟩] []
def d165r7 : D := .reg true [⟨(.some 20), .mv (.t 3), .none, 0⟩, ⟨(.some 21), .nilck (.t 20), .none, 1⟩, ⟨(.some 22), .fld 26 (.t 21), .none, 3⟩, ⟨(.some 23), .ld false 1 (.t 22), .none, 7⟩, ⟨(.some 24), .mv (.t 4), .none, 0⟩, ⟨(.some 25), .mv (.t 0), .none, 0⟩, ⟨(.some 26), .nilck (.t 25), .none, 32⟩, ⟨(.some 27), .fld 26 (.t 26), .none, 96⟩, ⟨(.some 28), .ld false 1 (.t 27), .none, 224⟩, ⟨(.some 29), .mv (.t 4), .none, 0⟩, ⟨(.some 30), .call 104 [(.t 28), (.t 29)], .none, 992⟩, ⟨(.some 31), .mv (.t 0), .none, 0⟩, ⟨(.some 32), .nilck (.t 31), .none, 2048⟩, ⟨(.some 33), .fld 26 (.t 32), .none, 6144⟩, ⟨(.some 34), .ld false 1 (.t 33), .none, 14336⟩, ⟨(.some 35), .mv (.t 4), .none, 0⟩, ⟨(.some 36), .call 105 [(.t 34), (.t 35)], .none, 65504⟩, ⟨(.some 37), .call 195 [(.t 23), (.t 24), (.t 30), (.t 36)], .none, 131071⟩] []
def d165r8 : D := .reg true [⟨(.some 38), .mv (.t 3), .none, 0⟩, ⟨(.some 39), .nilck (.t 38), .none, 1⟩, ⟨(.some 40), .fld 27 (.t 39), .none, 3⟩, ⟨(.some 41), .ld false 1 (.t 40), .none, 7⟩, ⟨(.some 42), .mv (.t 4), .none, 0⟩, ⟨(.some 43), .mv (.t 3), .none, 0⟩, ⟨(.some 44), .nilck (.t 43), .none, 32⟩, ⟨(.some 45), .fld 28 (.t 44), .none, 96⟩, ⟨(.some 46), .ld false 1 (.t 45), .none, 224⟩, ⟨(.some 47), .mv (.t 4), .none, 0⟩, ⟨(.some 48), .mv (.t 0), .none, 0⟩, ⟨(.some 49), .nilck (.t 48), .none, 1024⟩, ⟨(.some 50), .fld 27 (.t 49), .none, 3072⟩, ⟨(.some 51), .ld false 1 (.t 50), .none, 7168⟩, ⟨(.some 52), .mv (.t 4), .none, 0⟩, ⟨(.some 53), .idxa (.sl 1) (.t 51) (.t 52), .none, 31744⟩, ⟨(.some 54), .ld false 1 (.t 53), .none, 64512⟩, ⟨(.some 55), .call 237 [(.t 54)], .none, 130048⟩, ⟨(.some 56), .mv (.t 0), .none, 0⟩, ⟨(.some 57), .nilck (.t 56), .none, 262144⟩, ⟨(.some 58), .fld 28 (.t 57), .none, 786432⟩, ⟨(.some 59), .ld false 1 (.t 58), .none, 1835008⟩, ⟨(.some 60), .mv (.t 4), .none, 0⟩, ⟨(.some 61), .idxa (.sl 1) (.t 59) (.t 60), .none, 8126464⟩, ⟨(.some 62), .ld false 1 (.t 61), .none, 16515072⟩, ⟨(.some 63), .call 237 [(.t 62)], .none, 33553408⟩, ⟨(.some 64), .idxa (.sl 1) (.t 41) (.t 42), .none, 67108351⟩, ⟨.none, .st 1 (.t 64) (.t 55), .none, 134217215⟩, ⟨(.some 65), .idxa (.sl 1) (.t 46) (.t 47), .none, 268435455⟩, ⟨.none, .st 1 (.t 65) (.t 63), .none, 536870911⟩] []
def d165r9 : D := .reg false [⟨(.some 66), .bin .add (.t 17) (.c (.s (.int .i64 1))), .none, 0⟩, ⟨(.some 17), .mv (.t 66), .none, 0⟩] []
def d165r10 : D := .reg false [⟨(.some 67), .mv (.t 3), .none, 0⟩, ⟨(.some 2), .mv (.t 67), .none, 0⟩] []
/-- (*quorumite/verify.Gate).Own -/
def d165 : Df := ⟨7, [.t 2], (.seq d165r0 (.seq (.seq d165r1 (.cond .none (.t 6) (.seq d165r2 .ret) .skip)) (.seq d165r3 (.seq (.seq d165r4 (.blk (.some []) 0 (.loop [17] (.seq d165r5 (.seq (.cond .none (.t 18) .skip (.exit 0)) (.seq (.blk .none 1 (.seq d165r6 (.seq d165r7 d165r8))) d165r9)))))) (.seq d165r10 .ret)))))⟩
noncomputable def g165 (fx : Fx) (cl : Cl) (a0 : AV) (h0 : H) : R :=
  F.ob (pv (.eqv .ptr false (.c a0) (.c (.s (.ptr .none))))) fun v0 =>
  cnd v0 (
  out [(.s (.ptr .none))] h0) (
  F.ob (nilck a0) fun v1 =>
  F.ob (fld 0 v1) fun v2 =>
  F.ob (ld true 26 v2 h0) fun v3 =>
  obh (cl 159 [v3] h0) fun v4 h1 =>
  F.ob (nilck a0) fun v5 =>
  F.ob (fld 0 v5) fun v6 =>
  F.ob (fld 0 v6) fun v7 =>
  F.ob (ld false 1 v7 h1) fun v8 =>
  letJ (fun (p0 : Unit) h2 =>
  out [v4] h2) fun j0 =>
  fx AV (fun (r1 : AV → H → R) (p1 : AV) h3 =>
  F.ob (F.bin .lss p1 v8) fun v9 =>
  cnd v9 (
  F.ob (nilck v4) fun v10 =>
  F.ob (fld 26 v10) fun v11 =>
  F.ob (rdd (.ld false 1 (.c v11)) [] h3) fun v12 =>
  F.ob (nilck a0) fun v13 =>
  F.ob (fld 26 v13) fun v14 =>
  F.ob (rdd (.ld false 1 (.c v14)) [] h3) fun v15 =>
  obh (chk Prod.snd [⟨none, .ld false 1 (.c v11), v12, 3⟩] (cl 104 [v15, p1] h3)) fun v16 h4 =>
  F.ob (nilck a0) fun v17 =>
  F.ob (fld 26 v17) fun v18 =>
  F.ob (rdd (.ld false 1 (.c v18)) [(10, h3)] h4) fun v19 =>
  obh (chk Prod.snd [⟨none, .ld false 1 (.c v11), v12, 3⟩] (cl 105 [v19, p1] h4)) fun v20 h5 =>
  obh (cl 195 [v12, p1, v16, v20] h5) fun v21 h6 =>
  F.ob (nilck v4) fun v22 =>
  F.ob (fld 27 v22) fun v23 =>
  F.ob (rdd (.ld false 1 (.c v23)) [] h6) fun v24 =>
  F.ob (nilck v4) fun v25 =>
  F.ob (fld 28 v25) fun v26 =>
  F.ob (rdd (.ld false 1 (.c v26)) [] h6) fun v27 =>
  F.ob (nilck a0) fun v28 =>
  F.ob (fld 27 v28) fun v29 =>
  F.ob (rdd (.ld false 1 (.c v29)) [] h6) fun v30 =>
  F.ob (idxa (.sl 1) v30 p1) fun v31 =>
  F.ob (rdd (.ld false 1 (.c v31)) [] h6) fun v32 =>
  obh (chk Prod.snd [⟨none, .ld false 1 (.c v26), v27, 8⟩, ⟨none, .ld false 1 (.c v23), v24, 3⟩] (cl 237 [v32] h6)) fun v33 h7 =>
  F.ob (nilck a0) fun v34 =>
  F.ob (fld 28 v34) fun v35 =>
  F.ob (rdd (.ld false 1 (.c v35)) [(17, h6)] h7) fun v36 =>
  F.ob (idxa (.sl 1) v36 p1) fun v37 =>
  F.ob (rdd (.ld false 1 (.c v37)) [(17, h6)] h7) fun v38 =>
  obh (chk Prod.snd [⟨none, .ld false 1 (.c v26), v27, 8⟩, ⟨none, .ld false 1 (.c v23), v24, 3⟩] (cl 237 [v38] h7)) fun v39 h8 =>
  F.ob (idxa (.sl 1) v24 p1) fun v40 =>
  F.ob (st 1 v40 v33 h8) fun h9 =>
  F.ob (idxa (.sl 1) v27 p1) fun v41 =>
  F.ob (st 1 v41 v39 h9) fun h10 =>
  F.ob (F.bin .add p1 (.s (.int .i64 1))) fun v42 =>
  r1 v42 h10) (
  j0 () h3)) (.s (.int .i64 0)) h1)
theorem e165 : (fun (fx : Fx) (cl : Cl) (a0 : AV) (h0 : H) => denF fx cl d165 [a0] h0) = g165 := by kernel_rfl
def d87r0 : D := .reg false [⟨(.some 2), .mv (.c (.s (.ptr .none))), .none, 0⟩] []
def d87r1 : D := .reg false [⟨(.some 3), .mv (.t 0), .none, 0⟩, ⟨(.some 4), .eqv .ptr false (.t 3) (.c (.s (.ptr .none))), .none, 0⟩] []
def d87r2 : D := .reg false [⟨(.some 2), .mv (.c (.s (.ptr .none))), .none, 0⟩] []
def d87r3 : D := .reg true [⟨(.some 5), .mv (.t 0), .none, 0⟩, ⟨(.some 6), .nilck (.t 5), .none, 1⟩, ⟨(.some 7), .fld 0 (.t 6), .none, 3⟩, ⟨(.some 8), .ld true 26 (.t 7), .none, 7⟩, ⟨(.some 9), .mv (.t 0), .none, 0⟩, ⟨(.some 10), .nilck (.t 9), .none, 16⟩, ⟨(.some 11), .fld 26 (.t 10), .none, 48⟩, ⟨(.some 12), .ld false 1 (.t 11), .none, 112⟩, ⟨(.some 13), .mv (.t 0), .none, 0⟩, ⟨(.some 14), .nilck (.t 13), .none, 256⟩, ⟨(.some 15), .fld 27 (.t 14), .none, 768⟩, ⟨(.some 16), .ld false 1 (.t 15), .none, 1792⟩, ⟨(.some 17), .call 165 [(.t 16)], .none, 3840⟩, ⟨(.some 18), .mv (.t 0), .none, 0⟩, ⟨(.some 19), .nilck (.t 18), .none, 8192⟩, ⟨(.some 20), .fld 28 (.t 19), .none, 24576⟩, ⟨(.some 21), .ld false 1 (.t 20), .none, 57344⟩, ⟨(.some 22), .call 166 [(.t 21)], .none, 130816⟩, ⟨(.some 23), .mv (.t 0), .none, 0⟩, ⟨(.some 24), .nilck (.t 23), .none, 262144⟩, ⟨(.some 25), .fld 29 (.t 24), .none, 786432⟩, ⟨(.some 26), .ld false 1 (.t 25), .none, 1835008⟩, ⟨(.some 27), .call 167 [(.t 26)], .none, 4194048⟩, ⟨(.some 28), .mv (.t 0), .none, 0⟩, ⟨(.some 29), .nilck (.t 28), .none, 8388608⟩, ⟨(.some 30), .fld 30 (.t 29), .none, 25165824⟩, ⟨(.some 31), .ld false 1 (.t 30), .none, 58720256⟩, ⟨(.some 32), .call 168 [(.t 31)], .none, 134217472⟩, ⟨(.some 33), .mv (.t 0), .none, 0⟩, ⟨(.some 34), .nilck (.t 33), .none, 268435456⟩, ⟨(.some 35), .fld 31 (.t 34), .none, 805306368⟩, ⟨(.some 36), .ld false 1 (.t 35), .none, 1879048192⟩, ⟨(.some 37), .call 78 [(.t 36)], .none, 4294967040⟩, ⟨(.some 38), .build [(.int .i64 0), (.int .i64 0), (.int .i64 0), (.int .i64 0), (.int .i64 0), (.int .i64 0), (.int .i64 0), (.int .i64 0), (.int .i64 0), (.int .i64 0), (.int .i64 0), (.int .i64 0), (.int .i64 0), (.int .i64 0), (.int .i64 0), (.int .i64 0), (.int .i64 0), (.int .i64 0), (.int .i64 0), (.int .i64 0), (.int .i64 0), (.int .i64 0), (.int .i64 0), (.int .i64 0), (.int .i64 0), (.int .u64 0), (.int .i64 0), (.ptr .none), (.ptr .none), (.ptr .none), (.ptr .none), (.sl .none 0 0 true 1), (.int .i64 0)] [(0, 26, (.t 8)), (26, 1, (.t 12)), (27, 1, (.t 17)), (28, 1, (.t 22)), (29, 1, (.t 27)), (30, 1, (.t 32)), (31, 1, (.t 37))], .none, 8589934591⟩, ⟨(.some 39), .box 184 (.t 38), .none, 17179869183⟩, ⟨(.some 2), .mv (.t 39), .none, 34359738367⟩] []
/-- (*quorumite/state.State).Own -/
def d87 : Df := ⟨6, [.t 2], (.seq d87r0 (.seq (.seq d87r1 (.cond .none (.t 4) (.seq d87r2 .ret) .skip)) (.seq d87r3 .ret)))⟩
noncomputable def g87 (fx : Fx) (cl : Cl) (a0 : AV) (h0 : H) : R :=
  F.ob (pv (.eqv .ptr false (.c a0) (.c (.s (.ptr .none))))) fun v0 =>
  cnd v0 (
  out [(.s (.ptr .none))] h0) (
  F.ob (nilck a0) fun v1 =>
  F.ob (fld 0 v1) fun v2 =>
  F.ob (rdd (.ld true 26 (.c v2)) [] h0) fun v3 =>
  F.ob (nilck a0) fun v4 =>
  F.ob (fld 26 v4) fun v5 =>
  F.ob (rdd (.ld false 1 (.c v5)) [] h0) fun v6 =>
  F.ob (nilck a0) fun v7 =>
  F.ob (fld 27 v7) fun v8 =>
  F.ob (rdd (.ld false 1 (.c v8)) [] h0) fun v9 =>
  obh (chk Prod.snd [⟨none, .ld false 1 (.c v5), v6, 7⟩, ⟨none, .ld true 26 (.c v2), v3, 3⟩] (cl 165 [v9] h0)) fun v10 h1 =>
  F.ob (nilck a0) fun v11 =>
  F.ob (fld 28 v11) fun v12 =>
  F.ob (rdd (.ld false 1 (.c v12)) [(12, h0)] h1) fun v13 =>
  obh (chk Prod.snd [⟨none, .ld false 1 (.c v5), v6, 7⟩, ⟨none, .ld true 26 (.c v2), v3, 3⟩] (cl 166 [v13] h1)) fun v14 h2 =>
  F.ob (nilck a0) fun v15 =>
  F.ob (fld 29 v15) fun v16 =>
  F.ob (rdd (.ld false 1 (.c v16)) [(17, h1), (12, h0)] h2) fun v17 =>
  obh (chk Prod.snd [⟨none, .ld false 1 (.c v5), v6, 7⟩, ⟨none, .ld true 26 (.c v2), v3, 3⟩] (cl 167 [v17] h2)) fun v18 h3 =>
  F.ob (nilck a0) fun v19 =>
  F.ob (fld 30 v19) fun v20 =>
  F.ob (rdd (.ld false 1 (.c v20)) [(22, h2), (17, h1), (12, h0)] h3) fun v21 =>
  obh (chk Prod.snd [⟨none, .ld false 1 (.c v5), v6, 7⟩, ⟨none, .ld true 26 (.c v2), v3, 3⟩] (cl 168 [v21] h3)) fun v22 h4 =>
  F.ob (nilck a0) fun v23 =>
  F.ob (fld 31 v23) fun v24 =>
  F.ob (rdd (.ld false 1 (.c v24)) [(27, h3), (22, h2), (17, h1), (12, h0)] h4) fun v25 =>
  obh (chk Prod.snd [⟨none, .ld false 1 (.c v5), v6, 7⟩, ⟨none, .ld true 26 (.c v2), v3, 3⟩] (cl 78 [v25] h4)) fun v26 h5 =>
  F.ob (pv (.build [(.int .i64 0), (.int .i64 0), (.int .i64 0), (.int .i64 0), (.int .i64 0), (.int .i64 0), (.int .i64 0), (.int .i64 0), (.int .i64 0), (.int .i64 0), (.int .i64 0), (.int .i64 0), (.int .i64 0), (.int .i64 0), (.int .i64 0), (.int .i64 0), (.int .i64 0), (.int .i64 0), (.int .i64 0), (.int .i64 0), (.int .i64 0), (.int .i64 0), (.int .i64 0), (.int .i64 0), (.int .i64 0), (.int .u64 0), (.int .i64 0), (.ptr .none), (.ptr .none), (.ptr .none), (.ptr .none), (.sl .none 0 0 true 1), (.int .i64 0)] [(0, 26, .c v3), (26, 1, .c v6), (27, 1, .c v10), (28, 1, .c v14), (29, 1, .c v18), (30, 1, .c v22), (31, 1, .c v26)])) fun v27 =>
  obh (mkv (.box 184 (.c v27)) h5) fun v28 h6 =>
  out [v28] h6)
theorem e87 : (fun (fx : Fx) (cl : Cl) (a0 : AV) (h0 : H) => denF fx cl d87 [a0] h0) = g87 := by kernel_rfl
def d86r0 : D := .reg false [⟨(.some 2), .mv (.c (.s (.bool false))), .none, 0⟩] []
def d86r1 : D := .reg false [⟨(.some 3), .mv (.t 0), .none, 0⟩, ⟨(.some 4), .eqv .ptr true (.t 3) (.c (.s (.ptr .none))), .none, 0⟩, ⟨(.some 5), .mv (.t 4), .none, 0⟩, ⟨(.some 6), .mv (.t 0), (.some (5, true)), 0⟩, ⟨(.some 7), .nilck (.t 6), (.some (5, true)), 0⟩, ⟨(.some 8), .fld 2 (.t 7), (.some (5, true)), 0⟩, ⟨(.some 9), .ld false 1 (.t 8), (.some (5, true)), 0⟩, ⟨(.some 10), .pick (.t 5) (.t 9) (.c (.s (.bool false))), .none, 0⟩, ⟨(.some 2), .mv (.t 10), .none, 0⟩] []
/-- (*quorumite/sector.Disk).Down -/
def d86 : Df := ⟨4, [.t 2], (.seq d86r0 (.seq d86r1 .ret))⟩
noncomputable def g86 (fx : Fx) (cl : Cl) (a0 : AV) (h0 : H) : R :=
  F.ob (pv (.eqv .ptr true (.c a0) (.c (.s (.ptr .none))))) fun v0 =>
  F.ob (gd v0 true (some a0) (some nought)) fun v1 =>
  F.ob (gd v0 true (nilck v1) (some nought)) fun v2 =>
  F.ob (gd v0 true (fld 2 v2) (some nought)) fun v3 =>
  F.ob (gd v0 true (ld false 1 v3 h0) (some nought)) fun v4 =>
  F.ob (pv (.pick (.c v0) (.c v4) (.c (.s (.bool false))))) fun v5 =>
  out [v5] h0
theorem e86 : (fun (fx : Fx) (cl : Cl) (a0 : AV) (h0 : H) => denF fx cl d86 [a0] h0) = g86 := by kernel_rfl
def d36r0 : D := .reg false [⟨(.some 3), .box 40 (.t 1), .none, 0⟩, ⟨(.some 4), .alloc 44 [(.int .i64 0), (.int .i64 0), (.int .i64 0), (.bool false), (.int .i64 0), (.int .i64 0), (.int .i64 0), (.int .i64 0)], .none, 0⟩, ⟨(.some 5), .mv (.c (.s (.int .i64 0))), .none, 0⟩] []
def d36r1 : D := .reg false [⟨(.some 10), .mv (.t 0), .none, 0⟩, ⟨(.some 11), .eqv .ptr false (.t 10) (.c (.s (.ptr .none))), .none, 0⟩] []
def d36r2 : D := .reg false [⟨(.some 12), .build [(.int .i64 0), (.int .i64 0), (.int .i64 0), (.bool false), (.int .i64 0), (.int .i64 0), (.int .i64 0), (.int .i64 0)] [], .none, 0⟩, ⟨.none, .st 8 (.t 4) (.t 12), .none, 0⟩, ⟨(.some 5), .mv (.c (.s (.int .i64 1))), .none, 0⟩] []
def d36r3 : D := .reg false [⟨(.some 13), .mv (.t 0), .none, 0⟩, ⟨(.some 14), .mv (.t 0), .none, 0⟩, ⟨(.some 15), .nilck (.t 14), .none, 0⟩, ⟨(.some 16), .fld 30 (.t 15), .none, 0⟩, ⟨(.some 17), .ld false 1 (.t 16), .none, 0⟩, ⟨(.some 18), .mv (.t 17), .none, 0⟩, ⟨(.some 19), .mv (.t 0), (.some (18, false)), 0⟩, ⟨(.some 20), .nilck (.t 19), (.some (18, false)), 0⟩, ⟨(.some 21), .fld 26 (.t 20), (.some (18, false)), 0⟩, ⟨(.some 22), .ld false 1 (.t 21), (.some (18, false)), 0⟩, ⟨(.some 23), .call 86 [(.t 22)], (.some (18, false)), 0⟩, ⟨(.some 24), .pick (.t 18) (.c (.s (.bool true))) (.t 23), .none, 0⟩, ⟨(.some 25), .nilck (.t 13), .none, 0⟩, ⟨(.some 26), .fld 30 (.t 25), .none, 0⟩, ⟨.none, .st 1 (.t 26) (.t 24), .none, 0⟩] []
def d36r4 : D := .reg false [⟨(.some 27), .mv (.t 0), .none, 0⟩, ⟨(.some 28), .nilck (.t 27), .none, 0⟩, ⟨(.some 29), .fld 30 (.t 28), .none, 0⟩, ⟨(.some 30), .ld false 1 (.t 29), .none, 0⟩] []
def d36r5 : D := .reg false [⟨(.some 31), .build [(.int .i64 0), (.int .i64 0), (.int .i64 0), (.bool false), (.int .i64 0), (.int .i64 0), (.int .i64 0), (.int .i64 0)] [], .none, 0⟩, ⟨.none, .st 8 (.t 4) (.t 31), .none, 0⟩, ⟨(.some 5), .mv (.c (.s (.int .i64 10))), .none, 0⟩] []
def d36r6 : D := .reg true [⟨(.some 33), .mv (.t 0), .none, 0⟩, ⟨(.some 34), .nilck (.t 33), .none, 1⟩, ⟨(.some 35), .fld 27 (.t 34), .none, 3⟩, ⟨(.some 36), .ld false 1 (.t 35), .none, 7⟩, ⟨(.some 37), .call 87 [(.t 36)], .none, 15⟩, ⟨(.some 38), .ld true 8 (.t 3), .none, 0⟩, ⟨(.some 39), .call 50 [(.t 37), (.t 38)], .none, 63⟩, ⟨(.some 32), .mv (.t 39), .none, 127⟩, ⟨(.some 40), .ext (.t 32) 0, .none, 255⟩, ⟨(.some 41), .ext (.t 32) 1, .none, 255⟩, ⟨(.some 6), .alloc 44 [(.int .i64 0), (.int .i64 0), (.int .i64 0), (.bool false), (.int .i64 0), (.int .i64 0), (.int .i64 0), (.int .i64 0)], .none, 0⟩, ⟨.none, .st 8 (.t 6) (.t 40), .none, 1535⟩, ⟨(.some 7), .mv (.t 41), .none, 4095⟩] []
def d36r7 : D := .reg false [⟨(.some 42), .mv (.t 7), .none, 0⟩, ⟨(.some 43), .bin .neq (.t 42) (.c (.s (.int .i64 0))), .none, 0⟩] []
def d36r8 : D := .reg false [⟨(.some 44), .build [(.int .i64 0), (.int .i64 0), (.int .i64 0), (.bool false), (.int .i64 0), (.int .i64 0), (.int .i64 0), (.int .i64 0)] [], .none, 0⟩, ⟨(.some 45), .mv (.t 7), .none, 0⟩, ⟨.none, .st 8 (.t 4) (.t 44), .none, 0⟩, ⟨(.some 5), .mv (.t 45), .none, 0⟩] []
def d36r9 : D := .reg false [⟨(.some 46), .mv (.t 0), .none, 0⟩, ⟨(.some 47), .call 37 [(.t 46)], .none, 0⟩, ⟨(.some 48), .bin .eql (.t 47) (.c (.s (.int .i64 0))), .none, 0⟩] []
def d36r10 : D := .reg false [⟨(.some 49), .mv (.t 0), .none, 0⟩, ⟨(.some 50), .call 84 [(.t 49)], .none, 0⟩, ⟨(.some 8), .mv (.t 50), .none, 0⟩] []
def d36r11 : D := .reg false [⟨(.some 51), .mv (.t 8), .none, 0⟩, ⟨(.some 52), .bin .neq (.t 51) (.c (.s (.int .i64 0))), .none, 0⟩] []
def d36r12 : D := .reg false [⟨(.some 53), .build [(.int .i64 0), (.int .i64 0), (.int .i64 0), (.bool false), (.int .i64 0), (.int .i64 0), (.int .i64 0), (.int .i64 0)] [], .none, 0⟩, ⟨(.some 54), .mv (.t 8), .none, 0⟩, ⟨.none, .st 8 (.t 4) (.t 53), .none, 0⟩, ⟨(.some 5), .mv (.t 54), .none, 0⟩] []
def d36r13 : D := .reg true [⟨(.some 55), .mv (.t 0), .none, 0⟩, ⟨(.some 56), .mv (.t 0), .none, 0⟩, ⟨(.some 57), .nilck (.t 56), .none, 2⟩, ⟨(.some 58), .fld 28 (.t 57), .none, 6⟩, ⟨(.some 59), .ld false 1 (.t 58), .none, 14⟩, ⟨(.some 60), .mv (.t 0), .none, 0⟩, ⟨(.some 61), .nilck (.t 60), .none, 32⟩, ⟨(.some 62), .fld 29 (.t 61), .none, 96⟩, ⟨(.some 63), .ld false 1 (.t 62), .none, 224⟩, ⟨(.some 64), .ld true 8 (.t 3), .none, 0⟩, ⟨(.some 65), .call 89 [(.t 64)], .none, 512⟩, ⟨(.some 66), .build [(.int .u32 0), (.int .i64 0), (.int .i64 0), (.sl .none 0 0 true 1)] [(0, 1, (.t 59)), (1, 1, (.t 63)), (2, 1, (.c (.s (.int .i64 3)))), (3, 1, (.t 65))], .none, 2046⟩, ⟨(.some 67), .call 88 [(.t 55), (.t 66)], .none, 4095⟩, ⟨(.some 9), .mv (.t 67), .none, 8191⟩] []
def d36r14 : D := .reg false [⟨(.some 68), .mv (.t 9), .none, 0⟩, ⟨(.some 69), .bin .neq (.t 68) (.c (.s (.int .i64 0))), .none, 0⟩] []
def d36r15 : D := .reg false [⟨(.some 70), .build [(.int .i64 0), (.int .i64 0), (.int .i64 0), (.bool false), (.int .i64 0), (.int .i64 0), (.int .i64 0), (.int .i64 0)] [], .none, 0⟩, ⟨(.some 71), .mv (.t 9), .none, 0⟩, ⟨.none, .st 8 (.t 4) (.t 70), .none, 0⟩, ⟨(.some 5), .mv (.t 71), .none, 0⟩] []
def d36r16 : D := .reg false [⟨(.some 72), .mv (.t 0), .none, 0⟩, ⟨(.some 73), .nilck (.t 72), .none, 0⟩, ⟨(.some 74), .fld 29 (.t 73), .none, 0⟩, ⟨(.some 75), .ld false 1 (.t 74), .none, 0⟩, ⟨(.some 76), .bin .add (.t 75) (.c (.s (.int .i64 1))), .none, 0⟩, ⟨(.some 77), .nilck (.t 72), .none, 0⟩, ⟨(.some 78), .fld 29 (.t 77), .none, 0⟩, ⟨.none, .st 1 (.t 78) (.t 76), .none, 0⟩] []
def d36r17 : D := .reg false [⟨(.some 79), .mv (.t 0), .none, 0⟩, ⟨(.some 80), .nilck (.t 79), .none, 0⟩, ⟨(.some 81), .fld 31 (.t 80), .none, 0⟩, ⟨(.some 82), .call 72 [(.t 81), (.c (.s (.int .i64 1)))], .none, 0⟩] []
def d36r18 : D := .reg true [⟨(.some 83), .mv (.t 0), .none, 0⟩, ⟨(.some 84), .nilck (.t 83), .none, 1⟩, ⟨(.some 85), .fld 27 (.t 84), .none, 3⟩, ⟨(.some 86), .ld false 1 (.t 85), .none, 7⟩, ⟨(.some 87), .ld true 8 (.t 3), .none, 0⟩, ⟨(.some 88), .call 50 [(.t 86), (.t 87)], .none, 31⟩, ⟨(.some 89), .ext (.t 88) 0, .none, 63⟩, ⟨(.some 90), .ext (.t 88) 1, .none, 63⟩, ⟨.none, .st 8 (.t 4) (.t 89), .none, 255⟩, ⟨(.some 5), .mv (.t 90), .none, 511⟩] []
/-- (*quorumite/store.Store).Do -/
def d36 : Df := ⟨7, [.cell 4 true 8, .t 5], (.seq d36r0 (.seq (.seq d36r1 (.cond .none (.t 11) (.seq d36r2 .ret) .skip)) (.seq (.seq d36r3 (.seq d36r4 (.cond .none (.t 30) (.seq d36r5 .ret) .skip))) (.seq (.seq d36r6 (.seq d36r7 (.cond .none (.t 43) (.seq d36r8 .ret) .skip))) (.seq (.seq d36r9 (.cond (.some []) (.t 48) (.seq d36r10 (.seq d36r11 (.cond .none (.t 52) (.seq d36r12 .ret) .skip))) .skip)) (.seq (.seq d36r13 (.seq d36r14 (.cond .none (.t 69) (.seq d36r15 .ret) .skip))) (.seq d36r16 (.seq d36r17 (.seq d36r18 .ret)))))))))⟩
noncomputable def g36 (fx : Fx) (cl : Cl) (a0 a1 : AV) (h0 : H) : R :=
  obh (mkv (.box 40 (.c a1)) h0) fun v0 h1 =>
  obh (mkv (.alloc 44 [(.int .i64 0), (.int .i64 0), (.int .i64 0), (.bool false), (.int .i64 0), (.int .i64 0), (.int .i64 0), (.int .i64 0)]) h1) fun v1 h2 =>
  F.ob (pv (.eqv .ptr false (.c a0) (.c (.s (.ptr .none))))) fun v2 =>
  cnd v2 (
  F.ob (pv (.build [(.int .i64 0), (.int .i64 0), (.int .i64 0), (.bool false), (.int .i64 0), (.int .i64 0), (.int .i64 0), (.int .i64 0)] [])) fun v3 =>
  F.ob (st 8 v1 v3 h2) fun h3 =>
  F.ob (ld true 8 v1 h3) fun v4 =>
  out [v4, (.s (.int .i64 1))] h3) (
  F.ob (nilck a0) fun v5 =>
  F.ob (fld 30 v5) fun v6 =>
  F.ob (ld false 1 v6 h2) fun v7 =>
  F.ob (gd v7 false (some a0) (some nought)) fun v8 =>
  F.ob (gd v7 false (nilck v8) (some nought)) fun v9 =>
  F.ob (gd v7 false (fld 26 v9) (some nought)) fun v10 =>
  F.ob (gd v7 false (ld false 1 v10 h2) (some nought)) fun v11 =>
  obh (gd v7 false (cl 86 [v11] h2) (some (nought, h2))) fun v12 h4 =>
  F.ob (pv (.pick (.c v7) (.c (.s (.bool true))) (.c v12))) fun v13 =>
  F.ob (nilck a0) fun v14 =>
  F.ob (fld 30 v14) fun v15 =>
  F.ob (st 1 v15 v13 h4) fun h5 =>
  F.ob (nilck a0) fun v16 =>
  F.ob (fld 30 v16) fun v17 =>
  F.ob (ld false 1 v17 h5) fun v18 =>
  cnd v18 (
  F.ob (pv (.build [(.int .i64 0), (.int .i64 0), (.int .i64 0), (.bool false), (.int .i64 0), (.int .i64 0), (.int .i64 0), (.int .i64 0)] [])) fun v19 =>
  F.ob (st 8 v1 v19 h5) fun h6 =>
  F.ob (ld true 8 v1 h6) fun v20 =>
  out [v20, (.s (.int .i64 10))] h6) (
  F.ob (nilck a0) fun v21 =>
  F.ob (fld 27 v21) fun v22 =>
  F.ob (rdd (.ld false 1 (.c v22)) [] h5) fun v23 =>
  obh (cl 87 [v23] h5) fun v24 h7 =>
  F.ob (rdd (.ld true 8 (.c v0)) [(4, h5)] h7) fun v25 =>
  obh (cl 50 [v24, v25] h7) fun v26 h8 =>
  F.ob (pv (.ext (.c v26) 0)) fun v27 =>
  F.ob (pv (.ext (.c v26) 1)) fun v28 =>
  obh (mkv (.alloc 44 [(.int .i64 0), (.int .i64 0), (.int .i64 0), (.bool false), (.int .i64 0), (.int .i64 0), (.int .i64 0), (.int .i64 0)]) h8) fun v29 h9 =>
  F.ob (st 8 v29 v27 h9) fun h10 =>
  F.ob (F.bin .neq v28 (.s (.int .i64 0))) fun v30 =>
  cnd v30 (
  F.ob (pv (.build [(.int .i64 0), (.int .i64 0), (.int .i64 0), (.bool false), (.int .i64 0), (.int .i64 0), (.int .i64 0), (.int .i64 0)] [])) fun v31 =>
  F.ob (st 8 v1 v31 h10) fun h11 =>
  F.ob (ld true 8 v1 h11) fun v32 =>
  out [v32, v28] h11) (
  obh (cl 37 [a0] h10) fun v33 h12 =>
  F.ob (F.bin .eql v33 (.s (.int .i64 0))) fun v34 =>
  letJ (fun (p0 : Unit) h13 =>
  F.ob (nilck a0) fun v35 =>
  F.ob (fld 28 v35) fun v36 =>
  F.ob (rdd (.ld false 1 (.c v36)) [] h13) fun v37 =>
  F.ob (nilck a0) fun v38 =>
  F.ob (fld 29 v38) fun v39 =>
  F.ob (rdd (.ld false 1 (.c v39)) [] h13) fun v40 =>
  F.ob (rdd (.ld true 8 (.c v0)) [] h13) fun v41 =>
  obh (chk Prod.snd [⟨none, .ld false 1 (.c v39), v40, 8⟩, ⟨none, .ld false 1 (.c v36), v37, 4⟩] (cl 89 [v41] h13)) fun v42 h14 =>
  F.ob (pv (.build [(.int .u32 0), (.int .i64 0), (.int .i64 0), (.sl .none 0 0 true 1)] [(0, 1, .c v37), (1, 1, .c v40), (2, 1, .c (.s (.int .i64 3))), (3, 1, .c v42)])) fun v43 =>
  obh (cl 88 [a0, v43] h14) fun v44 h15 =>
  F.ob (F.bin .neq v44 (.s (.int .i64 0))) fun v45 =>
  cnd v45 (
  F.ob (pv (.build [(.int .i64 0), (.int .i64 0), (.int .i64 0), (.bool false), (.int .i64 0), (.int .i64 0), (.int .i64 0), (.int .i64 0)] [])) fun v46 =>
  F.ob (st 8 v1 v46 h15) fun h16 =>
  F.ob (ld true 8 v1 h16) fun v47 =>
  out [v47, v44] h16) (
  F.ob (nilck a0) fun v48 =>
  F.ob (fld 29 v48) fun v49 =>
  F.ob (ld false 1 v49 h15) fun v50 =>
  F.ob (F.bin .add v50 (.s (.int .i64 1))) fun v51 =>
  F.ob (nilck a0) fun v52 =>
  F.ob (fld 29 v52) fun v53 =>
  F.ob (st 1 v53 v51 h15) fun h17 =>
  F.ob (nilck a0) fun v54 =>
  F.ob (fld 31 v54) fun v55 =>
  obh (cl 72 [v55, (.s (.int .i64 1))] h17) fun v56 h18 =>
  F.ob (nilck a0) fun v57 =>
  F.ob (fld 27 v57) fun v58 =>
  F.ob (rdd (.ld false 1 (.c v58)) [] h18) fun v59 =>
  F.ob (rdd (.ld true 8 (.c v0)) [] h18) fun v60 =>
  obh (cl 50 [v59, v60] h18) fun v61 h19 =>
  F.ob (pv (.ext (.c v61) 0)) fun v62 =>
  F.ob (pv (.ext (.c v61) 1)) fun v63 =>
  F.ob (st 8 v1 v62 h19) fun h20 =>
  F.ob (ld true 8 v1 h20) fun v64 =>
  out [v64, v63] h20)) fun j0 =>
  cnd v34 (
  obh (cl 84 [a0] h12) fun v65 h21 =>
  F.ob (F.bin .neq v65 (.s (.int .i64 0))) fun v66 =>
  cnd v66 (
  F.ob (pv (.build [(.int .i64 0), (.int .i64 0), (.int .i64 0), (.bool false), (.int .i64 0), (.int .i64 0), (.int .i64 0), (.int .i64 0)] [])) fun v67 =>
  F.ob (st 8 v1 v67 h21) fun h22 =>
  F.ob (ld true 8 v1 h22) fun v68 =>
  out [v68, v65] h22) (
  j0 () h21)) (
  j0 () h12))))
theorem e36 : (fun (fx : Fx) (cl : Cl) (a0 a1 : AV) (h0 : H) => denF fx cl d36 [a0, a1] h0) = g36 := by kernel_rfl
def d37r0 : D := .reg false [⟨(.some 2), .mv (.c (.s (.int .i64 0))), .none, 0⟩] []
def d37r1 : D := .reg false [⟨(.some 3), .mv (.t 0), .none, 0⟩, ⟨(.some 4), .eqv .ptr false (.t 3) (.c (.s (.ptr .none))), .none, 0⟩] []
def d37r2 : D := .reg false [⟨(.some 2), .mv (.c (.s (.int .i64 0))), .none, 0⟩] []
def d37r3 : D := .reg true [⟨(.some 5), .mv (.t 0), .none, 0⟩, ⟨(.some 6), .nilck (.t 5), .none, 1⟩, ⟨(.some 7), .fld 0 (.t 6), .none, 3⟩, ⟨(.some 8), .ld true 26 (.t 7), .none, 7⟩, ⟨(.some 9), .call 90 [(.t 8)], .none, 15⟩, ⟨(.some 10), .mv (.t 0), .none, 0⟩, ⟨(.some 11), .nilck (.t 10), .none, 32⟩, ⟨(.some 12), .fld 29 (.t 11), .none, 96⟩, ⟨(.some 13), .ld false 1 (.t 12), .none, 224⟩, ⟨(.some 14), .bin .sub (.t 9) (.t 13), .none, 511⟩, ⟨(.some 2), .mv (.t 14), .none, 1023⟩] []
/-- (*quorumite/store.Store).Free -/
def d37 : Df := ⟨4, [.t 2], (.seq d37r0 (.seq (.seq d37r1 (.cond .none (.t 4) (.seq d37r2 .ret) .skip)) (.seq d37r3 .ret)))⟩
noncomputable def g37 (fx : Fx) (cl : Cl) (a0 : AV) (h0 : H) : R :=
  F.ob (pv (.eqv .ptr false (.c a0) (.c (.s (.ptr .none))))) fun v0 =>
  cnd v0 (
  out [(.s (.int .i64 0))] h0) (
  F.ob (nilck a0) fun v1 =>
  F.ob (fld 0 v1) fun v2 =>
  F.ob (rdd (.ld true 26 (.c v2)) [] h0) fun v3 =>
  obh (cl 90 [v3] h0) fun v4 h1 =>
  F.ob (nilck a0) fun v5 =>
  F.ob (fld 29 v5) fun v6 =>
  F.ob (rdd (.ld false 1 (.c v6)) [(4, h0)] h1) fun v7 =>
  F.ob (F.bin .sub v4 v7) fun v8 =>
  out [v8] h1)
theorem e37 : (fun (fx : Fx) (cl : Cl) (a0 : AV) (h0 : H) => denF fx cl d37 [a0] h0) = g37 := by kernel_rfl
def d35r0 : D := .reg false [⟨(.some 2), .mv (.c (.s (.int .u32 0))), .none, 0⟩] []
def d35r1 : D := .reg false [⟨(.some 3), .mv (.t 0), .none, 0⟩, ⟨(.some 4), .eqv .ptr false (.t 3) (.c (.s (.ptr .none))), .none, 0⟩] []
def d35r2 : D := .reg false [⟨(.some 2), .mv (.c (.s (.int .u32 0))), .none, 0⟩] []
def d35r3 : D := .reg false [⟨(.some 5), .mv (.t 0), .none, 0⟩, ⟨(.some 6), .nilck (.t 5), .none, 0⟩, ⟨(.some 7), .fld 28 (.t 6), .none, 0⟩, ⟨(.some 8), .ld false 1 (.t 7), .none, 0⟩, ⟨(.some 2), .mv (.t 8), .none, 0⟩] []
/-- (*quorumite/store.Store).Pass -/
def d35 : Df := ⟨4, [.t 2], (.seq d35r0 (.seq (.seq d35r1 (.cond .none (.t 4) (.seq d35r2 .ret) .skip)) (.seq d35r3 .ret)))⟩
noncomputable def g35 (fx : Fx) (cl : Cl) (a0 : AV) (h0 : H) : R :=
  F.ob (pv (.eqv .ptr false (.c a0) (.c (.s (.ptr .none))))) fun v0 =>
  cnd v0 (
  out [(.s (.int .u32 0))] h0) (
  F.ob (nilck a0) fun v1 =>
  F.ob (fld 28 v1) fun v2 =>
  F.ob (ld false 1 v2 h0) fun v3 =>
  out [v3] h0)
theorem e35 : (fun (fx : Fx) (cl : Cl) (a0 : AV) (h0 : H) => denF fx cl d35 [a0] h0) = g35 := by kernel_rfl
def d72r0 : D := .reg false [⟨(.some 4), .mv (.c (.s (.int .i64 0))), .none, 0⟩] []
def d72r1 : D := .reg false [⟨(.some 5), .mv (.t 0), .none, 0⟩, ⟨(.some 6), .nilck (.t 5), .none, 0⟩, ⟨(.some 7), .fld 0 (.t 6), .none, 0⟩, ⟨(.some 8), .mv (.t 1), .none, 0⟩, ⟨(.some 9), .call 149 [(.t 7), (.t 8)], .none, 0⟩, ⟨(.some 4), .mv (.t 9), .none, 0⟩] []
/-- (*sync/atomic.Int64).Add -/
def d72 : Df := ⟨4, [.t 4], (.seq d72r0 (.seq d72r1 .ret))⟩
noncomputable def g72 (fx : Fx) (cl : Cl) (a0 a1 : AV) (h0 : H) : R :=
  F.ob (nilck a0) fun v0 =>
  F.ob (fld 0 v0) fun v1 =>
  obh (cl 149 [v1, a1] h0) fun v2 h1 =>
  out [v2] h1
theorem e72 : (fun (fx : Fx) (cl : Cl) (a0 a1 : AV) (h0 : H) => denF fx cl d72 [a0, a1] h0) = g72 := by kernel_rfl
end Go.AM.T20
