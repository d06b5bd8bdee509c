/- Functions of the program, read. -/
import Derived.Test.YtfniiaghlkacaaaGreatGm5
import Derived.KernelRfl
namespace Go.AM.T20
open Go Go.AM Go.AM.G
set_option linter.unusedVariables false
set_option maxRecDepth 8000
def d170r0 : D := .reg false [⟨(.some 6), .mv (.c (.s (.int .i64 0))), .none, 0⟩] []
def d170r1 : D := .reg false [⟨(.some 8), .mv (.t 0), .none, 0⟩, ⟨(.some 9), .eqv .ptr false (.t 8) (.c (.s (.ptr .none))), .none, 0⟩, ⟨(.some 7), .mv (.t 9), .none, 0⟩] []
def d170r2 : D := .reg false [⟨(.some 6), .mv (.c (.s (.int .i64 1))), .none, 0⟩] []
def d170r3 : D := .reg false [⟨(.some 11), .mv (.t 0), .none, 0⟩, ⟨(.some 12), .nilck (.t 11), .none, 0⟩, ⟨(.some 13), .fld 2 (.t 12), .none, 0⟩, ⟨(.some 14), .ld false 1 (.t 13), .none, 0⟩, ⟨(.some 10), .mv (.t 14), .none, 0⟩] []
def d170r4 : D := .reg false [⟨(.some 6), .mv (.c (.s (.int .i64 10))), .none, 0⟩] []
def d170r5 : D := .reg false [⟨(.some 16), .mv (.t 1), .none, 0⟩, ⟨(.some 17), .bin .lss (.t 16) (.c (.s (.int .i64 0))), .none, 0⟩, ⟨(.some 18), .mv (.t 17), .none, 0⟩, ⟨(.some 19), .mv (.t 1), (.some (18, false)), 0⟩, ⟨(.some 20), .mv (.t 0), (.some (18, false)), 0⟩, ⟨(.some 21), .nilck (.t 20), (.some (18, false)), 0⟩, ⟨(.some 22), .fld 0 (.t 21), (.some (18, false)), 0⟩, ⟨(.some 23), .ld false 1 (.t 22), (.some (18, false)), 0⟩, ⟨(.some 24), .len (.sl 0) (.t 23), (.some (18, false)), 0⟩, ⟨(.some 25), .bin .geq (.t 19) (.t 24), (.some (18, false)), 0⟩, ⟨(.some 26), .pick (.t 18) (.c (.s (.bool true))) (.t 25), .none, 0⟩, ⟨(.some 27), .mv (.t 26), .none, 0⟩, ⟨(.some 28), .mv (.t 2), (.some (27, false)), 0⟩, ⟨(.some 29), .len (.sl 0) (.t 28), (.some (27, false)), 0⟩, ⟨(.some 30), .bin .neq (.t 29) (.c (.s (.int .i64 64))), (.some (27, false)), 0⟩, ⟨(.some 31), .pick (.t 27) (.c (.s (.bool true))) (.t 30), .none, 0⟩, ⟨(.some 15), .mv (.t 31), .none, 0⟩] []
def d170r6 : D := .reg false [⟨(.some 6), .mv (.c (.s (.int .i64 1))), .none, 0⟩] []
def d170r7 : D := .reg false [⟨(.some 32), .mv (.t 0), .none, 0⟩, ⟨(.some 33), .nilck (.t 32), .none, 0⟩, ⟨(.some 34), .fld 3 (.t 33), .none, 0⟩, ⟨(.some 35), .call 72 [(.t 34), (.c (.s (.int .i64 1)))], .none, 0⟩] []
def d170r8 : D := .reg false [⟨(.some 36), .mv (.t 0), .none, 0⟩, ⟨(.some 37), .nilck (.t 36), .none, 0⟩, ⟨(.some 38), .fld 1 (.t 37), .none, 0⟩, ⟨(.some 39), .ld false 1 (.t 38), .none, 0⟩, ⟨(.some 40), .bin .eql (.t 39) (.c (.s (.int .i64 (-1)))), .none, 0⟩] []
def d170r9 : D := .reg false [⟨(.some 41), .mv (.t 0), .none, 0⟩, ⟨(.some 42), .nilck (.t 41), .none, 0⟩, ⟨(.some 43), .fld 0 (.t 42), .none, 0⟩, ⟨(.some 44), .ld false 1 (.t 43), .none, 0⟩, ⟨(.some 45), .mv (.t 1), .none, 0⟩, ⟨(.some 46), .idxa (.sl 1) (.t 44) (.t 45), .none, 0⟩, ⟨(.some 47), .ld false 1 (.t 46), .none, 0⟩, ⟨(.some 48), .mv (.t 2), .none, 0⟩, ⟨(.some 49), .copy 1 (.t 47) (.t 48), .none, 0⟩] []
def d170r10 : D := .reg false [⟨(.some 6), .mv (.c (.s (.int .i64 0))), .none, 0⟩] []
def d170r11 : D := .reg true [⟨(.some 50), .mv (.t 0), .none, 0⟩, ⟨(.some 51), .nilck (.t 50), .none, 1⟩, ⟨(.some 52), .fld 0 (.t 51), .none, 3⟩, ⟨(.some 53), .ld false 1 (.t 52), .none, 7⟩, ⟨(.some 54), .mv (.t 1), .none, 0⟩, ⟨(.some 55), .idxa (.sl 1) (.t 53) (.t 54), .none, 31⟩, ⟨(.some 56), .ld false 1 (.t 55), .none, 63⟩, ⟨(.some 57), .mv (.t 2), .none, 0⟩, ⟨(.some 58), .mv (.t 0), .none, 0⟩, ⟨(.some 59), .nilck (.t 58), .none, 256⟩, ⟨(.some 60), .fld 1 (.t 59), .none, 768⟩, ⟨(.some 61), .ld false 1 (.t 60), .none, 1792⟩, ⟨(.some 62), .slc (.sl 1) (.t 57) .none (.some (.t 61)) .none, .none, 3968⟩, ⟨(.some 63), .copy 1 (.t 56) (.t 62), .none, 8191⟩] []
def d170r12 : D := .reg false [⟨(.some 64), .mv (.t 0), .none, 0⟩, ⟨(.some 65), .mv (.t 0), .none, 0⟩, ⟨(.some 66), .nilck (.t 64), .none, 0⟩, ⟨(.some 67), .fld 1 (.t 66), .none, 0⟩, ⟨.none, .st 1 (.t 67) (.c (.s (.int .i64 (-1)))), .none, 0⟩, ⟨(.some 68), .nilck (.t 65), .none, 0⟩, ⟨(.some 69), .fld 2 (.t 68), .none, 0⟩, ⟨.none, .st 1 (.t 69) (.c (.s (.bool true))), .none, 0⟩] []
def d170r13 : D := .reg false [⟨(.some 6), .mv (.c (.s (.int .i64 10))), .none, 0⟩] []
/-- (*quorumite/sector.Disk).Write -/
def d170 : Df := ⟨7, [.t 6], (.seq d170r0 (.seq (.blk .none 0 (.seq d170r1 (.cond .none (.t 7) (.seq d170r2 .ret) (.seq d170r3 (.cond .none (.t 10) (.seq d170r4 .ret) (.seq d170r5 (.cond .none (.t 15) (.seq d170r6 .ret) .skip))))))) (.seq d170r7 (.seq (.seq d170r8 (.cond .none (.t 40) (.seq d170r9 (.seq d170r10 .ret)) .skip)) (.seq d170r11 (.seq d170r12 (.seq d170r13 .ret)))))))⟩
noncomputable def g170 (fx : Fx) (cl : Cl) (a0 a1 a2 : AV) (h0 : H) : R :=
  F.ob (pv (.eqv .ptr false (.c a0) (.c (.s (.ptr .none))))) fun v0 =>
  cnd v0 (
  out [(.s (.int .i64 1))] h0) (
  F.ob (nilck a0) fun v1 =>
  F.ob (fld 2 v1) fun v2 =>
  F.ob (ld false 1 v2 h0) fun v3 =>
  cnd v3 (
  out [(.s (.int .i64 10))] h0) (
  F.ob (F.bin .lss a1 (.s (.int .i64 0))) fun v4 =>
  F.ob (gd v4 false (some a1) (some nought)) fun v5 =>
  F.ob (gd v4 false (some a0) (some nought)) fun v6 =>
  F.ob (gd v4 false (nilck v6) (some nought)) fun v7 =>
  F.ob (gd v4 false (fld 0 v7) (some nought)) fun v8 =>
  F.ob (gd v4 false (ld false 1 v8 h0) (some nought)) fun v9 =>
  F.ob (gd v4 false (pv (.len (.sl 0) (.c v9))) (some nought)) fun v10 =>
  F.ob (gd v4 false (F.bin .geq v5 v10) (some nought)) fun v11 =>
  F.ob (pv (.pick (.c v4) (.c (.s (.bool true))) (.c v11))) fun v12 =>
  F.ob (gd v12 false (some a2) (some nought)) fun v13 =>
  F.ob (gd v12 false (pv (.len (.sl 0) (.c v13))) (some nought)) fun v14 =>
  F.ob (gd v12 false (F.bin .neq v14 (.s (.int .i64 64))) (some nought)) fun v15 =>
  F.ob (pv (.pick (.c v12) (.c (.s (.bool true))) (.c v15))) fun v16 =>
  cnd v16 (
  out [(.s (.int .i64 1))] h0) (
  F.ob (nilck a0) fun v17 =>
  F.ob (fld 3 v17) fun v18 =>
  obh (cl 72 [v18, (.s (.int .i64 1))] h0) fun v19 h1 =>
  F.ob (nilck a0) fun v20 =>
  F.ob (fld 1 v20) fun v21 =>
  F.ob (ld false 1 v21 h1) fun v22 =>
  F.ob (F.bin .eql v22 (.s (.int .i64 (-1)))) fun v23 =>
  cnd v23 (
  F.ob (nilck a0) fun v24 =>
  F.ob (fld 0 v24) fun v25 =>
  F.ob (ld false 1 v25 h1) fun v26 =>
  F.ob (idxa (.sl 1) v26 a1) fun v27 =>
  F.ob (ld false 1 v27 h1) fun v28 =>
  obh (av (.copy 1 (.c v28) (.c a2)) h1) fun v29 h2 =>
  out [(.s (.int .i64 0))] h2) (
  F.ob (nilck a0) fun v30 =>
  F.ob (fld 0 v30) fun v31 =>
  F.ob (rdd (.ld false 1 (.c v31)) [] h1) fun v32 =>
  F.ob (idxa (.sl 1) v32 a1) fun v33 =>
  F.ob (rdd (.ld false 1 (.c v33)) [] h1) fun v34 =>
  F.ob (nilck a0) fun v35 =>
  F.ob (fld 1 v35) fun v36 =>
  F.ob (rdd (.ld false 1 (.c v36)) [] h1) fun v37 =>
  F.ob (pv (.slc (.sl 1) (.c a2) .none (.some (.c v37)) .none)) fun v38 =>
  obh (av (.copy 1 (.c v34) (.c v38)) h1) fun v39 h3 =>
  F.ob (nilck a0) fun v40 =>
  F.ob (fld 1 v40) fun v41 =>
  F.ob (st 1 v41 (.s (.int .i64 (-1))) h3) fun h4 =>
  F.ob (nilck a0) fun v42 =>
  F.ob (fld 2 v42) fun v43 =>
  F.ob (st 1 v43 (.s (.bool true)) h4) fun h5 =>
  out [(.s (.int .i64 10))] h5))))
theorem e170 : (fun (fx : Fx) (cl : Cl) (a0 a1 a2 : AV) (h0 : H) => denF fx cl d170 [a0, a1, a2] h0) = g170 := by kernel_rfl
def d240r0 : D := .reg false [⟨(.some 2), .mv (.c (.s (.int .u8 0))), .none, 0⟩] []
def d240r1 : D := .reg false [⟨(.some 3), .mv (.t 0), .none, 0⟩, ⟨(.some 4), .bin .gtr (.t 3) (.c (.s (.int .u32 250))), .none, 0⟩] []
def d240r2 : D := .reg false [⟨(.some 2), .mv (.c (.s (.int .u8 0))), .none, 0⟩] []
def d240r3 : D := .reg false [⟨(.some 5), .mv (.t 0), .none, 0⟩, ⟨(.some 6), .conv .u8 (.t 5), .none, 0⟩, ⟨(.some 2), .mv (.t 6), .none, 0⟩] []
/-- quorumite/log.Mark -/
def d240 : Df := ⟨3, [.t 2], (.seq d240r0 (.seq (.seq d240r1 (.cond .none (.t 4) (.seq d240r2 .ret) .skip)) (.seq d240r3 .ret)))⟩
noncomputable def g240 (fx : Fx) (cl : Cl) (a0 : AV) (h0 : H) : R :=
  F.ob (F.bin .gtr a0 (.s (.int .u32 250))) fun v0 =>
  cnd v0 (
  out [(.s (.int .u8 0))] h0) (
  F.ob (conv .u8 a0) fun v1 =>
  out [v1] h0)
theorem e240 : (fun (fx : Fx) (cl : Cl) (a0 : AV) (h0 : H) => denF fx cl d240 [a0] h0) = g240 := by kernel_rfl
def d239r0 : D := .reg false [⟨(.some 2), .mv (.c (.s (.int .u32 0))), .none, 0⟩] []
def d239r1 : D := .reg false [⟨(.some 3), .mv (.c (.s (.int .u32 0))), .none, 0⟩] []
def d239r2 : D := .reg false [⟨(.some 6), .mv (.t 0), .none, 0⟩, ⟨(.some 7), .len (.sl 0) (.t 6), .none, 0⟩, ⟨(.some 8), .mv (.c (.s (.int .i64 0))), .none, 0⟩] []
def d239r3 : D := .reg false [⟨(.some 9), .bin .lss (.t 8) (.t 7), .none, 0⟩] []
def d239r4 : D := .reg false [⟨(.some 10), .mv (.t 8), .none, 0⟩, ⟨(.some 11), .idxa (.sl 1) (.t 6) (.t 8), .none, 0⟩, ⟨(.some 12), .ld false 1 (.t 11), .none, 0⟩, ⟨(.some 4), .mv (.t 10), .none, 0⟩, ⟨(.some 5), .mv (.t 12), .none, 0⟩] []
def d239r5 : D := .reg false [⟨(.some 13), .mv (.t 3), .none, 0⟩, ⟨(.some 14), .mv (.t 4), .none, 0⟩, ⟨(.some 15), .bin .add (.t 14) (.c (.s (.int .i64 1))), .none, 0⟩, ⟨(.some 16), .conv .u32 (.t 15), .none, 0⟩, ⟨(.some 17), .mv (.t 5), .none, 0⟩, ⟨(.some 18), .conv .u32 (.t 17), .none, 0⟩, ⟨(.some 19), .bin .add (.t 18) (.c (.s (.int .u32 1))), .none, 0⟩, ⟨(.some 20), .bin .mul (.t 16) (.t 19), .none, 0⟩, ⟨(.some 21), .bin .add (.t 13) (.t 20), .none, 0⟩, ⟨(.some 3), .mv (.t 21), .none, 0⟩] []
def d239r6 : D := .reg false [⟨(.some 22), .bin .add (.t 8) (.c (.s (.int .i64 1))), .none, 0⟩, ⟨(.some 8), .mv (.t 22), .none, 0⟩] []
def d239r7 : D := .reg false [⟨(.some 23), .mv (.t 3), .none, 0⟩, ⟨(.some 2), .mv (.t 23), .none, 0⟩] []
/-- quorumite/log.Sum -/
def d239 : Df := ⟨5, [.t 2], (.seq d239r0 (.seq d239r1 (.seq (.seq d239r2 (.blk (.some [3]) 0 (.loop [3, 8] (.seq d239r3 (.seq (.cond .none (.t 9) .skip (.exit 0)) (.seq (.blk .none 1 (.seq d239r4 d239r5)) d239r6)))))) (.seq d239r7 .ret))))⟩
noncomputable def g239 (fx : Fx) (cl : Cl) (a0 : AV) (h0 : H) : R :=
  F.ob (pv (.len (.sl 0) (.c a0))) fun v0 =>
  letJ (fun (p0 : AV) h1 =>
  out [p0] h1) fun j0 =>
  fx (AV × AV) (fun (r1 : (AV × AV) → H → R) (p1 : AV × AV) h2 =>
  F.ob (F.bin .lss p1.2 v0) fun v1 =>
  cnd v1 (
  F.ob (idxa (.sl 1) a0 p1.2) fun v2 =>
  F.ob (ld false 1 v2 h2) fun v3 =>
  F.ob (F.bin .add p1.2 (.s (.int .i64 1))) fun v4 =>
  F.ob (conv .u32 v4) fun v5 =>
  F.ob (conv .u32 v3) fun v6 =>
  F.ob (F.bin .add v6 (.s (.int .u32 1))) fun v7 =>
  F.ob (F.bin .mul v5 v7) fun v8 =>
  F.ob (F.bin .add p1.1 v8) fun v9 =>
  F.ob (F.bin .add p1.2 (.s (.int .i64 1))) fun v10 =>
  r1 (v9, v10) h2) (
  j0 p1.1 h2)) ((.s (.int .u32 0)), (.s (.int .i64 0))) h0
theorem e239 : (fun (fx : Fx) (cl : Cl) (a0 : AV) (h0 : H) => denF fx cl d239 [a0] h0) = g239 := by kernel_rfl
def d238r0 : D := .reg false [⟨(.some 1), .box 70 (.t 0), .none, 0⟩, ⟨(.some 2), .mv (.c (.s (.bool false))), .none, 0⟩] []
def d238r1 : D := .reg false [⟨(.some 3), .fld 0 (.t 1), .none, 0⟩, ⟨(.some 4), .ld false 1 (.t 3), .none, 0⟩, ⟨(.some 5), .bin .geq (.t 4) (.c (.s (.int .u32 1))), .none, 0⟩, ⟨(.some 6), .mv (.t 5), .none, 0⟩, ⟨(.some 7), .fld 0 (.t 1), (.some (6, true)), 0⟩, ⟨(.some 8), .ld false 1 (.t 7), (.some (6, true)), 0⟩, ⟨(.some 9), .bin .leq (.t 8) (.c (.s (.int .u32 250))), (.some (6, true)), 0⟩, ⟨(.some 10), .pick (.t 6) (.t 9) (.c (.s (.bool false))), .none, 0⟩, ⟨(.some 11), .mv (.t 10), .none, 0⟩, ⟨(.some 12), .fld 1 (.t 1), (.some (11, true)), 0⟩, ⟨(.some 13), .ld false 1 (.t 12), (.some (11, true)), 0⟩, ⟨(.some 14), .bin .geq (.t 13) (.c (.s (.int .i64 0))), (.some (11, true)), 0⟩, ⟨(.some 15), .pick (.t 11) (.t 14) (.c (.s (.bool false))), .none, 0⟩, ⟨(.some 16), .mv (.t 15), .none, 0⟩, ⟨(.some 17), .fld 1 (.t 1), (.some (16, true)), 0⟩, ⟨(.some 18), .ld false 1 (.t 17), (.some (16, true)), 0⟩, ⟨(.some 19), .bin .leq (.t 18) (.c (.s (.int .i64 4096))), (.some (16, true)), 0⟩, ⟨(.some 20), .pick (.t 16) (.t 19) (.c (.s (.bool false))), .none, 0⟩, ⟨(.some 21), .mv (.t 20), .none, 0⟩, ⟨(.some 22), .fld 2 (.t 1), (.some (21, true)), 0⟩, ⟨(.some 23), .ld false 1 (.t 22), (.some (21, true)), 0⟩, ⟨(.some 24), .bin .geq (.t 23) (.c (.s (.int .i64 1))), (.some (21, true)), 0⟩, ⟨(.some 25), .pick (.t 21) (.t 24) (.c (.s (.bool false))), .none, 0⟩, ⟨(.some 26), .mv (.t 25), .none, 0⟩, ⟨(.some 27), .fld 2 (.t 1), (.some (26, true)), 0⟩, ⟨(.some 28), .ld false 1 (.t 27), (.some (26, true)), 0⟩, ⟨(.some 29), .bin .leq (.t 28) (.c (.s (.int .i64 3))), (.some (26, true)), 0⟩, ⟨(.some 30), .pick (.t 26) (.t 29) (.c (.s (.bool false))), .none, 0⟩, ⟨(.some 31), .mv (.t 30), .none, 0⟩, ⟨(.some 32), .fld 3 (.t 1), (.some (31, true)), 0⟩, ⟨(.some 33), .ld false 1 (.t 32), (.some (31, true)), 0⟩, ⟨(.some 34), .len (.sl 0) (.t 33), (.some (31, true)), 0⟩, ⟨(.some 35), .bin .leq (.t 34) (.c (.s (.int .i64 48))), (.some (31, true)), 0⟩, ⟨(.some 36), .pick (.t 31) (.t 35) (.c (.s (.bool false))), .none, 0⟩, ⟨(.some 2), .mv (.t 36), .none, 0⟩] []
/-- quorumite/log.May -/
def d238 : Df := ⟨6, [.t 2], (.seq d238r0 (.seq d238r1 .ret))⟩
noncomputable def g238 (fx : Fx) (cl : Cl) (a0 : AV) (h0 : H) : R :=
  obh (mkv (.box 70 (.c a0)) h0) fun v0 h1 =>
  F.ob (fld 0 v0) fun v1 =>
  F.ob (ld false 1 v1 h1) fun v2 =>
  F.ob (F.bin .geq v2 (.s (.int .u32 1))) fun v3 =>
  F.ob (gd v3 true (fld 0 v0) (some nought)) fun v4 =>
  F.ob (gd v3 true (ld false 1 v4 h1) (some nought)) fun v5 =>
  F.ob (gd v3 true (F.bin .leq v5 (.s (.int .u32 250))) (some nought)) fun v6 =>
  F.ob (pv (.pick (.c v3) (.c v6) (.c (.s (.bool false))))) fun v7 =>
  F.ob (gd v7 true (fld 1 v0) (some nought)) fun v8 =>
  F.ob (gd v7 true (ld false 1 v8 h1) (some nought)) fun v9 =>
  F.ob (gd v7 true (F.bin .geq v9 (.s (.int .i64 0))) (some nought)) fun v10 =>
  F.ob (pv (.pick (.c v7) (.c v10) (.c (.s (.bool false))))) fun v11 =>
  F.ob (gd v11 true (fld 1 v0) (some nought)) fun v12 =>
  F.ob (gd v11 true (ld false 1 v12 h1) (some nought)) fun v13 =>
  F.ob (gd v11 true (F.bin .leq v13 (.s (.int .i64 4096))) (some nought)) fun v14 =>
  F.ob (pv (.pick (.c v11) (.c v14) (.c (.s (.bool false))))) fun v15 =>
  F.ob (gd v15 true (fld 2 v0) (some nought)) fun v16 =>
  F.ob (gd v15 true (ld false 1 v16 h1) (some nought)) fun v17 =>
  F.ob (gd v15 true (F.bin .geq v17 (.s (.int .i64 1))) (some nought)) fun v18 =>
  F.ob (pv (.pick (.c v15) (.c v18) (.c (.s (.bool false))))) fun v19 =>
  F.ob (gd v19 true (fld 2 v0) (some nought)) fun v20 =>
  F.ob (gd v19 true (ld false 1 v20 h1) (some nought)) fun v21 =>
  F.ob (gd v19 true (F.bin .leq v21 (.s (.int .i64 3))) (some nought)) fun v22 =>
  F.ob (pv (.pick (.c v19) (.c v22) (.c (.s (.bool false))))) fun v23 =>
  F.ob (gd v23 true (fld 3 v0) (some nought)) fun v24 =>
  F.ob (gd v23 true (ld false 1 v24 h1) (some nought)) fun v25 =>
  F.ob (gd v23 true (pv (.len (.sl 0) (.c v25))) (some nought)) fun v26 =>
  F.ob (gd v23 true (F.bin .leq v26 (.s (.int .i64 48))) (some nought)) fun v27 =>
  F.ob (pv (.pick (.c v23) (.c v27) (.c (.s (.bool false))))) fun v28 =>
  out [v28] h1
theorem e238 : (fun (fx : Fx) (cl : Cl) (a0 : AV) (h0 : H) => denF fx cl d238 [a0] h0) = g238 := by kernel_rfl
def d169r0 : D := .reg false [⟨(.some 1), .box 70 (.t 0), .none, 0⟩, ⟨(.some 2), .mv (.c (.s (.sl .none 0 0 true 1))), .none, 0⟩, ⟨(.some 3), .mv (.c (.s (.int .i64 0))), .none, 0⟩] []
def d169r1 : D := .reg false [⟨(.some 5), .ld true 4 (.t 1), .none, 0⟩, ⟨(.some 6), .call 238 [(.t 5)], .none, 0⟩, ⟨(.some 7), .un .not (.t 6), .none, 0⟩] []
def d169r2 : D := .reg false [⟨(.some 2), .mv (.c (.s (.sl .none 0 0 true 1))), .none, 0⟩, ⟨(.some 3), .mv (.c (.s (.int .i64 1))), .none, 0⟩] []
def d169r3 : D := .reg true [⟨(.some 8), .fld 0 (.t 1), .none, 0⟩, ⟨(.some 9), .ld false 1 (.t 8), .none, 1⟩, ⟨(.some 10), .conv .u64 (.t 9), .none, 3⟩, ⟨(.some 11), .call 188 [(.t 10)], .none, 7⟩, ⟨(.some 12), .slc (.sl 1) (.t 11) .none (.some (.c (.s (.int .i64 4)))) .none, .none, 15⟩, ⟨(.some 13), .fld 1 (.t 1), .none, 0⟩, ⟨(.some 14), .ld false 1 (.t 13), .none, 32⟩, ⟨(.some 15), .conv .u8 (.t 14), .none, 96⟩, ⟨(.some 16), .fld 1 (.t 1), .none, 0⟩, ⟨(.some 17), .ld false 1 (.t 16), .none, 256⟩, ⟨(.some 18), .bin .shr (.t 17) (.c (.s (.int .u64 8))), .none, 768⟩, ⟨(.some 19), .conv .u8 (.t 18), .none, 1792⟩, ⟨(.some 20), .fld 2 (.t 1), .none, 0⟩, ⟨(.some 21), .ld false 1 (.t 20), .none, 4096⟩, ⟨(.some 22), .conv .u8 (.t 21), .none, 12288⟩, ⟨(.some 23), .fld 3 (.t 1), .none, 0⟩, ⟨(.some 24), .ld false 1 (.t 23), .none, 32768⟩, ⟨(.some 25), .len (.sl 0) (.t 24), .none, 98304⟩, ⟨(.some 26), .conv .u8 (.t 25), .none, 229376⟩, ⟨(.some 27), .bslice 5 1 4 [(.int .u8 0), (.int .u8 0), (.int .u8 0), (.int .u8 0)] [(0, 1, (.t 15)), (1, 1, (.t 19)), (2, 1, (.t 22)), (3, 1, (.t 26))], .none, 524256⟩, ⟨(.some 28), .app 5 1 1 (.t 12) (.t 27), .none, 1048575⟩, ⟨(.some 4), .mv (.t 28), .none, 2097151⟩] []
def d169r4 : D := .reg true [⟨(.some 29), .mv (.t 4), .none, 0⟩, ⟨(.some 30), .fld 3 (.t 1), .none, 0⟩, ⟨(.some 31), .ld false 1 (.t 30), .none, 2⟩, ⟨(.some 32), .app 5 1 1 (.t 29) (.t 31), .none, 7⟩, ⟨(.some 33), .fld 3 (.t 1), .none, 0⟩, ⟨(.some 34), .ld false 1 (.t 33), .none, 16⟩, ⟨(.some 35), .len (.sl 0) (.t 34), .none, 48⟩, ⟨(.some 36), .bin .sub (.c (.s (.int .i64 48))) (.t 35), .none, 112⟩, ⟨(.some 37), .app0 5 [(.int .u8 0)] 1 (.t 32) (.t 36), .none, 255⟩, ⟨(.some 4), .mv (.t 37), .none, 511⟩] []
def d169r5 : D := .reg false [⟨(.some 38), .mv (.t 4), .none, 0⟩, ⟨(.some 39), .mv (.t 4), .none, 0⟩, ⟨(.some 40), .call 239 [(.t 39)], .none, 0⟩, ⟨(.some 41), .conv .u64 (.t 40), .none, 0⟩, ⟨(.some 42), .call 188 [(.t 41)], .none, 0⟩, ⟨(.some 43), .slc (.sl 1) (.t 42) .none (.some (.c (.s (.int .i64 4)))) .none, .none, 0⟩, ⟨(.some 44), .app 5 1 1 (.t 38) (.t 43), .none, 0⟩, ⟨(.some 4), .mv (.t 44), .none, 0⟩] []
def d169r6 : D := .reg false [⟨(.some 45), .mv (.t 4), .none, 0⟩, ⟨(.some 46), .mv (.t 4), .none, 0⟩, ⟨(.some 47), .len (.sl 0) (.t 46), .none, 0⟩, ⟨(.some 48), .bin .sub (.c (.s (.int .i64 63))) (.t 47), .none, 0⟩, ⟨(.some 49), .app0 5 [(.int .u8 0)] 1 (.t 45) (.t 48), .none, 0⟩, ⟨(.some 4), .mv (.t 49), .none, 0⟩] []
def d169r7 : D := .reg false [⟨(.some 50), .mv (.t 4), .none, 0⟩, ⟨(.some 51), .fld 0 (.t 1), .none, 0⟩, ⟨(.some 52), .ld false 1 (.t 51), .none, 0⟩, ⟨(.some 53), .call 240 [(.t 52)], .none, 0⟩, ⟨(.some 54), .bslice 5 1 1 [(.int .u8 0)] [(0, 1, (.t 53))], .none, 0⟩, ⟨(.some 55), .app 5 1 1 (.t 50) (.t 54), .none, 0⟩, ⟨(.some 2), .mv (.t 55), .none, 0⟩, ⟨(.some 3), .mv (.c (.s (.int .i64 0))), .none, 0⟩] []
/-- quorumite/log.Put -/
def d169 : Df := ⟨6, [.t 2, .t 3], (.seq d169r0 (.seq (.seq d169r1 (.cond .none (.t 7) (.seq d169r2 .ret) .skip)) (.seq d169r3 (.seq d169r4 (.seq d169r5 (.seq d169r6 (.seq d169r7 .ret)))))))⟩
noncomputable def g169 (fx : Fx) (cl : Cl) (a0 : AV) (h0 : H) : R :=
  obh (mkv (.box 70 (.c a0)) h0) fun v0 h1 =>
  F.ob (ld true 4 v0 h1) fun v1 =>
  obh (cl 238 [v1] h1) fun v2 h2 =>
  F.ob (pv (.un .not (.c v2))) fun v3 =>
  cnd v3 (
  out [(.s (.sl .none 0 0 true 1)), (.s (.int .i64 1))] h2) (
  F.ob (fld 0 v0) fun v4 =>
  F.ob (rdd (.ld false 1 (.c v4)) [] h2) fun v5 =>
  F.ob (conv .u64 v5) fun v6 =>
  obh (cl 188 [v6] h2) fun v7 h3 =>
  F.ob (pv (.slc (.sl 1) (.c v7) .none (.some (.c (.s (.int .i64 4)))) .none)) fun v8 =>
  F.ob (fld 1 v0) fun v9 =>
  F.ob (rdd (.ld false 1 (.c v9)) [(3, h2)] h3) fun v10 =>
  F.ob (conv .u8 v10) fun v11 =>
  F.ob (fld 1 v0) fun v12 =>
  F.ob (rdd (.ld false 1 (.c v12)) [(3, h2)] h3) fun v13 =>
  F.ob (F.bin .shr v13 (.s (.int .u64 8))) fun v14 =>
  F.ob (conv .u8 v14) fun v15 =>
  F.ob (fld 2 v0) fun v16 =>
  F.ob (rdd (.ld false 1 (.c v16)) [(3, h2)] h3) fun v17 =>
  F.ob (conv .u8 v17) fun v18 =>
  F.ob (fld 3 v0) fun v19 =>
  F.ob (rdd (.ld false 1 (.c v19)) [(3, h2)] h3) fun v20 =>
  F.ob (pv (.len (.sl 0) (.c v20))) fun v21 =>
  F.ob (conv .u8 v21) fun v22 =>
  obh (mkv (.bslice 5 1 4 [(.int .u8 0), (.int .u8 0), (.int .u8 0), (.int .u8 0)] [(0, 1, .c v11), (1, 1, .c v15), (2, 1, .c v18), (3, 1, .c v22)]) h3) fun v23 h4 =>
  obh (av (.app 5 1 1 (.c v8) (.c v23)) h4) fun v24 h5 =>
  F.ob (fld 3 v0) fun v25 =>
  F.ob (rdd (.ld false 1 (.c v25)) [] h5) fun v26 =>
  obh (av (.app 5 1 1 (.c v24) (.c v26)) h5) fun v27 h6 =>
  F.ob (fld 3 v0) fun v28 =>
  F.ob (rdd (.ld false 1 (.c v28)) [(3, h5)] h6) fun v29 =>
  F.ob (pv (.len (.sl 0) (.c v29))) fun v30 =>
  F.ob (F.bin .sub (.s (.int .i64 48)) v30) fun v31 =>
  obh (av (.app0 5 [(.int .u8 0)] 1 (.c v27) (.c v31)) h6) fun v32 h7 =>
  obh (cl 239 [v32] h7) fun v33 h8 =>
  F.ob (conv .u64 v33) fun v34 =>
  obh (cl 188 [v34] h8) fun v35 h9 =>
  F.ob (pv (.slc (.sl 1) (.c v35) .none (.some (.c (.s (.int .i64 4)))) .none)) fun v36 =>
  obh (av (.app 5 1 1 (.c v32) (.c v36)) h9) fun v37 h10 =>
  F.ob (pv (.len (.sl 0) (.c v37))) fun v38 =>
  F.ob (F.bin .sub (.s (.int .i64 63)) v38) fun v39 =>
  obh (av (.app0 5 [(.int .u8 0)] 1 (.c v37) (.c v39)) h10) fun v40 h11 =>
  F.ob (fld 0 v0) fun v41 =>
  F.ob (ld false 1 v41 h11) fun v42 =>
  obh (cl 240 [v42] h11) fun v43 h12 =>
  obh (mkv (.bslice 5 1 1 [(.int .u8 0)] [(0, 1, .c v43)]) h12) fun v44 h13 =>
  obh (av (.app 5 1 1 (.c v40) (.c v44)) h13) fun v45 h14 =>
  out [v45, (.s (.int .i64 0))] h14)
theorem e169 : (fun (fx : Fx) (cl : Cl) (a0 : AV) (h0 : H) => denF fx cl d169 [a0] h0) = g169 := by kernel_rfl
def d88r0 : D := .reg false [⟨(.some 3), .box 70 (.t 1), .none, 0⟩, ⟨(.some 4), .mv (.c (.s (.int .i64 0))), .none, 0⟩] []
def d88r1 : D := .reg false [⟨(.some 8), .ld true 4 (.t 3), .none, 0⟩, ⟨(.some 9), .call 169 [(.t 8)], .none, 0⟩, ⟨(.some 7), .mv (.t 9), .none, 0⟩, ⟨(.some 10), .ext (.t 7) 0, .none, 0⟩, ⟨(.some 11), .ext (.t 7) 1, .none, 0⟩, ⟨(.some 5), .mv (.t 10), .none, 0⟩, ⟨(.some 6), .mv (.t 11), .none, 0⟩] []
def d88r2 : D := .reg false [⟨(.some 12), .mv (.t 6), .none, 0⟩, ⟨(.some 13), .bin .eql (.t 12) (.c (.s (.int .i64 0))), .none, 0⟩] []
def d88r3 : D := .reg true [⟨(.some 14), .mv (.t 0), .none, 0⟩, ⟨(.some 15), .nilck (.t 14), .none, 1⟩, ⟨(.some 16), .fld 26 (.t 15), .none, 3⟩, ⟨(.some 17), .ld false 1 (.t 16), .none, 7⟩, ⟨(.some 18), .mv (.t 0), .none, 0⟩, ⟨(.some 19), .nilck (.t 18), .none, 16⟩, ⟨(.some 20), .fld 0 (.t 19), .none, 48⟩, ⟨(.some 21), .ld true 26 (.t 20), .none, 112⟩, ⟨(.some 22), .fld 0 (.t 3), .none, 0⟩, ⟨(.some 23), .ld false 1 (.t 22), .none, 256⟩, ⟨(.some 24), .call 171 [(.t 21), (.t 23)], .none, 1008⟩, ⟨(.some 25), .fld 1 (.t 3), .none, 0⟩, ⟨(.some 26), .ld false 1 (.t 25), .none, 2048⟩, ⟨(.some 27), .bin .add (.t 24) (.t 26), .none, 8176⟩, ⟨(.some 28), .mv (.t 5), .none, 0⟩, ⟨(.some 29), .call 170 [(.t 17), (.t 27), (.t 28)], .none, 32767⟩, ⟨(.some 6), .mv (.t 29), .none, 65535⟩] []
def d88r4 : D := .reg false [⟨(.some 30), .mv (.t 6), .none, 0⟩, ⟨(.some 31), .bin .neq (.t 30) (.c (.s (.int .i64 0))), .none, 0⟩] []
def d88r5 : D := .reg false [⟨(.some 32), .mv (.t 0), .none, 0⟩, ⟨(.some 33), .nilck (.t 32), .none, 0⟩, ⟨(.some 34), .fld 30 (.t 33), .none, 0⟩, ⟨.none, .st 1 (.t 34) (.c (.s (.bool true))), .none, 0⟩] []
def d88r6 : D := .reg false [⟨(.some 4), .mv (.c (.s (.int .i64 10))), .none, 0⟩] []
def d88r7 : D := .reg false [⟨(.some 4), .mv (.c (.s (.int .i64 0))), .none, 0⟩] []
/-- (*quorumite/store.Store).write -/
def d88 : Df := ⟨6, [.t 4], (.seq d88r0 (.seq d88r1 (.seq (.seq d88r2 (.cond (.some [6]) (.t 13) d88r3 .skip)) (.seq (.seq d88r4 (.cond .none (.t 31) (.seq d88r5 (.seq d88r6 .ret)) .skip)) (.seq d88r7 .ret)))))⟩
noncomputable def g88 (fx : Fx) (cl : Cl) (a0 a1 : AV) (h0 : H) : R :=
  obh (mkv (.box 70 (.c a1)) h0) fun v0 h1 =>
  F.ob (ld true 4 v0 h1) fun v1 =>
  obh (cl 169 [v1] h1) fun v2 h2 =>
  F.ob (pv (.ext (.c v2) 0)) fun v3 =>
  F.ob (pv (.ext (.c v2) 1)) fun v4 =>
  F.ob (F.bin .eql v4 (.s (.int .i64 0))) fun v5 =>
  letJ (fun (p0 : AV) h3 =>
  F.ob (F.bin .neq p0 (.s (.int .i64 0))) fun v6 =>
  cnd v6 (
  F.ob (nilck a0) fun v7 =>
  F.ob (fld 30 v7) fun v8 =>
  F.ob (st 1 v8 (.s (.bool true)) h3) fun h4 =>
  out [(.s (.int .i64 10))] h4) (
  out [(.s (.int .i64 0))] h3)) fun j0 =>
  cnd v5 (
  F.ob (nilck a0) fun v9 =>
  F.ob (fld 26 v9) fun v10 =>
  F.ob (rdd (.ld false 1 (.c v10)) [] h2) fun v11 =>
  F.ob (nilck a0) fun v12 =>
  F.ob (fld 0 v12) fun v13 =>
  F.ob (rdd (.ld true 26 (.c v13)) [] h2) fun v14 =>
  F.ob (fld 0 v0) fun v15 =>
  F.ob (rdd (.ld false 1 (.c v15)) [] h2) fun v16 =>
  obh (chk Prod.snd [⟨none, .ld false 1 (.c v10), v11, 3⟩] (cl 171 [v14, v16] h2)) fun v17 h5 =>
  F.ob (fld 1 v0) fun v18 =>
  F.ob (rdd (.ld false 1 (.c v18)) [(10, h2)] h5) fun v19 =>
  F.ob (F.bin .add v17 v19) fun v20 =>
  obh (cl 170 [v11, v20, v3] h5) fun v21 h6 =>
  j0 v21 h6) (
  j0 v4 h2)
theorem e88 : (fun (fx : Fx) (cl : Cl) (a0 a1 : AV) (h0 : H) => denF fx cl d88 [a0, a1] h0) = g88 := by kernel_rfl
def d30r0 : D := .reg false [⟨(.some 3), .box 27 (.t 0), .none, 0⟩, ⟨(.some 6), .mv (.c (.s (.sl .none 0 0 true 1))), .none, 0⟩] []
def d30r1 : D := .reg false [⟨(.some 7), .mv (.c (.s (.sl .none 0 0 true 1))), .none, 0⟩] []
def d30r2 : D := .reg false [⟨(.some 8), .mv (.c (.s (.int .i64 0))), .none, 0⟩] []
def d30r3 : D := .reg false [⟨(.some 10), .mv (.t 8), .none, 0⟩, ⟨(.some 11), .bin .eql (.t 10) (.c (.s (.int .i64 0))), .none, 0⟩, ⟨(.some 12), .mv (.t 11), .none, 0⟩, ⟨(.some 13), .mv (.t 1), (.some (12, false)), 0⟩, ⟨(.some 14), .len (.sl 0) (.t 13), (.some (12, false)), 0⟩, ⟨(.some 15), .bin .gtr (.t 14) (.c (.s (.int .i64 0))), (.some (12, false)), 0⟩, ⟨(.some 16), .pick (.t 12) (.c (.s (.bool true))) (.t 15), .none, 0⟩] []
def d30r4 : D := .reg false [⟨(.some 19), .mv (.t 1), .none, 0⟩, ⟨(.some 20), .len (.sl 0) (.t 19), .none, 0⟩, ⟨(.some 21), .mn [(.t 20), (.c (.s (.int .i64 48)))], .none, 0⟩, ⟨(.some 9), .mv (.t 21), .none, 0⟩] []
def d30r5 : D := .reg false [⟨(.some 22), .mv (.t 7), .none, 0⟩, ⟨(.some 23), .mv (.t 2), .none, 0⟩, ⟨(.some 24), .mv (.t 8), .none, 0⟩, ⟨(.some 25), .mv (.t 1), .none, 0⟩, ⟨(.some 26), .mv (.t 9), .none, 0⟩, ⟨(.some 27), .slc (.sl 1) (.t 25) .none (.some (.t 26)) .none, .none, 0⟩, ⟨(.some 28), .call 79 [(.t 27)], .none, 0⟩, ⟨(.some 29), .build [(.int .u32 0), (.int .i64 0), (.int .i64 0), (.sl .none 0 0 true 1)] [(0, 1, (.t 23)), (1, 1, (.t 24)), (2, 1, (.c (.s (.int .i64 1)))), (3, 1, (.t 28))], .none, 0⟩, ⟨(.some 30), .bslice 70 4 1 [(.int .u32 0), (.int .i64 0), (.int .i64 0), (.sl .none 0 0 true 1)] [(0, 4, (.t 29))], .none, 0⟩, ⟨(.some 31), .app 70 4 48 (.t 22) (.t 30), .none, 0⟩, ⟨(.some 7), .mv (.t 31), .none, 0⟩] []
def d30r6 : D := .reg false [⟨(.some 32), .mv (.t 1), .none, 0⟩, ⟨(.some 33), .mv (.t 9), .none, 0⟩, ⟨(.some 34), .slc (.sl 1) (.t 32) (.some (.t 33)) .none .none, .none, 0⟩, ⟨(.some 1), .mv (.t 34), .none, 0⟩] []
def d30r7 : D := .reg false [⟨(.some 17), .mv (.t 8), .none, 0⟩, ⟨(.some 18), .bin .add (.t 17) (.c (.s (.int .i64 1))), .none, 0⟩, ⟨(.some 8), .mv (.t 18), .none, 0⟩] []
def d30r8 : D := .reg false [⟨(.some 35), .mv (.t 7), .none, 0⟩, ⟨(.some 36), .mv (.t 7), .none, 0⟩, ⟨(.some 37), .len (.sl 0) (.t 36), .none, 0⟩, ⟨(.some 38), .bin .sub (.t 37) (.c (.s (.int .i64 1))), .none, 0⟩, ⟨(.some 39), .idxa (.sl 4) (.t 35) (.t 38), .none, 0⟩, ⟨(.some 40), .fld 2 (.t 39), .none, 0⟩, ⟨.none, .st 1 (.t 40) (.c (.s (.int .i64 2))), .none, 0⟩] []
def d30r9 : D := .reg false [⟨(.some 41), .mv (.t 7), .none, 0⟩, ⟨(.some 6), .mv (.t 41), .none, 0⟩] []
/-- quorumite/store.Cells -/
def d30 : Df := ⟨6, [.t 6], (.seq d30r0 (.seq d30r1 (.seq (.seq d30r2 (.blk (.some [7]) 0 (.loop [1, 7, 8] (.seq (.seq d30r3 (.cond .none (.t 16) .skip (.exit 0))) (.seq (.blk .none 1 (.seq d30r4 (.seq d30r5 d30r6))) d30r7))))) (.seq d30r8 (.seq d30r9 .ret)))))⟩
noncomputable def g30 (fx : Fx) (cl : Cl) (a0 a1 a2 : AV) (h0 : H) : R :=
  obh (mkv (.box 27 (.c a0)) h0) fun v0 h1 =>
  letJ (fun (p0 : AV) h2 =>
  F.ob (pv (.len (.sl 0) (.c p0))) fun v1 =>
  F.ob (F.bin .sub v1 (.s (.int .i64 1))) fun v2 =>
  F.ob (idxa (.sl 4) p0 v2) fun v3 =>
  F.ob (fld 2 v3) fun v4 =>
  F.ob (st 1 v4 (.s (.int .i64 2)) h2) fun h3 =>
  out [p0] h3) fun j0 =>
  fx (AV × AV × AV) (fun (r1 : (AV × AV × AV) → H → R) (p1 : AV × AV × AV) h4 =>
  F.ob (F.bin .eql p1.2.2 (.s (.int .i64 0))) fun v5 =>
  F.ob (gd v5 false (some p1.1) (some nought)) fun v6 =>
  F.ob (gd v5 false (pv (.len (.sl 0) (.c v6))) (some nought)) fun v7 =>
  F.ob (gd v5 false (F.bin .gtr v7 (.s (.int .i64 0))) (some nought)) fun v8 =>
  F.ob (pv (.pick (.c v5) (.c (.s (.bool true))) (.c v8))) fun v9 =>
  cnd v9 (
  F.ob (pv (.len (.sl 0) (.c p1.1))) fun v10 =>
  F.ob (pv (.mn [.c v10, .c (.s (.int .i64 48))])) fun v11 =>
  F.ob (pv (.slc (.sl 1) (.c p1.1) .none (.some (.c v11)) .none)) fun v12 =>
  obh (cl 79 [v12] h4) fun v13 h5 =>
  F.ob (pv (.build [(.int .u32 0), (.int .i64 0), (.int .i64 0), (.sl .none 0 0 true 1)] [(0, 1, .c a2), (1, 1, .c p1.2.2), (2, 1, .c (.s (.int .i64 1))), (3, 1, .c v13)])) fun v14 =>
  obh (mkv (.bslice 70 4 1 [(.int .u32 0), (.int .i64 0), (.int .i64 0), (.sl .none 0 0 true 1)] [(0, 4, .c v14)]) h5) fun v15 h6 =>
  obh (av (.app 70 4 48 (.c p1.2.1) (.c v15)) h6) fun v16 h7 =>
  F.ob (pv (.slc (.sl 1) (.c p1.1) (.some (.c v11)) .none .none)) fun v17 =>
  F.ob (F.bin .add p1.2.2 (.s (.int .i64 1))) fun v18 =>
  r1 (v17, v16, v18) h7) (
  j0 p1.2.1 h4)) (a1, (.s (.sl .none 0 0 true 1)), (.s (.int .i64 0))) h1
theorem e30 : (fun (fx : Fx) (cl : Cl) (a0 a1 a2 : AV) (h0 : H) => denF fx cl d30 [a0, a1, a2] h0) = g30 := by kernel_rfl
def d59r0 : D := .reg false [⟨(.some 2), .mv (.c (.s (.int .i64 0))), .none, 0⟩] []
def d59r1 : D := .reg false [⟨(.some 3), .mv (.t 0), .none, 0⟩, ⟨(.some 4), .eqv .ptr false (.t 3) (.c (.s (.ptr .none))), .none, 0⟩] []
def d59r2 : D := .reg false [⟨(.some 2), .mv (.c (.s (.int .i64 0))), .none, 0⟩] []
def d59r3 : D := .reg false [⟨(.some 5), .mv (.t 0), .none, 0⟩, ⟨(.some 6), .nilck (.t 5), .none, 0⟩, ⟨(.some 7), .fld 26 (.t 6), .none, 0⟩, ⟨(.some 8), .ld false 1 (.t 7), .none, 0⟩, ⟨(.some 2), .mv (.t 8), .none, 0⟩] []
/-- (*quorumite/law.Law).Count -/
def d59 : Df := ⟨4, [.t 2], (.seq d59r0 (.seq (.seq d59r1 (.cond .none (.t 4) (.seq d59r2 .ret) .skip)) (.seq d59r3 .ret)))⟩
noncomputable def g59 (fx : Fx) (cl : Cl) (a0 : AV) (h0 : H) : R :=
  F.ob (pv (.eqv .ptr false (.c a0) (.c (.s (.ptr .none))))) fun v0 =>
  cnd v0 (
  out [(.s (.int .i64 0))] h0) (
  F.ob (nilck a0) fun v1 =>
  F.ob (fld 26 v1) fun v2 =>
  F.ob (ld false 1 v2 h0) fun v3 =>
  out [v3] h0)
theorem e59 : (fun (fx : Fx) (cl : Cl) (a0 : AV) (h0 : H) => denF fx cl d59 [a0] h0) = g59 := by kernel_rfl
def d192r0 : D := .reg false [⟨(.some 2), .mv (.c (.s (.sl .none 0 0 true 1))), .none, 0⟩] []
def d192r1 : D := .reg false [⟨(.some 3), .mv (.t 0), .none, 0⟩, ⟨(.some 4), .eqv .sl false (.t 3) (.c (.s (.sl .none 0 0 true 1))), .none, 0⟩] []
def d192r2 : D := .reg false [⟨(.some 2), .mv (.c (.s (.sl .none 0 0 true 1))), .none, 0⟩] []
def d192r3 : D := .reg false [⟨(.some 5), .bslice 126 4 0 [] [], .none, 0⟩, ⟨(.some 6), .mv (.t 0), .none, 0⟩, ⟨(.some 7), .app 126 4 32 (.t 5) (.t 6), .none, 0⟩, ⟨(.some 2), .mv (.t 7), .none, 0⟩] []
/-- slices.Clone[[]quorumite/api.Sample,quorumite/api.Sample] -/
def d192 : Df := ⟨4, [.t 2], (.seq d192r0 (.seq (.seq d192r1 (.cond .none (.t 4) (.seq d192r2 .ret) .skip)) (.seq d192r3 .ret)))⟩
noncomputable def g192 (fx : Fx) (cl : Cl) (a0 : AV) (h0 : H) : R :=
  F.ob (pv (.eqv .sl false (.c a0) (.c (.s (.sl .none 0 0 true 1))))) fun v0 =>
  cnd v0 (
  out [(.s (.sl .none 0 0 true 1))] h0) (
  obh (mkv (.bslice 126 4 0 [] []) h0) fun v1 h1 =>
  obh (av (.app 126 4 32 (.c v1) (.c a0)) h1) fun v2 h2 =>
  out [v2] h2)
theorem e192 : (fun (fx : Fx) (cl : Cl) (a0 : AV) (h0 : H) => denF fx cl d192 [a0] h0) = g192 := by kernel_rfl
def d116r0 : D := .reg false [⟨(.some 2), .mv (.c (.s (.sl .none 0 0 true 1))), .none, 0⟩] []
def d116r1 : D := .reg false [⟨(.some 3), .mv (.t 0), .none, 0⟩, ⟨(.some 4), .eqv .ptr false (.t 3) (.c (.s (.ptr .none))), .none, 0⟩] []
def d116r2 : D := .reg false [⟨(.some 2), .mv (.c (.s (.sl .none 0 0 true 1))), .none, 0⟩] []
def d116r3 : D := .reg false [⟨(.some 5), .mv (.t 0), .none, 0⟩, ⟨(.some 6), .nilck (.t 5), .none, 0⟩, ⟨(.some 7), .fld 3 (.t 6), .none, 0⟩, ⟨(.some 8), .ld false 1 (.t 7), .none, 0⟩, ⟨(.some 9), .call 192 [(.t 8)], .none, 0⟩, ⟨(.some 2), .mv (.t 9), .none, 0⟩] []
/-- (*quorumite/table.Table).All -/
def d116 : Df := ⟨4, [.t 2], (.seq d116r0 (.seq (.seq d116r1 (.cond .none (.t 4) (.seq d116r2 .ret) .skip)) (.seq d116r3 .ret)))⟩
noncomputable def g116 (fx : Fx) (cl : Cl) (a0 : AV) (h0 : H) : R :=
  F.ob (pv (.eqv .ptr false (.c a0) (.c (.s (.ptr .none))))) fun v0 =>
  cnd v0 (
  out [(.s (.sl .none 0 0 true 1))] h0) (
  F.ob (nilck a0) fun v1 =>
  F.ob (fld 3 v1) fun v2 =>
  F.ob (ld false 1 v2 h0) fun v3 =>
  obh (cl 192 [v3] h0) fun v4 h1 =>
  out [v4] h1)
theorem e116 : (fun (fx : Fx) (cl : Cl) (a0 : AV) (h0 : H) => denF fx cl d116 [a0] h0) = g116 := by kernel_rfl
def d115r0 : D := .reg false [⟨(.some 2), .mv (.c (.s (.sl .none 0 0 true 1))), .none, 0⟩] []
def d115r1 : D := .reg false [⟨(.some 3), .mv (.t 0), .none, 0⟩, ⟨(.some 4), .eqv .ptr false (.t 3) (.c (.s (.ptr .none))), .none, 0⟩] []
def d115r2 : D := .reg false [⟨(.some 2), .mv (.c (.s (.sl .none 0 0 true 1))), .none, 0⟩] []
def d115r3 : D := .reg false [⟨(.some 5), .mv (.t 0), .none, 0⟩, ⟨(.some 6), .nilck (.t 5), .none, 0⟩, ⟨(.some 7), .fld 26 (.t 6), .none, 0⟩, ⟨(.some 8), .ld false 1 (.t 7), .none, 0⟩, ⟨(.some 9), .call 191 [(.t 8)], .none, 0⟩, ⟨(.some 2), .mv (.t 9), .none, 0⟩] []
/-- (*quorumite/policy.Policy).All -/
def d115 : Df := ⟨4, [.t 2], (.seq d115r0 (.seq (.seq d115r1 (.cond .none (.t 4) (.seq d115r2 .ret) .skip)) (.seq d115r3 .ret)))⟩
noncomputable def g115 (fx : Fx) (cl : Cl) (a0 : AV) (h0 : H) : R :=
  F.ob (pv (.eqv .ptr false (.c a0) (.c (.s (.ptr .none))))) fun v0 =>
  cnd v0 (
  out [(.s (.sl .none 0 0 true 1))] h0) (
  F.ob (nilck a0) fun v1 =>
  F.ob (fld 26 v1) fun v2 =>
  F.ob (ld false 1 v2 h0) fun v3 =>
  obh (cl 191 [v3] h0) fun v4 h1 =>
  out [v4] h1)
theorem e115 : (fun (fx : Fx) (cl : Cl) (a0 : AV) (h0 : H) => denF fx cl d115 [a0] h0) = g115 := by kernel_rfl
def d114r0 : D := .reg false [⟨(.some 2), .mv (.c (.s (.ptr .none))), .none, 0⟩] []
def d114r1 : D := .reg false [⟨(.some 3), .mv (.t 0), .none, 0⟩, ⟨(.some 4), .eqv .ptr false (.t 3) (.c (.s (.ptr .none))), .none, 0⟩] []
def d114r2 : D := .reg false [⟨(.some 2), .mv (.c (.s (.ptr .none))), .none, 0⟩] []
def d114r3 : D := .reg false [⟨(.some 5), .mv (.t 0), .none, 0⟩, ⟨(.some 6), .nilck (.t 5), .none, 0⟩, ⟨(.some 7), .fld 28 (.t 6), .none, 0⟩, ⟨(.some 8), .ld false 1 (.t 7), .none, 0⟩, ⟨(.some 2), .mv (.t 8), .none, 0⟩] []
/-- (*quorumite/law.Law).Policy -/
def d114 : Df := ⟨4, [.t 2], (.seq d114r0 (.seq (.seq d114r1 (.cond .none (.t 4) (.seq d114r2 .ret) .skip)) (.seq d114r3 .ret)))⟩
noncomputable def g114 (fx : Fx) (cl : Cl) (a0 : AV) (h0 : H) : R :=
  F.ob (pv (.eqv .ptr false (.c a0) (.c (.s (.ptr .none))))) fun v0 =>
  cnd v0 (
  out [(.s (.ptr .none))] h0) (
  F.ob (nilck a0) fun v1 =>
  F.ob (fld 28 v1) fun v2 =>
  F.ob (ld false 1 v2 h0) fun v3 =>
  out [v3] h0)
theorem e114 : (fun (fx : Fx) (cl : Cl) (a0 : AV) (h0 : H) => denF fx cl d114 [a0] h0) = g114 := by kernel_rfl
def d111r0 : D := .reg false [⟨(.some 6), .mv (.t 0), .none, 0⟩, ⟨(.some 7), .mv (.t 1), .none, 0⟩, ⟨(.some 8), .len (.sl 0) (.t 7), .none, 0⟩, ⟨(.some 9), .bslice 2 1 1 [(.int .i64 0)] [(0, 1, (.t 8))], .none, 0⟩, ⟨(.some 10), .call 101 [(.t 6), (.t 9)], .none, 0⟩] []
def d111r1 : D := .reg false [⟨(.some 11), .mv (.t 1), .none, 0⟩, ⟨(.some 12), .len (.sl 0) (.t 11), .none, 0⟩, ⟨(.some 13), .mv (.c (.s (.int .i64 0))), .none, 0⟩] []
def d111r2 : D := .reg false [⟨(.some 14), .bin .lss (.t 13) (.t 12), .none, 0⟩] []
def d111r3 : D := .reg false [⟨(.some 15), .idxa (.sl 1) (.t 11) (.t 13), .none, 0⟩, ⟨(.some 16), .ld false 1 (.t 15), .none, 0⟩, ⟨(.some 5), .mv (.t 16), .none, 0⟩] []
def d111r4 : D := .reg false [⟨(.some 17), .mv (.t 0), .none, 0⟩, ⟨(.some 18), .mv (.t 5), .none, 0⟩, ⟨(.some 19), .bslice 2 1 1 [(.int .i64 0)] [(0, 1, (.t 18))], .none, 0⟩, ⟨(.some 20), .call 101 [(.t 17), (.t 19)], .none, 0⟩] []
def d111r5 : D := .reg false [⟨(.some 21), .bin .add (.t 13) (.c (.s (.int .i64 1))), .none, 0⟩, ⟨(.some 13), .mv (.t 21), .none, 0⟩] []
/-- (*quorumite/state.writer).row -/
def d111 : Df := ⟨5, [], (.seq d111r0 (.seq d111r1 (.blk (.some []) 0 (.loop [13] (.seq d111r2 (.seq (.cond .none (.t 14) .skip (.exit 0)) (.seq (.blk .none 1 (.seq d111r3 d111r4)) d111r5)))))))⟩
noncomputable def g111 (fx : Fx) (cl : Cl) (a0 a1 : AV) (h0 : H) : R :=
  F.ob (pv (.len (.sl 0) (.c a1))) fun v0 =>
  obh (mkv (.bslice 2 1 1 [(.int .i64 0)] [(0, 1, .c v0)]) h0) fun v1 h1 =>
  obh (cl 101 [a0, v1] h1) fun v2 h2 =>
  F.ob (pv (.len (.sl 0) (.c a1))) fun v3 =>
  letJ (fun (p0 : Unit) h3 =>
  out [] h3) fun j0 =>
  fx AV (fun (r1 : AV → H → R) (p1 : AV) h4 =>
  F.ob (F.bin .lss p1 v3) fun v4 =>
  cnd v4 (
  F.ob (idxa (.sl 1) a1 p1) fun v5 =>
  F.ob (ld false 1 v5 h4) fun v6 =>
  obh (mkv (.bslice 2 1 1 [(.int .i64 0)] [(0, 1, .c v6)]) h4) fun v7 h5 =>
  obh (cl 101 [a0, v7] h5) fun v8 h6 =>
  F.ob (F.bin .add p1 (.s (.int .i64 1))) fun v9 =>
  r1 v9 h6) (
  j0 () h4)) (.s (.int .i64 0)) h2
theorem e111 : (fun (fx : Fx) (cl : Cl) (a0 a1 : AV) (h0 : H) => denF fx cl d111 [a0, a1] h0) = g111 := by kernel_rfl
def d191r0 : D := .reg false [⟨(.some 2), .mv (.c (.s (.sl .none 0 0 true 1))), .none, 0⟩] []
def d191r1 : D := .reg false [⟨(.some 3), .mv (.t 0), .none, 0⟩, ⟨(.some 4), .eqv .sl false (.t 3) (.c (.s (.sl .none 0 0 true 1))), .none, 0⟩] []
def d191r2 : D := .reg false [⟨(.some 2), .mv (.c (.s (.sl .none 0 0 true 1))), .none, 0⟩] []
def d191r3 : D := .reg false [⟨(.some 5), .bslice 3 1 0 [] [], .none, 0⟩, ⟨(.some 6), .mv (.t 0), .none, 0⟩, ⟨(.some 7), .app 3 1 8 (.t 5) (.t 6), .none, 0⟩, ⟨(.some 2), .mv (.t 7), .none, 0⟩] []
/-- slices.Clone[[]int,int] -/
def d191 : Df := ⟨4, [.t 2], (.seq d191r0 (.seq (.seq d191r1 (.cond .none (.t 4) (.seq d191r2 .ret) .skip)) (.seq d191r3 .ret)))⟩
noncomputable def g191 (fx : Fx) (cl : Cl) (a0 : AV) (h0 : H) : R :=
  F.ob (pv (.eqv .sl false (.c a0) (.c (.s (.sl .none 0 0 true 1))))) fun v0 =>
  cnd v0 (
  out [(.s (.sl .none 0 0 true 1))] h0) (
  obh (mkv (.bslice 3 1 0 [] []) h0) fun v1 h1 =>
  obh (av (.app 3 1 8 (.c v1) (.c a0)) h1) fun v2 h2 =>
  out [v2] h2)
theorem e191 : (fun (fx : Fx) (cl : Cl) (a0 : AV) (h0 : H) => denF fx cl d191 [a0] h0) = g191 := by kernel_rfl
def d113r0 : D := .reg false [⟨(.some 2), .mv (.c (.s (.sl .none 0 0 true 1))), .none, 0⟩] []
def d113r1 : D := .reg false [⟨(.some 3), .mv (.t 0), .none, 0⟩, ⟨(.some 4), .eqv .ptr false (.t 3) (.c (.s (.ptr .none))), .none, 0⟩] []
def d113r2 : D := .reg false [⟨(.some 2), .mv (.c (.s (.sl .none 0 0 true 1))), .none, 0⟩] []
def d113r3 : D := .reg false [⟨(.some 5), .mv (.t 0), .none, 0⟩, ⟨(.some 6), .nilck (.t 5), .none, 0⟩, ⟨(.some 7), .fld 2 (.t 6), .none, 0⟩, ⟨(.some 8), .ld false 1 (.t 7), .none, 0⟩, ⟨(.some 9), .call 191 [(.t 8)], .none, 0⟩, ⟨(.some 2), .mv (.t 9), .none, 0⟩] []
/-- (*quorumite/calm.Calm).All -/
def d113 : Df := ⟨4, [.t 2], (.seq d113r0 (.seq (.seq d113r1 (.cond .none (.t 4) (.seq d113r2 .ret) .skip)) (.seq d113r3 .ret)))⟩
noncomputable def g113 (fx : Fx) (cl : Cl) (a0 : AV) (h0 : H) : R :=
  F.ob (pv (.eqv .ptr false (.c a0) (.c (.s (.ptr .none))))) fun v0 =>
  cnd v0 (
  out [(.s (.sl .none 0 0 true 1))] h0) (
  F.ob (nilck a0) fun v1 =>
  F.ob (fld 2 v1) fun v2 =>
  F.ob (ld false 1 v2 h0) fun v3 =>
  obh (cl 191 [v3] h0) fun v4 h1 =>
  out [v4] h1)
theorem e113 : (fun (fx : Fx) (cl : Cl) (a0 : AV) (h0 : H) => denF fx cl d113 [a0] h0) = g113 := by kernel_rfl
def d112r0 : D := .reg false [⟨(.some 2), .mv (.c (.s (.ptr .none))), .none, 0⟩] []
def d112r1 : D := .reg false [⟨(.some 3), .mv (.t 0), .none, 0⟩, ⟨(.some 4), .eqv .ptr false (.t 3) (.c (.s (.ptr .none))), .none, 0⟩] []
def d112r2 : D := .reg false [⟨(.some 2), .mv (.c (.s (.ptr .none))), .none, 0⟩] []
def d112r3 : D := .reg false [⟨(.some 5), .mv (.t 0), .none, 0⟩, ⟨(.some 6), .nilck (.t 5), .none, 0⟩, ⟨(.some 7), .fld 27 (.t 6), .none, 0⟩, ⟨(.some 8), .ld false 1 (.t 7), .none, 0⟩, ⟨(.some 2), .mv (.t 8), .none, 0⟩] []
/-- (*quorumite/law.Law).Calm -/
def d112 : Df := ⟨4, [.t 2], (.seq d112r0 (.seq (.seq d112r1 (.cond .none (.t 4) (.seq d112r2 .ret) .skip)) (.seq d112r3 .ret)))⟩
noncomputable def g112 (fx : Fx) (cl : Cl) (a0 : AV) (h0 : H) : R :=
  F.ob (pv (.eqv .ptr false (.c a0) (.c (.s (.ptr .none))))) fun v0 =>
  cnd v0 (
  out [(.s (.ptr .none))] h0) (
  F.ob (nilck a0) fun v1 =>
  F.ob (fld 27 v1) fun v2 =>
  F.ob (ld false 1 v2 h0) fun v3 =>
  out [v3] h0)
theorem e112 : (fun (fx : Fx) (cl : Cl) (a0 : AV) (h0 : H) => denF fx cl d112 [a0] h0) = g112 := by kernel_rfl
def d110r0 : D := .reg false [⟨(.some 2), .mv (.c (.s (.int .i64 0))), .none, 0⟩] []
def d110r1 : D := .reg false [⟨(.some 3), .mv (.t 0), .none, 0⟩] []
def d110r2 : D := .reg false [⟨(.some 2), .mv (.c (.s (.int .i64 1))), .none, 0⟩] []
def d110r3 : D := .reg false [⟨(.some 2), .mv (.c (.s (.int .i64 0))), .none, 0⟩] []
/-- quorumite/state.flag -/
def d110 : Df := ⟨3, [.t 2], (.seq d110r0 (.seq (.seq d110r1 (.cond .none (.t 3) (.seq d110r2 .ret) .skip)) (.seq d110r3 .ret)))⟩
noncomputable def g110 (fx : Fx) (cl : Cl) (a0 : AV) (h0 : H) : R :=
  cnd a0 (
  out [(.s (.int .i64 1))] h0) (
  out [(.s (.int .i64 0))] h0)
theorem e110 : (fun (fx : Fx) (cl : Cl) (a0 : AV) (h0 : H) => denF fx cl d110 [a0] h0) = g110 := by kernel_rfl
def d109r0 : D := .reg false [⟨(.some 2), .mv (.c (.s (.int .u64 0))), .none, 0⟩] []
def d109r1 : D := .reg false [⟨(.some 3), .mv (.t 0), .none, 0⟩, ⟨(.some 4), .eqv .ptr false (.t 3) (.c (.s (.ptr .none))), .none, 0⟩] []
def d109r2 : D := .reg false [⟨(.some 2), .mv (.c (.s (.int .u64 0))), .none, 0⟩] []
def d109r3 : D := .reg false [⟨(.some 5), .mv (.t 0), .none, 0⟩, ⟨(.some 6), .nilck (.t 5), .none, 0⟩, ⟨(.some 7), .fld 2 (.t 6), .none, 0⟩, ⟨(.some 8), .ld false 1 (.t 7), .none, 0⟩, ⟨(.some 2), .mv (.t 8), .none, 0⟩] []
/-- (*quorumite/replay.Replay).Bits -/
def d109 : Df := ⟨4, [.t 2], (.seq d109r0 (.seq (.seq d109r1 (.cond .none (.t 4) (.seq d109r2 .ret) .skip)) (.seq d109r3 .ret)))⟩
noncomputable def g109 (fx : Fx) (cl : Cl) (a0 : AV) (h0 : H) : R :=
  F.ob (pv (.eqv .ptr false (.c a0) (.c (.s (.ptr .none))))) fun v0 =>
  cnd v0 (
  out [(.s (.int .u64 0))] h0) (
  F.ob (nilck a0) fun v1 =>
  F.ob (fld 2 v1) fun v2 =>
  F.ob (ld false 1 v2 h0) fun v3 =>
  out [v3] h0)
theorem e109 : (fun (fx : Fx) (cl : Cl) (a0 : AV) (h0 : H) => denF fx cl d109 [a0] h0) = g109 := by kernel_rfl
def d108r0 : D := .reg false [⟨(.some 2), .mv (.c (.s (.int .i64 0))), .none, 0⟩] []
def d108r1 : D := .reg false [⟨(.some 3), .mv (.t 0), .none, 0⟩, ⟨(.some 4), .eqv .ptr false (.t 3) (.c (.s (.ptr .none))), .none, 0⟩] []
def d108r2 : D := .reg false [⟨(.some 2), .mv (.c (.s (.int .i64 0))), .none, 0⟩] []
def d108r3 : D := .reg false [⟨(.some 5), .mv (.t 0), .none, 0⟩, ⟨(.some 6), .nilck (.t 5), .none, 0⟩, ⟨(.some 7), .fld 1 (.t 6), .none, 0⟩, ⟨(.some 8), .ld false 1 (.t 7), .none, 0⟩, ⟨(.some 2), .mv (.t 8), .none, 0⟩] []
/-- (*quorumite/replay.Replay).Top -/
def d108 : Df := ⟨4, [.t 2], (.seq d108r0 (.seq (.seq d108r1 (.cond .none (.t 4) (.seq d108r2 .ret) .skip)) (.seq d108r3 .ret)))⟩
noncomputable def g108 (fx : Fx) (cl : Cl) (a0 : AV) (h0 : H) : R :=
  F.ob (pv (.eqv .ptr false (.c a0) (.c (.s (.ptr .none))))) fun v0 =>
  cnd v0 (
  out [(.s (.int .i64 0))] h0) (
  F.ob (nilck a0) fun v1 =>
  F.ob (fld 1 v1) fun v2 =>
  F.ob (ld false 1 v2 h0) fun v3 =>
  out [v3] h0)
theorem e108 : (fun (fx : Fx) (cl : Cl) (a0 : AV) (h0 : H) => denF fx cl d108 [a0] h0) = g108 := by kernel_rfl
def d107r0 : D := .reg false [⟨(.some 4), .mv (.c (.s (.ptr .none))), .none, 0⟩] []
def d107r1 : D := .reg false [⟨(.some 5), .mv (.t 0), .none, 0⟩, ⟨(.some 6), .eqv .ptr false (.t 5) (.c (.s (.ptr .none))), .none, 0⟩, ⟨(.some 7), .mv (.t 6), .none, 0⟩, ⟨(.some 8), .mv (.t 1), (.some (7, false)), 0⟩, ⟨(.some 9), .bin .lss (.t 8) (.c (.s (.int .i64 0))), (.some (7, false)), 0⟩, ⟨(.some 10), .pick (.t 7) (.c (.s (.bool true))) (.t 9), .none, 0⟩, ⟨(.some 11), .mv (.t 10), .none, 0⟩, ⟨(.some 12), .mv (.t 1), (.some (11, false)), 0⟩, ⟨(.some 13), .mv (.t 0), (.some (11, false)), 0⟩, ⟨(.some 14), .nilck (.t 13), (.some (11, false)), 0⟩, ⟨(.some 15), .fld 28 (.t 14), (.some (11, false)), 0⟩, ⟨(.some 16), .ld false 1 (.t 15), (.some (11, false)), 0⟩, ⟨(.some 17), .len (.sl 0) (.t 16), (.some (11, false)), 0⟩, ⟨(.some 18), .bin .geq (.t 12) (.t 17), (.some (11, false)), 0⟩, ⟨(.some 19), .pick (.t 11) (.c (.s (.bool true))) (.t 18), .none, 0⟩] []
def d107r2 : D := .reg false [⟨(.some 4), .mv (.c (.s (.ptr .none))), .none, 0⟩] []
def d107r3 : D := .reg false [⟨(.some 20), .mv (.t 0), .none, 0⟩, ⟨(.some 21), .nilck (.t 20), .none, 0⟩, ⟨(.some 22), .fld 28 (.t 21), .none, 0⟩, ⟨(.some 23), .ld false 1 (.t 22), .none, 0⟩, ⟨(.some 24), .mv (.t 1), .none, 0⟩, ⟨(.some 25), .idxa (.sl 1) (.t 23) (.t 24), .none, 0⟩, ⟨(.some 26), .ld false 1 (.t 25), .none, 0⟩, ⟨(.some 4), .mv (.t 26), .none, 0⟩] []
/-- (*quorumite/verify.Gate).Old -/
def d107 : Df := ⟨5, [.t 4], (.seq d107r0 (.seq (.seq d107r1 (.cond .none (.t 19) (.seq d107r2 .ret) .skip)) (.seq d107r3 .ret)))⟩
noncomputable def g107 (fx : Fx) (cl : Cl) (a0 a1 : AV) (h0 : H) : R :=
  F.ob (pv (.eqv .ptr false (.c a0) (.c (.s (.ptr .none))))) fun v0 =>
  F.ob (gd v0 false (some a1) (some nought)) fun v1 =>
  F.ob (gd v0 false (F.bin .lss v1 (.s (.int .i64 0))) (some nought)) fun v2 =>
  F.ob (pv (.pick (.c v0) (.c (.s (.bool true))) (.c v2))) fun v3 =>
  F.ob (gd v3 false (some a1) (some nought)) fun v4 =>
  F.ob (gd v3 false (some a0) (some nought)) fun v5 =>
  F.ob (gd v3 false (nilck v5) (some nought)) fun v6 =>
  F.ob (gd v3 false (fld 28 v6) (some nought)) fun v7 =>
  F.ob (gd v3 false (ld false 1 v7 h0) (some nought)) fun v8 =>
  F.ob (gd v3 false (pv (.len (.sl 0) (.c v8))) (some nought)) fun v9 =>
  F.ob (gd v3 false (F.bin .geq v4 v9) (some nought)) fun v10 =>
  F.ob (pv (.pick (.c v3) (.c (.s (.bool true))) (.c v10))) fun v11 =>
  cnd v11 (
  out [(.s (.ptr .none))] h0) (
  F.ob (nilck a0) fun v12 =>
  F.ob (fld 28 v12) fun v13 =>
  F.ob (ld false 1 v13 h0) fun v14 =>
  F.ob (idxa (.sl 1) v14 a1) fun v15 =>
  F.ob (ld false 1 v15 h0) fun v16 =>
  out [v16] h0)
theorem e107 : (fun (fx : Fx) (cl : Cl) (a0 a1 : AV) (h0 : H) => denF fx cl d107 [a0, a1] h0) = g107 := by kernel_rfl
def d106r0 : D := .reg false [⟨(.some 4), .mv (.c (.s (.ptr .none))), .none, 0⟩] []
def d106r1 : D := .reg false [⟨(.some 5), .mv (.t 0), .none, 0⟩, ⟨(.some 6), .eqv .ptr false (.t 5) (.c (.s (.ptr .none))), .none, 0⟩, ⟨(.some 7), .mv (.t 6), .none, 0⟩, ⟨(.some 8), .mv (.t 1), (.some (7, false)), 0⟩, ⟨(.some 9), .bin .lss (.t 8) (.c (.s (.int .i64 0))), (.some (7, false)), 0⟩, ⟨(.some 10), .pick (.t 7) (.c (.s (.bool true))) (.t 9), .none, 0⟩, ⟨(.some 11), .mv (.t 10), .none, 0⟩, ⟨(.some 12), .mv (.t 1), (.some (11, false)), 0⟩, ⟨(.some 13), .mv (.t 0), (.some (11, false)), 0⟩, ⟨(.some 14), .nilck (.t 13), (.some (11, false)), 0⟩, ⟨(.some 15), .fld 27 (.t 14), (.some (11, false)), 0⟩, ⟨(.some 16), .ld false 1 (.t 15), (.some (11, false)), 0⟩, ⟨(.some 17), .len (.sl 0) (.t 16), (.some (11, false)), 0⟩, ⟨(.some 18), .bin .geq (.t 12) (.t 17), (.some (11, false)), 0⟩, ⟨(.some 19), .pick (.t 11) (.c (.s (.bool true))) (.t 18), .none, 0⟩] []
def d106r2 : D := .reg false [⟨(.some 4), .mv (.c (.s (.ptr .none))), .none, 0⟩] []
def d106r3 : D := .reg false [⟨(.some 20), .mv (.t 0), .none, 0⟩, ⟨(.some 21), .nilck (.t 20), .none, 0⟩, ⟨(.some 22), .fld 27 (.t 21), .none, 0⟩, ⟨(.some 23), .ld false 1 (.t 22), .none, 0⟩, ⟨(.some 24), .mv (.t 1), .none, 0⟩, ⟨(.some 25), .idxa (.sl 1) (.t 23) (.t 24), .none, 0⟩, ⟨(.some 26), .ld false 1 (.t 25), .none, 0⟩, ⟨(.some 4), .mv (.t 26), .none, 0⟩] []
/-- (*quorumite/verify.Gate).Replay -/
def d106 : Df := ⟨5, [.t 4], (.seq d106r0 (.seq (.seq d106r1 (.cond .none (.t 19) (.seq d106r2 .ret) .skip)) (.seq d106r3 .ret)))⟩
noncomputable def g106 (fx : Fx) (cl : Cl) (a0 a1 : AV) (h0 : H) : R :=
  F.ob (pv (.eqv .ptr false (.c a0) (.c (.s (.ptr .none))))) fun v0 =>
  F.ob (gd v0 false (some a1) (some nought)) fun v1 =>
  F.ob (gd v0 false (F.bin .lss v1 (.s (.int .i64 0))) (some nought)) fun v2 =>
  F.ob (pv (.pick (.c v0) (.c (.s (.bool true))) (.c v2))) fun v3 =>
  F.ob (gd v3 false (some a1) (some nought)) fun v4 =>
  F.ob (gd v3 false (some a0) (some nought)) fun v5 =>
  F.ob (gd v3 false (nilck v5) (some nought)) fun v6 =>
  F.ob (gd v3 false (fld 27 v6) (some nought)) fun v7 =>
  F.ob (gd v3 false (ld false 1 v7 h0) (some nought)) fun v8 =>
  F.ob (gd v3 false (pv (.len (.sl 0) (.c v8))) (some nought)) fun v9 =>
  F.ob (gd v3 false (F.bin .geq v4 v9) (some nought)) fun v10 =>
  F.ob (pv (.pick (.c v3) (.c (.s (.bool true))) (.c v10))) fun v11 =>
  cnd v11 (
  out [(.s (.ptr .none))] h0) (
  F.ob (nilck a0) fun v12 =>
  F.ob (fld 27 v12) fun v13 =>
  F.ob (ld false 1 v13 h0) fun v14 =>
  F.ob (idxa (.sl 1) v14 a1) fun v15 =>
  F.ob (ld false 1 v15 h0) fun v16 =>
  out [v16] h0)
theorem e106 : (fun (fx : Fx) (cl : Cl) (a0 a1 : AV) (h0 : H) => denF fx cl d106 [a0, a1] h0) = g106 := by kernel_rfl
def d105r0 : D := .reg false [⟨(.some 4), .mv (.c (.s (.int .i64 0))), .none, 0⟩] []
def d105r1 : D := .reg false [⟨(.some 8), .mv (.t 0), .none, 0⟩, ⟨(.some 9), .mv (.t 1), .none, 0⟩, ⟨(.some 10), .call 190 [(.t 8), (.t 9)], .none, 0⟩, ⟨(.some 7), .mv (.t 10), .none, 0⟩, ⟨(.some 11), .ext (.t 7) 0, .none, 0⟩, ⟨(.some 12), .ext (.t 7) 1, .none, 0⟩, ⟨(.some 5), .mv (.t 11), .none, 0⟩, ⟨(.some 6), .mv (.t 12), .none, 0⟩] []
def d105r2 : D := .reg false [⟨(.some 13), .mv (.t 6), .none, 0⟩, ⟨(.some 14), .bin .neq (.t 13) (.c (.s (.int .i64 0))), .none, 0⟩] []
def d105r3 : D := .reg false [⟨(.some 4), .mv (.c (.s (.int .i64 (-1)))), .none, 0⟩] []
def d105r4 : D := .reg false [⟨(.some 15), .mv (.t 5), .none, 0⟩, ⟨(.some 16), .nilck (.t 15), .none, 0⟩, ⟨(.some 17), .fld 1 (.t 16), .none, 0⟩, ⟨(.some 18), .ld false 1 (.t 17), .none, 0⟩, ⟨(.some 4), .mv (.t 18), .none, 0⟩] []
/-- (*quorumite/ring.Ring).Since -/
def d105 : Df := ⟨5, [.t 4], (.seq d105r0 (.seq d105r1 (.seq (.seq d105r2 (.cond .none (.t 14) (.seq d105r3 .ret) .skip)) (.seq d105r4 .ret))))⟩
noncomputable def g105 (fx : Fx) (cl : Cl) (a0 a1 : AV) (h0 : H) : R :=
  obh (cl 190 [a0, a1] h0) fun v0 h1 =>
  F.ob (pv (.ext (.c v0) 0)) fun v1 =>
  F.ob (pv (.ext (.c v0) 1)) fun v2 =>
  F.ob (F.bin .neq v2 (.s (.int .i64 0))) fun v3 =>
  cnd v3 (
  out [(.s (.int .i64 (-1)))] h1) (
  F.ob (nilck v1) fun v4 =>
  F.ob (fld 1 v4) fun v5 =>
  F.ob (ld false 1 v5 h1) fun v6 =>
  out [v6] h1)
theorem e105 : (fun (fx : Fx) (cl : Cl) (a0 a1 : AV) (h0 : H) => denF fx cl d105 [a0, a1] h0) = g105 := by kernel_rfl
def d190r0 : D := .reg false [⟨(.some 4), .mv (.c (.s (.ptr .none))), .none, 0⟩, ⟨(.some 5), .mv (.c (.s (.int .i64 0))), .none, 0⟩] []
def d190r1 : D := .reg false [⟨(.some 7), .mv (.t 0), .none, 0⟩, ⟨(.some 8), .eqv .ptr false (.t 7) (.c (.s (.ptr .none))), .none, 0⟩, ⟨(.some 6), .mv (.t 8), .none, 0⟩] []
def d190r2 : D := .reg false [⟨(.some 4), .mv (.c (.s (.ptr .none))), .none, 0⟩, ⟨(.some 5), .mv (.c (.s (.int .i64 1))), .none, 0⟩] []
def d190r3 : D := .reg false [⟨(.some 10), .mv (.t 1), .none, 0⟩, ⟨(.some 11), .bin .lss (.t 10) (.c (.s (.int .i64 0))), .none, 0⟩, ⟨(.some 12), .mv (.t 11), .none, 0⟩, ⟨(.some 13), .mv (.t 1), (.some (12, false)), 0⟩, ⟨(.some 14), .mv (.t 0), (.some (12, false)), 0⟩, ⟨(.some 15), .nilck (.t 14), (.some (12, false)), 0⟩, ⟨(.some 16), .fld 1 (.t 15), (.some (12, false)), 0⟩, ⟨(.some 17), .ld false 1 (.t 16), (.some (12, false)), 0⟩, ⟨(.some 18), .len (.sl 0) (.t 17), (.some (12, false)), 0⟩, ⟨(.some 19), .bin .geq (.t 13) (.t 18), (.some (12, false)), 0⟩, ⟨(.some 20), .pick (.t 12) (.c (.s (.bool true))) (.t 19), .none, 0⟩, ⟨(.some 9), .mv (.t 20), .none, 0⟩] []
def d190r4 : D := .reg false [⟨(.some 4), .mv (.c (.s (.ptr .none))), .none, 0⟩, ⟨(.some 5), .mv (.c (.s (.int .i64 3))), .none, 0⟩] []
def d190r5 : D := .reg false [⟨(.some 21), .mv (.t 0), .none, 0⟩, ⟨(.some 22), .nilck (.t 21), .none, 0⟩, ⟨(.some 23), .fld 1 (.t 22), .none, 0⟩, ⟨(.some 24), .ld false 1 (.t 23), .none, 0⟩, ⟨(.some 25), .mv (.t 1), .none, 0⟩, ⟨(.some 26), .idxa (.sl 2) (.t 24) (.t 25), .none, 0⟩, ⟨(.some 4), .mv (.t 26), .none, 0⟩, ⟨(.some 5), .mv (.c (.s (.int .i64 0))), .none, 0⟩] []
/-- (*quorumite/ring.Ring).at -/
def d190 : Df := ⟨5, [.t 4, .t 5], (.seq d190r0 (.seq (.blk .none 0 (.seq d190r1 (.cond .none (.t 6) (.seq d190r2 .ret) (.seq d190r3 (.cond .none (.t 9) (.seq d190r4 .ret) .skip))))) (.seq d190r5 .ret)))⟩
noncomputable def g190 (fx : Fx) (cl : Cl) (a0 a1 : AV) (h0 : H) : R :=
  F.ob (pv (.eqv .ptr false (.c a0) (.c (.s (.ptr .none))))) fun v0 =>
  cnd v0 (
  out [(.s (.ptr .none)), (.s (.int .i64 1))] h0) (
  F.ob (F.bin .lss a1 (.s (.int .i64 0))) fun v1 =>
  F.ob (gd v1 false (some a1) (some nought)) fun v2 =>
  F.ob (gd v1 false (some a0) (some nought)) fun v3 =>
  F.ob (gd v1 false (nilck v3) (some nought)) fun v4 =>
  F.ob (gd v1 false (fld 1 v4) (some nought)) fun v5 =>
  F.ob (gd v1 false (ld false 1 v5 h0) (some nought)) fun v6 =>
  F.ob (gd v1 false (pv (.len (.sl 0) (.c v6))) (some nought)) fun v7 =>
  F.ob (gd v1 false (F.bin .geq v2 v7) (some nought)) fun v8 =>
  F.ob (pv (.pick (.c v1) (.c (.s (.bool true))) (.c v8))) fun v9 =>
  cnd v9 (
  out [(.s (.ptr .none)), (.s (.int .i64 3))] h0) (
  F.ob (nilck a0) fun v10 =>
  F.ob (fld 1 v10) fun v11 =>
  F.ob (ld false 1 v11 h0) fun v12 =>
  F.ob (idxa (.sl 2) v12 a1) fun v13 =>
  out [v13, (.s (.int .i64 0))] h0))
theorem e190 : (fun (fx : Fx) (cl : Cl) (a0 a1 : AV) (h0 : H) => denF fx cl d190 [a0, a1] h0) = g190 := by kernel_rfl
def d104r0 : D := .reg false [⟨(.some 4), .mv (.c (.s (.int .i64 0))), .none, 0⟩] []
def d104r1 : D := .reg false [⟨(.some 8), .mv (.t 0), .none, 0⟩, ⟨(.some 9), .mv (.t 1), .none, 0⟩, ⟨(.some 10), .call 190 [(.t 8), (.t 9)], .none, 0⟩, ⟨(.some 7), .mv (.t 10), .none, 0⟩, ⟨(.some 11), .ext (.t 7) 0, .none, 0⟩, ⟨(.some 12), .ext (.t 7) 1, .none, 0⟩, ⟨(.some 5), .mv (.t 11), .none, 0⟩, ⟨(.some 6), .mv (.t 12), .none, 0⟩] []
def d104r2 : D := .reg false [⟨(.some 13), .mv (.t 6), .none, 0⟩, ⟨(.some 14), .bin .neq (.t 13) (.c (.s (.int .i64 0))), .none, 0⟩] []
def d104r3 : D := .reg false [⟨(.some 4), .mv (.c (.s (.int .i64 (-1)))), .none, 0⟩] []
def d104r4 : D := .reg false [⟨(.some 15), .mv (.t 5), .none, 0⟩, ⟨(.some 16), .nilck (.t 15), .none, 0⟩, ⟨(.some 17), .fld 0 (.t 16), .none, 0⟩, ⟨(.some 18), .ld false 1 (.t 17), .none, 0⟩, ⟨(.some 4), .mv (.t 18), .none, 0⟩] []
/-- (*quorumite/ring.Ring).Gen -/
def d104 : Df := ⟨5, [.t 4], (.seq d104r0 (.seq d104r1 (.seq (.seq d104r2 (.cond .none (.t 14) (.seq d104r3 .ret) .skip)) (.seq d104r4 .ret))))⟩
noncomputable def g104 (fx : Fx) (cl : Cl) (a0 a1 : AV) (h0 : H) : R :=
  obh (cl 190 [a0, a1] h0) fun v0 h1 =>
  F.ob (pv (.ext (.c v0) 0)) fun v1 =>
  F.ob (pv (.ext (.c v0) 1)) fun v2 =>
  F.ob (F.bin .neq v2 (.s (.int .i64 0))) fun v3 =>
  cnd v3 (
  out [(.s (.int .i64 (-1)))] h1) (
  F.ob (nilck v1) fun v4 =>
  F.ob (fld 0 v4) fun v5 =>
  F.ob (ld false 1 v5 h1) fun v6 =>
  out [v6] h1)
theorem e104 : (fun (fx : Fx) (cl : Cl) (a0 a1 : AV) (h0 : H) => denF fx cl d104 [a0, a1] h0) = g104 := by kernel_rfl
def d103r0 : D := .reg false [⟨(.some 2), .mv (.c (.s (.ptr .none))), .none, 0⟩] []
def d103r1 : D := .reg false [⟨(.some 3), .mv (.t 0), .none, 0⟩, ⟨(.some 4), .eqv .ptr false (.t 3) (.c (.s (.ptr .none))), .none, 0⟩] []
def d103r2 : D := .reg false [⟨(.some 2), .mv (.c (.s (.ptr .none))), .none, 0⟩] []
def d103r3 : D := .reg false [⟨(.some 5), .mv (.t 0), .none, 0⟩, ⟨(.some 6), .nilck (.t 5), .none, 0⟩, ⟨(.some 7), .fld 26 (.t 6), .none, 0⟩, ⟨(.some 8), .ld false 1 (.t 7), .none, 0⟩, ⟨(.some 2), .mv (.t 8), .none, 0⟩] []
/-- (*quorumite/verify.Gate).Ring -/
def d103 : Df := ⟨4, [.t 2], (.seq d103r0 (.seq (.seq d103r1 (.cond .none (.t 4) (.seq d103r2 .ret) .skip)) (.seq d103r3 .ret)))⟩
noncomputable def g103 (fx : Fx) (cl : Cl) (a0 : AV) (h0 : H) : R :=
  F.ob (pv (.eqv .ptr false (.c a0) (.c (.s (.ptr .none))))) fun v0 =>
  cnd v0 (
  out [(.s (.ptr .none))] h0) (
  F.ob (nilck a0) fun v1 =>
  F.ob (fld 26 v1) fun v2 =>
  F.ob (ld false 1 v2 h0) fun v3 =>
  out [v3] h0)
theorem e103 : (fun (fx : Fx) (cl : Cl) (a0 : AV) (h0 : H) => denF fx cl d103 [a0] h0) = g103 := by kernel_rfl
def d189r0 : D := .reg false [⟨(.some 2), .mv (.c (.s (.sl .none 0 0 true 1))), .none, 0⟩] []
def d189r1 : D := .reg false [⟨(.some 3), .mv (.t 0), .none, 0⟩, ⟨(.some 4), .eqv .sl false (.t 3) (.c (.s (.sl .none 0 0 true 1))), .none, 0⟩] []
def d189r2 : D := .reg false [⟨(.some 2), .mv (.c (.s (.sl .none 0 0 true 1))), .none, 0⟩] []
def d189r3 : D := .reg false [⟨(.some 5), .bslice 128 3 0 [] [], .none, 0⟩, ⟨(.some 6), .mv (.t 0), .none, 0⟩, ⟨(.some 7), .app 128 3 24 (.t 5) (.t 6), .none, 0⟩, ⟨(.some 2), .mv (.t 7), .none, 0⟩] []
/-- slices.Clone[[]quorumite/api.Standing,quorumite/api.Standing] -/
def d189 : Df := ⟨4, [.t 2], (.seq d189r0 (.seq (.seq d189r1 (.cond .none (.t 4) (.seq d189r2 .ret) .skip)) (.seq d189r3 .ret)))⟩
noncomputable def g189 (fx : Fx) (cl : Cl) (a0 : AV) (h0 : H) : R :=
  F.ob (pv (.eqv .sl false (.c a0) (.c (.s (.sl .none 0 0 true 1))))) fun v0 =>
  cnd v0 (
  out [(.s (.sl .none 0 0 true 1))] h0) (
  obh (mkv (.bslice 128 3 0 [] []) h0) fun v1 h1 =>
  obh (av (.app 128 3 24 (.c v1) (.c a0)) h1) fun v2 h2 =>
  out [v2] h2)
theorem e189 : (fun (fx : Fx) (cl : Cl) (a0 : AV) (h0 : H) => denF fx cl d189 [a0] h0) = g189 := by kernel_rfl
def d102r0 : D := .reg false [⟨(.some 2), .mv (.c (.s (.sl .none 0 0 true 1))), .none, 0⟩] []
def d102r1 : D := .reg false [⟨(.some 3), .mv (.t 0), .none, 0⟩, ⟨(.some 4), .eqv .ptr false (.t 3) (.c (.s (.ptr .none))), .none, 0⟩] []
def d102r2 : D := .reg false [⟨(.some 2), .mv (.c (.s (.sl .none 0 0 true 1))), .none, 0⟩] []
def d102r3 : D := .reg false [⟨(.some 5), .mv (.t 0), .none, 0⟩, ⟨(.some 6), .nilck (.t 5), .none, 0⟩, ⟨(.some 7), .fld 0 (.t 6), .none, 0⟩, ⟨(.some 8), .ld false 1 (.t 7), .none, 0⟩, ⟨(.some 9), .call 189 [(.t 8)], .none, 0⟩, ⟨(.some 2), .mv (.t 9), .none, 0⟩] []
/-- (*quorumite/score.Score).All -/
def d102 : Df := ⟨4, [.t 2], (.seq d102r0 (.seq (.seq d102r1 (.cond .none (.t 4) (.seq d102r2 .ret) .skip)) (.seq d102r3 .ret)))⟩
noncomputable def g102 (fx : Fx) (cl : Cl) (a0 : AV) (h0 : H) : R :=
  F.ob (pv (.eqv .ptr false (.c a0) (.c (.s (.ptr .none))))) fun v0 =>
  cnd v0 (
  out [(.s (.sl .none 0 0 true 1))] h0) (
  F.ob (nilck a0) fun v1 =>
  F.ob (fld 0 v1) fun v2 =>
  F.ob (ld false 1 v2 h0) fun v3 =>
  obh (cl 189 [v3] h0) fun v4 h1 =>
  out [v4] h1)
theorem e102 : (fun (fx : Fx) (cl : Cl) (a0 : AV) (h0 : H) => denF fx cl d102 [a0] h0) = g102 := by kernel_rfl
def d188r0 : D := .reg false [⟨(.some 2), .mv (.c (.s (.sl .none 0 0 true 1))), .none, 0⟩] []
def d188r1 : D := .reg false [⟨(.some 3), .mv (.c (.s (.sl .none 0 0 true 1))), .none, 0⟩] []
def d188r2 : D := .reg false [⟨(.some 5), .mv (.c (.s (.int .i64 0))), .none, 0⟩] []
def d188r3 : D := .reg false [⟨(.some 6), .bin .lss (.t 5) (.c (.s (.int .i64 8))), .none, 0⟩] []
def d188r4 : D := .reg false [⟨(.some 7), .mv (.t 5), .none, 0⟩, ⟨(.some 4), .mv (.t 7), .none, 0⟩] []
def d188r5 : D := .reg false [⟨(.some 8), .mv (.t 3), .none, 0⟩, ⟨(.some 9), .mv (.t 0), .none, 0⟩, ⟨(.some 10), .mv (.t 4), .none, 0⟩, ⟨(.some 11), .bin .mul (.c (.s (.int .i64 8))) (.t 10), .none, 0⟩, ⟨(.some 12), .conv .u64 (.t 11), .none, 0⟩, ⟨(.some 13), .bin .shr (.t 9) (.t 12), .none, 0⟩, ⟨(.some 14), .conv .u8 (.t 13), .none, 0⟩, ⟨(.some 15), .bslice 5 1 1 [(.int .u8 0)] [(0, 1, (.t 14))], .none, 0⟩, ⟨(.some 16), .app 5 1 1 (.t 8) (.t 15), .none, 0⟩, ⟨(.some 3), .mv (.t 16), .none, 0⟩] []
def d188r6 : D := .reg false [⟨(.some 17), .bin .add (.t 5) (.c (.s (.int .i64 1))), .none, 0⟩, ⟨(.some 5), .mv (.t 17), .none, 0⟩] []
def d188r7 : D := .reg false [⟨(.some 18), .mv (.t 3), .none, 0⟩, ⟨(.some 2), .mv (.t 18), .none, 0⟩] []
/-- quorumite/sip.Put -/
def d188 : Df := ⟨5, [.t 2], (.seq d188r0 (.seq d188r1 (.seq (.seq d188r2 (.blk (.some [3]) 0 (.loop [3, 5] (.seq d188r3 (.seq (.cond .none (.t 6) .skip (.exit 0)) (.seq (.blk .none 1 (.seq d188r4 d188r5)) d188r6)))))) (.seq d188r7 .ret))))⟩
noncomputable def g188 (fx : Fx) (cl : Cl) (a0 : AV) (h0 : H) : R :=
  letJ (fun (p0 : AV) h1 =>
  out [p0] h1) fun j0 =>
  fx (AV × AV) (fun (r1 : (AV × AV) → H → R) (p1 : AV × AV) h2 =>
  F.ob (F.bin .lss p1.2 (.s (.int .i64 8))) fun v0 =>
  cnd v0 (
  F.ob (F.bin .mul (.s (.int .i64 8)) p1.2) fun v1 =>
  F.ob (conv .u64 v1) fun v2 =>
  F.ob (F.bin .shr a0 v2) fun v3 =>
  F.ob (conv .u8 v3) fun v4 =>
  obh (mkv (.bslice 5 1 1 [(.int .u8 0)] [(0, 1, .c v4)]) h2) fun v5 h3 =>
  obh (av (.app 5 1 1 (.c p1.1) (.c v5)) h3) fun v6 h4 =>
  F.ob (F.bin .add p1.2 (.s (.int .i64 1))) fun v7 =>
  r1 (v6, v7) h4) (
  j0 p1.1 h2)) ((.s (.sl .none 0 0 true 1)), (.s (.int .i64 0))) h0
theorem e188 : (fun (fx : Fx) (cl : Cl) (a0 : AV) (h0 : H) => denF fx cl d188 [a0] h0) = g188 := by kernel_rfl
def d101r0 : D := .reg false [⟨(.some 6), .mv (.t 1), .none, 0⟩, ⟨(.some 7), .len (.sl 0) (.t 6), .none, 0⟩, ⟨(.some 8), .mv (.c (.s (.int .i64 0))), .none, 0⟩] []
def d101r1 : D := .reg false [⟨(.some 9), .bin .lss (.t 8) (.t 7), .none, 0⟩] []
def d101r2 : D := .reg false [⟨(.some 10), .idxa (.sl 1) (.t 6) (.t 8), .none, 0⟩, ⟨(.some 11), .ld false 1 (.t 10), .none, 0⟩, ⟨(.some 5), .mv (.t 11), .none, 0⟩] []
def d101r3 : D := .reg true [⟨(.some 12), .mv (.t 0), .none, 0⟩, ⟨(.some 13), .mv (.t 0), .none, 0⟩, ⟨(.some 14), .nilck (.t 13), .none, 2⟩, ⟨(.some 15), .fld 0 (.t 14), .none, 6⟩, ⟨(.some 16), .ld false 1 (.t 15), .none, 14⟩, ⟨(.some 17), .mv (.t 5), .none, 0⟩, ⟨(.some 18), .conv .u64 (.t 17), .none, 32⟩, ⟨(.some 19), .call 188 [(.t 18)], .none, 96⟩, ⟨(.some 20), .app 5 1 1 (.t 16) (.t 19), .none, 254⟩, ⟨(.some 21), .nilck (.t 12), .none, 511⟩, ⟨(.some 22), .fld 0 (.t 21), .none, 1023⟩, ⟨.none, .st 1 (.t 22) (.t 20), .none, 2047⟩] []
def d101r4 : D := .reg false [⟨(.some 23), .bin .add (.t 8) (.c (.s (.int .i64 1))), .none, 0⟩, ⟨(.some 8), .mv (.t 23), .none, 0⟩] []
/-- (*quorumite/state.writer).put -/
def d101 : Df := ⟨5, [], (.seq d101r0 (.blk (.some []) 0 (.loop [8] (.seq d101r1 (.seq (.cond .none (.t 9) .skip (.exit 0)) (.seq (.blk .none 1 (.seq d101r2 d101r3)) d101r4))))))⟩
noncomputable def g101 (fx : Fx) (cl : Cl) (a0 a1 : AV) (h0 : H) : R :=
  F.ob (pv (.len (.sl 0) (.c a1))) fun v0 =>
  letJ (fun (p0 : Unit) h1 =>
  out [] h1) fun j0 =>
  fx AV (fun (r1 : AV → H → R) (p1 : AV) h2 =>
  F.ob (F.bin .lss p1 v0) fun v1 =>
  cnd v1 (
  F.ob (idxa (.sl 1) a1 p1) fun v2 =>
  F.ob (ld false 1 v2 h2) fun v3 =>
  F.ob (nilck a0) fun v4 =>
  F.ob (fld 0 v4) fun v5 =>
  F.ob (rdd (.ld false 1 (.c v5)) [] h2) fun v6 =>
  F.ob (conv .u64 v3) fun v7 =>
  obh (chk Prod.snd [⟨none, .ld false 1 (.c v5), v6, 4⟩] (cl 188 [v7] h2)) fun v8 h3 =>
  obh (av (.app 5 1 1 (.c v6) (.c v8)) h3) fun v9 h4 =>
  F.ob (nilck a0) fun v10 =>
  F.ob (fld 0 v10) fun v11 =>
  F.ob (st 1 v11 v9 h4) fun h5 =>
  F.ob (F.bin .add p1 (.s (.int .i64 1))) fun v12 =>
  r1 v12 h5) (
  j0 () h2)) (.s (.int .i64 0)) h0
theorem e101 : (fun (fx : Fx) (cl : Cl) (a0 a1 : AV) (h0 : H) => denF fx cl d101 [a0, a1] h0) = g101 := by kernel_rfl
def d47r0 : D := .reg false [⟨(.some 2), .mv (.c (.s (.sl .none 0 0 true 1))), .none, 0⟩] []
def d47r1 : D := .reg false [⟨(.some 13), .mv (.t 0), .none, 0⟩, ⟨(.some 14), .eqv .ptr false (.t 13) (.c (.s (.ptr .none))), .none, 0⟩] []
def d47r2 : D := .reg false [⟨(.some 2), .mv (.c (.s (.sl .none 0 0 true 1))), .none, 0⟩] []
def d47r3 : D := .reg false [⟨(.some 15), .build [(.sl .none 0 0 true 1)] [], .none, 0⟩, ⟨(.some 16), .box 199 (.t 15), .none, 0⟩, ⟨(.some 3), .mv (.t 16), .none, 0⟩] []
def d47r4 : D := .reg false [⟨(.some 17), .mv (.t 3), .none, 0⟩, ⟨(.some 18), .mv (.t 0), .none, 0⟩, ⟨(.some 19), .nilck (.t 18), .none, 0⟩, ⟨(.some 20), .fld 26 (.t 19), .none, 0⟩, ⟨(.some 21), .ld false 1 (.t 20), .none, 0⟩, ⟨(.some 22), .bslice 2 1 1 [(.int .i64 0)] [(0, 1, (.t 21))], .none, 0⟩, ⟨(.some 23), .call 101 [(.t 17), (.t 22)], .none, 0⟩] []
def d47r5 : D := .reg false [⟨(.some 24), .mv (.t 0), .none, 0⟩, ⟨(.some 25), .nilck (.t 24), .none, 0⟩, ⟨(.some 26), .fld 29 (.t 25), .none, 0⟩, ⟨(.some 27), .ld false 1 (.t 26), .none, 0⟩, ⟨(.some 28), .call 102 [(.t 27)], .none, 0⟩, ⟨(.some 29), .len (.sl 0) (.t 28), .none, 0⟩, ⟨(.some 30), .mv (.c (.s (.int .i64 0))), .none, 0⟩] []
def d47r6 : D := .reg false [⟨(.some 31), .bin .lss (.t 30) (.t 29), .none, 0⟩] []
def d47r7 : D := .reg false [⟨(.some 32), .mv (.t 30), .none, 0⟩, ⟨(.some 33), .idxa (.sl 3) (.t 28) (.t 30), .none, 0⟩, ⟨(.some 34), .ld true 3 (.t 33), .none, 0⟩, ⟨(.some 5), .alloc 128 [(.int .i64 0), (.int .i64 0), (.bool false)], .none, 0⟩, ⟨(.some 4), .mv (.t 32), .none, 0⟩, ⟨.none, .st 3 (.t 5) (.t 34), .none, 0⟩] []
def d47r8 : D := .reg true [⟨(.some 35), .mv (.t 3), .none, 0⟩, ⟨(.some 36), .mv (.t 0), .none, 0⟩, ⟨(.some 37), .nilck (.t 36), .none, 2⟩, ⟨(.some 38), .fld 27 (.t 37), .none, 6⟩, ⟨(.some 39), .ld false 1 (.t 38), .none, 14⟩, ⟨(.some 40), .call 103 [(.t 39)], .none, 30⟩, ⟨(.some 41), .mv (.t 4), .none, 0⟩, ⟨(.some 42), .call 104 [(.t 40), (.t 41)], .none, 126⟩, ⟨(.some 43), .mv (.t 0), .none, 0⟩, ⟨(.some 44), .nilck (.t 43), .none, 256⟩, ⟨(.some 45), .fld 27 (.t 44), .none, 768⟩, ⟨(.some 46), .ld false 1 (.t 45), .none, 1792⟩, ⟨(.some 47), .call 103 [(.t 46)], .none, 4094⟩, ⟨(.some 48), .mv (.t 4), .none, 0⟩, ⟨(.some 49), .call 105 [(.t 47), (.t 48)], .none, 16382⟩, ⟨(.some 50), .bslice 2 1 2 [(.int .i64 0), (.int .i64 0)] [(0, 1, (.t 42)), (1, 1, (.t 49))], .none, 32766⟩, ⟨(.some 51), .call 101 [(.t 35), (.t 50)], .none, 65535⟩] []
def d47r9 : D := .reg true [⟨(.some 52), .mv (.t 0), .none, 0⟩, ⟨(.some 53), .nilck (.t 52), .none, 1⟩, ⟨(.some 54), .fld 27 (.t 53), .none, 3⟩, ⟨(.some 55), .ld false 1 (.t 54), .none, 7⟩, ⟨(.some 56), .mv (.t 4), .none, 0⟩, ⟨(.some 57), .call 106 [(.t 55), (.t 56)], .none, 31⟩, ⟨(.some 58), .mv (.t 0), .none, 0⟩, ⟨(.some 59), .nilck (.t 58), .none, 64⟩, ⟨(.some 60), .fld 27 (.t 59), .none, 192⟩, ⟨(.some 61), .ld false 1 (.t 60), .none, 448⟩, ⟨(.some 62), .mv (.t 4), .none, 0⟩, ⟨(.some 63), .call 107 [(.t 61), (.t 62)], .none, 2047⟩, ⟨(.some 64), .bslice 205 1 2 [(.ptr .none), (.ptr .none)] [(0, 1, (.t 57)), (1, 1, (.t 63))], .none, 4095⟩, ⟨(.some 65), .len (.sl 0) (.t 64), .none, 8191⟩, ⟨(.some 66), .mv (.c (.s (.int .i64 0))), .none, 0⟩] []
def d47r10 : D := .reg false [⟨(.some 67), .bin .lss (.t 66) (.t 65), .none, 0⟩] []
def d47r11 : D := .reg false [⟨(.some 68), .idxa (.sl 1) (.t 64) (.t 66), .none, 0⟩, ⟨(.some 69), .ld false 1 (.t 68), .none, 0⟩, ⟨(.some 7), .mv (.t 69), .none, 0⟩] []
def d47r12 : D := .reg false [⟨(.some 70), .mv (.t 3), .none, 0⟩, ⟨(.some 71), .mv (.t 7), .none, 0⟩, ⟨(.some 72), .call 108 [(.t 71)], .none, 0⟩, ⟨(.some 73), .mv (.t 7), .none, 0⟩, ⟨(.some 74), .call 109 [(.t 73)], .none, 0⟩, ⟨(.some 75), .conv .i64 (.t 74), .none, 0⟩, ⟨(.some 76), .bslice 2 1 2 [(.int .i64 0), (.int .i64 0)] [(0, 1, (.t 72)), (1, 1, (.t 75))], .none, 0⟩, ⟨(.some 77), .call 101 [(.t 70), (.t 76)], .none, 0⟩] []
def d47r13 : D := .reg false [⟨(.some 78), .bin .add (.t 66) (.c (.s (.int .i64 1))), .none, 0⟩, ⟨(.some 66), .mv (.t 78), .none, 0⟩] []
def d47r14 : D := .reg true [⟨(.some 79), .mv (.t 3), .none, 0⟩, ⟨(.some 80), .fld 0 (.t 5), .none, 0⟩, ⟨(.some 81), .ld false 1 (.t 80), .none, 2⟩, ⟨(.some 82), .fld 1 (.t 5), .none, 0⟩, ⟨(.some 83), .ld false 1 (.t 82), .none, 8⟩, ⟨(.some 84), .fld 2 (.t 5), .none, 0⟩, ⟨(.some 85), .ld false 1 (.t 84), .none, 32⟩, ⟨(.some 86), .call 110 [(.t 85)], .none, 96⟩, ⟨(.some 87), .bslice 2 1 3 [(.int .i64 0), (.int .i64 0), (.int .i64 0)] [(0, 1, (.t 81)), (1, 1, (.t 83)), (2, 1, (.t 86))], .none, 254⟩, ⟨(.some 88), .call 101 [(.t 79), (.t 87)], .none, 511⟩] []
def d47r15 : D := .reg false [⟨(.some 89), .bin .add (.t 30) (.c (.s (.int .i64 1))), .none, 0⟩, ⟨(.some 30), .mv (.t 89), .none, 0⟩] []
def d47r16 : D := .reg false [⟨(.some 90), .mv (.t 3), .none, 0⟩, ⟨(.some 91), .mv (.t 0), .none, 0⟩, ⟨(.some 92), .nilck (.t 91), .none, 0⟩, ⟨(.some 93), .fld 30 (.t 92), .none, 0⟩, ⟨(.some 94), .ld false 1 (.t 93), .none, 0⟩, ⟨(.some 95), .call 112 [(.t 94)], .none, 0⟩, ⟨(.some 96), .call 113 [(.t 95)], .none, 0⟩, ⟨(.some 97), .call 111 [(.t 90), (.t 96)], .none, 0⟩] []
def d47r17 : D := .reg false [⟨(.some 98), .mv (.t 3), .none, 0⟩, ⟨(.some 99), .mv (.t 0), .none, 0⟩, ⟨(.some 100), .nilck (.t 99), .none, 0⟩, ⟨(.some 101), .fld 30 (.t 100), .none, 0⟩, ⟨(.some 102), .ld false 1 (.t 101), .none, 0⟩, ⟨(.some 103), .call 114 [(.t 102)], .none, 0⟩, ⟨(.some 104), .call 115 [(.t 103)], .none, 0⟩, ⟨(.some 105), .call 111 [(.t 98), (.t 104)], .none, 0⟩] []
def d47r18 : D := .reg false [⟨(.some 106), .mv (.t 0), .none, 0⟩, ⟨(.some 107), .nilck (.t 106), .none, 0⟩, ⟨(.some 108), .fld 28 (.t 107), .none, 0⟩, ⟨(.some 109), .ld false 1 (.t 108), .none, 0⟩, ⟨(.some 110), .call 116 [(.t 109)], .none, 0⟩, ⟨(.some 8), .mv (.t 110), .none, 0⟩] []
def d47r19 : D := .reg false [⟨(.some 111), .mv (.t 3), .none, 0⟩, ⟨(.some 112), .mv (.t 0), .none, 0⟩, ⟨(.some 113), .nilck (.t 112), .none, 0⟩, ⟨(.some 114), .fld 30 (.t 113), .none, 0⟩, ⟨(.some 115), .ld false 1 (.t 114), .none, 0⟩, ⟨(.some 116), .call 59 [(.t 115)], .none, 0⟩, ⟨(.some 117), .mv (.t 8), .none, 0⟩, ⟨(.some 118), .len (.sl 0) (.t 117), .none, 0⟩, ⟨(.some 119), .bslice 2 1 2 [(.int .i64 0), (.int .i64 0)] [(0, 1, (.t 116)), (1, 1, (.t 118))], .none, 0⟩, ⟨(.some 120), .call 101 [(.t 111), (.t 119)], .none, 0⟩] []
def d47r20 : D := .reg false [⟨(.some 121), .mv (.t 8), .none, 0⟩, ⟨(.some 122), .len (.sl 0) (.t 121), .none, 0⟩, ⟨(.some 123), .mv (.c (.s (.int .i64 0))), .none, 0⟩] []
def d47r21 : D := .reg false [⟨(.some 124), .bin .lss (.t 123) (.t 122), .none, 0⟩] []
def d47r22 : D := .reg false [⟨(.some 125), .idxa (.sl 4) (.t 121) (.t 123), .none, 0⟩, ⟨(.some 126), .ld true 4 (.t 125), .none, 0⟩, ⟨(.some 10), .alloc 126 [(.int .i64 0), (.int .i64 0), (.int .i64 0), (.int .i64 0)], .none, 0⟩, ⟨.none, .st 4 (.t 10) (.t 126), .none, 0⟩] []
def d47r23 : D := .reg false [⟨(.some 127), .mv (.t 3), .none, 0⟩, ⟨(.some 128), .fld 2 (.t 10), .none, 0⟩, ⟨(.some 129), .ld false 1 (.t 128), .none, 0⟩, ⟨(.some 130), .fld 1 (.t 10), .none, 0⟩, ⟨(.some 131), .ld false 1 (.t 130), .none, 0⟩, ⟨(.some 132), .fld 0 (.t 10), .none, 0⟩, ⟨(.some 133), .ld false 1 (.t 132), .none, 0⟩, ⟨(.some 134), .fld 3 (.t 10), .none, 0⟩, ⟨(.some 135), .ld false 1 (.t 134), .none, 0⟩, ⟨(.some 136), .bslice 2 1 4 [(.int .i64 0), (.int .i64 0), (.int .i64 0), (.int .i64 0)] [(0, 1, (.t 129)), (1, 1, (.t 131)), (2, 1, (.t 133)), (3, 1, (.t 135))], .none, 0⟩, ⟨(.some 137), .call 101 [(.t 127), (.t 136)], .none, 0⟩] []
def d47r24 : D := .reg false [⟨(.some 138), .bin .add (.t 123) (.c (.s (.int .i64 1))), .none, 0⟩, ⟨(.some 123), .mv (.t 138), .none, 0⟩] []
def d47r25 : D := .reg false [⟨(.some 139), .mv (.t 3), .none, 0⟩, ⟨(.some 140), .mv (.t 0), .none, 0⟩, ⟨(.some 141), .nilck (.t 140), .none, 0⟩, ⟨(.some 142), .fld 31 (.t 141), .none, 0⟩, ⟨(.some 143), .ld false 1 (.t 142), .none, 0⟩, ⟨(.some 144), .len (.sl 0) (.t 143), .none, 0⟩, ⟨(.some 145), .bslice 2 1 1 [(.int .i64 0)] [(0, 1, (.t 144))], .none, 0⟩, ⟨(.some 146), .call 101 [(.t 139), (.t 145)], .none, 0⟩] []
def d47r26 : D := .reg false [⟨(.some 147), .mv (.t 0), .none, 0⟩, ⟨(.some 148), .nilck (.t 147), .none, 0⟩, ⟨(.some 149), .fld 31 (.t 148), .none, 0⟩, ⟨(.some 150), .ld false 1 (.t 149), .none, 0⟩, ⟨(.some 151), .len (.sl 0) (.t 150), .none, 0⟩, ⟨(.some 152), .mv (.c (.s (.int .i64 0))), .none, 0⟩] []
def d47r27 : D := .reg false [⟨(.some 153), .bin .lss (.t 152) (.t 151), .none, 0⟩] []
def d47r28 : D := .reg false [⟨(.some 154), .idxa (.sl 8) (.t 150) (.t 152), .none, 0⟩, ⟨(.some 155), .ld true 8 (.t 154), .none, 0⟩, ⟨(.some 12), .alloc 44 [(.int .i64 0), (.int .i64 0), (.int .i64 0), (.bool false), (.int .i64 0), (.int .i64 0), (.int .i64 0), (.int .i64 0)], .none, 0⟩, ⟨.none, .st 8 (.t 12) (.t 155), .none, 0⟩] []
def d47r29 : D := .reg true [⟨(.some 156), .mv (.t 3), .none, 0⟩, ⟨(.some 157), .fld 0 (.t 12), .none, 0⟩, ⟨(.some 158), .ld false 1 (.t 157), .none, 2⟩, ⟨(.some 159), .fld 1 (.t 12), .none, 0⟩, ⟨(.some 160), .ld false 1 (.t 159), .none, 8⟩, ⟨(.some 161), .fld 2 (.t 12), .none, 0⟩, ⟨(.some 162), .ld false 1 (.t 161), .none, 32⟩, ⟨(.some 163), .fld 3 (.t 12), .none, 0⟩, ⟨(.some 164), .ld false 1 (.t 163), .none, 128⟩, ⟨(.some 165), .call 110 [(.t 164)], .none, 384⟩, ⟨(.some 166), .bslice 2 1 4 [(.int .i64 0), (.int .i64 0), (.int .i64 0), (.int .i64 0)] [(0, 1, (.t 158)), (1, 1, (.t 160)), (2, 1, (.t 162)), (3, 1, (.t 165))], .none, 1022⟩, ⟨(.some 167), .call 101 [(.t 156), (.t 166)], .none, 2047⟩] []
def d47r30 : D := .reg false [⟨(.some 168), .mv (.t 3), .none, 0⟩, ⟨(.some 169), .fld 4 (.t 12), .none, 0⟩, ⟨(.some 170), .slc (.arr 4 1) (.t 169) .none .none .none, .none, 0⟩, ⟨(.some 171), .call 101 [(.t 168), (.t 170)], .none, 0⟩] []
def d47r31 : D := .reg false [⟨(.some 172), .bin .add (.t 152) (.c (.s (.int .i64 1))), .none, 0⟩, ⟨(.some 152), .mv (.t 172), .none, 0⟩] []
def d47r32 : D := .reg false [⟨(.some 173), .mv (.t 3), .none, 0⟩, ⟨(.some 174), .nilck (.t 173), .none, 0⟩, ⟨(.some 175), .fld 0 (.t 174), .none, 0⟩, ⟨(.some 176), .ld false 1 (.t 175), .none, 0⟩, ⟨(.some 2), .mv (.t 176), .none, 0⟩] []
/-- (*quorumite/state.State).Bytes -/
def d47 : Df := ⟨8, [.t 2], (.seq d47r0 (.seq (.seq d47r1 (.cond .none (.t 14) (.seq d47r2 .ret) .skip)) (.seq d47r3 (.seq d47r4 (.seq (.seq d47r5 (.blk (.some []) 0 (.loop [30] (.seq d47r6 (.seq (.cond .none (.t 31) .skip (.exit 0)) (.seq (.blk (.some []) 1 (.seq d47r7 (.seq d47r8 (.seq (.seq d47r9 (.blk (.some []) 2 (.loop [66] (.seq d47r10 (.seq (.cond .none (.t 67) .skip (.exit 2)) (.seq (.blk .none 3 (.seq d47r11 d47r12)) d47r13)))))) d47r14)))) d47r15)))))) (.seq d47r16 (.seq d47r17 (.seq d47r18 (.seq d47r19 (.seq (.seq d47r20 (.blk (.some []) 4 (.loop [123] (.seq d47r21 (.seq (.cond .none (.t 124) .skip (.exit 4)) (.seq (.blk .none 5 (.seq d47r22 d47r23)) d47r24)))))) (.seq d47r25 (.seq (.seq d47r26 (.blk (.some []) 6 (.loop [152] (.seq d47r27 (.seq (.cond .none (.t 153) .skip (.exit 6)) (.seq (.blk .none 7 (.seq d47r28 (.seq d47r29 d47r30))) d47r31)))))) (.seq d47r32 .ret)))))))))))))⟩
noncomputable def g47 (fx : Fx) (cl : Cl) (a0 : AV) (h0 : H) : R :=
  F.ob (pv (.eqv .ptr false (.c a0) (.c (.s (.ptr .none))))) fun v0 =>
  cnd v0 (
  out [(.s (.sl .none 0 0 true 1))] h0) (
  F.ob (pv (.build [(.sl .none 0 0 true 1)] [])) fun v1 =>
  obh (mkv (.box 199 (.c v1)) h0) fun v2 h1 =>
  F.ob (nilck a0) fun v3 =>
  F.ob (fld 26 v3) fun v4 =>
  F.ob (ld false 1 v4 h1) fun v5 =>
  obh (mkv (.bslice 2 1 1 [(.int .i64 0)] [(0, 1, .c v5)]) h1) fun v6 h2 =>
  obh (cl 101 [v2, v6] h2) fun v7 h3 =>
  F.ob (nilck a0) fun v8 =>
  F.ob (fld 29 v8) fun v9 =>
  F.ob (ld false 1 v9 h3) fun v10 =>
  obh (cl 102 [v10] h3) fun v11 h4 =>
  F.ob (pv (.len (.sl 0) (.c v11))) fun v12 =>
  letJ (fun (p0 : Unit) h5 =>
  F.ob (nilck a0) fun v13 =>
  F.ob (fld 30 v13) fun v14 =>
  F.ob (ld false 1 v14 h5) fun v15 =>
  obh (cl 112 [v15] h5) fun v16 h6 =>
  obh (cl 113 [v16] h6) fun v17 h7 =>
  obh (cl 111 [v2, v17] h7) fun v18 h8 =>
  F.ob (nilck a0) fun v19 =>
  F.ob (fld 30 v19) fun v20 =>
  F.ob (ld false 1 v20 h8) fun v21 =>
  obh (cl 114 [v21] h8) fun v22 h9 =>
  obh (cl 115 [v22] h9) fun v23 h10 =>
  obh (cl 111 [v2, v23] h10) fun v24 h11 =>
  F.ob (nilck a0) fun v25 =>
  F.ob (fld 28 v25) fun v26 =>
  F.ob (ld false 1 v26 h11) fun v27 =>
  obh (cl 116 [v27] h11) fun v28 h12 =>
  F.ob (nilck a0) fun v29 =>
  F.ob (fld 30 v29) fun v30 =>
  F.ob (ld false 1 v30 h12) fun v31 =>
  obh (cl 59 [v31] h12) fun v32 h13 =>
  F.ob (pv (.len (.sl 0) (.c v28))) fun v33 =>
  obh (mkv (.bslice 2 1 2 [(.int .i64 0), (.int .i64 0)] [(0, 1, .c v32), (1, 1, .c v33)]) h13) fun v34 h14 =>
  obh (cl 101 [v2, v34] h14) fun v35 h15 =>
  F.ob (pv (.len (.sl 0) (.c v28))) fun v36 =>
  letJ (fun (p1 : Unit) h16 =>
  F.ob (nilck a0) fun v37 =>
  F.ob (fld 31 v37) fun v38 =>
  F.ob (ld false 1 v38 h16) fun v39 =>
  F.ob (pv (.len (.sl 0) (.c v39))) fun v40 =>
  obh (mkv (.bslice 2 1 1 [(.int .i64 0)] [(0, 1, .c v40)]) h16) fun v41 h17 =>
  obh (cl 101 [v2, v41] h17) fun v42 h18 =>
  F.ob (nilck a0) fun v43 =>
  F.ob (fld 31 v43) fun v44 =>
  F.ob (ld false 1 v44 h18) fun v45 =>
  F.ob (pv (.len (.sl 0) (.c v45))) fun v46 =>
  letJ (fun (p2 : Unit) h19 =>
  F.ob (nilck v2) fun v47 =>
  F.ob (fld 0 v47) fun v48 =>
  F.ob (ld false 1 v48 h19) fun v49 =>
  out [v49] h19) fun j2 =>
  fx AV (fun (r3 : AV → H → R) (p3 : AV) h20 =>
  F.ob (F.bin .lss p3 v46) fun v50 =>
  cnd v50 (
  F.ob (idxa (.sl 8) v45 p3) fun v51 =>
  F.ob (ld true 8 v51 h20) fun v52 =>
  obh (mkv (.alloc 44 [(.int .i64 0), (.int .i64 0), (.int .i64 0), (.bool false), (.int .i64 0), (.int .i64 0), (.int .i64 0), (.int .i64 0)]) h20) fun v53 h21 =>
  F.ob (st 8 v53 v52 h21) fun h22 =>
  F.ob (fld 0 v53) fun v54 =>
  F.ob (rdd (.ld false 1 (.c v54)) [] h22) fun v55 =>
  F.ob (fld 1 v53) fun v56 =>
  F.ob (rdd (.ld false 1 (.c v56)) [] h22) fun v57 =>
  F.ob (fld 2 v53) fun v58 =>
  F.ob (rdd (.ld false 1 (.c v58)) [] h22) fun v59 =>
  F.ob (fld 3 v53) fun v60 =>
  F.ob (rdd (.ld false 1 (.c v60)) [] h22) fun v61 =>
  obh (chk Prod.snd [⟨none, .ld false 1 (.c v58), v59, 6⟩, ⟨none, .ld false 1 (.c v56), v57, 4⟩, ⟨none, .ld false 1 (.c v54), v55, 2⟩] (cl 110 [v61] h22)) fun v62 h23 =>
  obh (mkv (.bslice 2 1 4 [(.int .i64 0), (.int .i64 0), (.int .i64 0), (.int .i64 0)] [(0, 1, .c v55), (1, 1, .c v57), (2, 1, .c v59), (3, 1, .c v62)]) h23) fun v63 h24 =>
  obh (cl 101 [v2, v63] h24) fun v64 h25 =>
  F.ob (fld 4 v53) fun v65 =>
  F.ob (pv (.slc (.arr 4 1) (.c v65) .none .none .none)) fun v66 =>
  obh (cl 101 [v2, v66] h25) fun v67 h26 =>
  F.ob (F.bin .add p3 (.s (.int .i64 1))) fun v68 =>
  r3 v68 h26) (
  j2 () h20)) (.s (.int .i64 0)) h18) fun j1 =>
  fx AV (fun (r4 : AV → H → R) (p4 : AV) h27 =>
  F.ob (F.bin .lss p4 v36) fun v69 =>
  cnd v69 (
  F.ob (idxa (.sl 4) v28 p4) fun v70 =>
  F.ob (ld true 4 v70 h27) fun v71 =>
  obh (mkv (.alloc 126 [(.int .i64 0), (.int .i64 0), (.int .i64 0), (.int .i64 0)]) h27) fun v72 h28 =>
  F.ob (st 4 v72 v71 h28) fun h29 =>
  F.ob (fld 2 v72) fun v73 =>
  F.ob (ld false 1 v73 h29) fun v74 =>
  F.ob (fld 1 v72) fun v75 =>
  F.ob (ld false 1 v75 h29) fun v76 =>
  F.ob (fld 0 v72) fun v77 =>
  F.ob (ld false 1 v77 h29) fun v78 =>
  F.ob (fld 3 v72) fun v79 =>
  F.ob (ld false 1 v79 h29) fun v80 =>
  obh (mkv (.bslice 2 1 4 [(.int .i64 0), (.int .i64 0), (.int .i64 0), (.int .i64 0)] [(0, 1, .c v74), (1, 1, .c v76), (2, 1, .c v78), (3, 1, .c v80)]) h29) fun v81 h30 =>
  obh (cl 101 [v2, v81] h30) fun v82 h31 =>
  F.ob (F.bin .add p4 (.s (.int .i64 1))) fun v83 =>
  r4 v83 h31) (
  j1 () h27)) (.s (.int .i64 0)) h15) fun j0 =>
  fx AV (fun (r5 : AV → H → R) (p5 : AV) h32 =>
  F.ob (F.bin .lss p5 v12) fun v84 =>
  cnd v84 (
  letJ (fun (p6 : Unit) h33 =>
  F.ob (F.bin .add p5 (.s (.int .i64 1))) fun v85 =>
  r5 v85 h33) fun j6 =>
  F.ob (idxa (.sl 3) v11 p5) fun v86 =>
  F.ob (ld true 3 v86 h32) fun v87 =>
  obh (mkv (.alloc 128 [(.int .i64 0), (.int .i64 0), (.bool false)]) h32) fun v88 h34 =>
  F.ob (st 3 v88 v87 h34) fun h35 =>
  F.ob (nilck a0) fun v89 =>
  F.ob (fld 27 v89) fun v90 =>
  F.ob (rdd (.ld false 1 (.c v90)) [] h35) fun v91 =>
  obh (cl 103 [v91] h35) fun v92 h36 =>
  obh (cl 104 [v92, p5] h36) fun v93 h37 =>
  F.ob (nilck a0) fun v94 =>
  F.ob (fld 27 v94) fun v95 =>
  F.ob (rdd (.ld false 1 (.c v95)) [(7, h36), (5, h35)] h37) fun v96 =>
  obh (cl 103 [v96] h37) fun v97 h38 =>
  obh (cl 105 [v97, p5] h38) fun v98 h39 =>
  obh (mkv (.bslice 2 1 2 [(.int .i64 0), (.int .i64 0)] [(0, 1, .c v93), (1, 1, .c v98)]) h39) fun v99 h40 =>
  obh (cl 101 [v2, v99] h40) fun v100 h41 =>
  F.ob (nilck a0) fun v101 =>
  F.ob (fld 27 v101) fun v102 =>
  F.ob (rdd (.ld false 1 (.c v102)) [] h41) fun v103 =>
  obh (cl 106 [v103, p5] h41) fun v104 h42 =>
  F.ob (nilck a0) fun v105 =>
  F.ob (fld 27 v105) fun v106 =>
  F.ob (rdd (.ld false 1 (.c v106)) [(5, h41)] h42) fun v107 =>
  obh (cl 107 [v107, p5] h42) fun v108 h43 =>
  obh (mkv (.bslice 205 1 2 [(.ptr .none), (.ptr .none)] [(0, 1, .c v104), (1, 1, .c v108)]) h43) fun v109 h44 =>
  F.ob (pv (.len (.sl 0) (.c v109))) fun v110 =>
  letJ (fun (p7 : Unit) h45 =>
  F.ob (fld 0 v88) fun v111 =>
  F.ob (rdd (.ld false 1 (.c v111)) [] h45) fun v112 =>
  F.ob (fld 1 v88) fun v113 =>
  F.ob (rdd (.ld false 1 (.c v113)) [] h45) fun v114 =>
  F.ob (fld 2 v88) fun v115 =>
  F.ob (rdd (.ld false 1 (.c v115)) [] h45) fun v116 =>
  obh (chk Prod.snd [⟨none, .ld false 1 (.c v113), v114, 4⟩, ⟨none, .ld false 1 (.c v111), v112, 2⟩] (cl 110 [v116] h45)) fun v117 h46 =>
  obh (mkv (.bslice 2 1 3 [(.int .i64 0), (.int .i64 0), (.int .i64 0)] [(0, 1, .c v112), (1, 1, .c v114), (2, 1, .c v117)]) h46) fun v118 h47 =>
  obh (cl 101 [v2, v118] h47) fun v119 h48 =>
  j6 () h48) fun j7 =>
  fx AV (fun (r8 : AV → H → R) (p8 : AV) h49 =>
  F.ob (F.bin .lss p8 v110) fun v120 =>
  cnd v120 (
  F.ob (idxa (.sl 1) v109 p8) fun v121 =>
  F.ob (ld false 1 v121 h49) fun v122 =>
  obh (cl 108 [v122] h49) fun v123 h50 =>
  obh (cl 109 [v122] h50) fun v124 h51 =>
  F.ob (conv .i64 v124) fun v125 =>
  obh (mkv (.bslice 2 1 2 [(.int .i64 0), (.int .i64 0)] [(0, 1, .c v123), (1, 1, .c v125)]) h51) fun v126 h52 =>
  obh (cl 101 [v2, v126] h52) fun v127 h53 =>
  F.ob (F.bin .add p8 (.s (.int .i64 1))) fun v128 =>
  r8 v128 h53) (
  j7 () h49)) (.s (.int .i64 0)) h44) (
  j0 () h32)) (.s (.int .i64 0)) h4)
theorem e47 : (fun (fx : Fx) (cl : Cl) (a0 : AV) (h0 : H) => denF fx cl d47 [a0] h0) = g47 := by kernel_rfl
def d84r0 : D := .reg false [⟨(.some 2), .mv (.c (.s (.int .i64 0))), .none, 0⟩] []
def d84r1 : D := .reg true [⟨(.some 7), .mv (.t 0), .none, 0⟩, ⟨(.some 8), .nilck (.t 7), .none, 1⟩, ⟨(.some 9), .fld 0 (.t 8), .none, 3⟩, ⟨(.some 10), .ld true 26 (.t 9), .none, 7⟩, ⟨(.some 11), .mv (.t 0), .none, 0⟩, ⟨(.some 12), .nilck (.t 11), .none, 16⟩, ⟨(.some 13), .fld 27 (.t 12), .none, 48⟩, ⟨(.some 14), .ld false 1 (.t 13), .none, 112⟩, ⟨(.some 15), .call 47 [(.t 14)], .none, 240⟩, ⟨(.some 16), .mv (.t 0), .none, 0⟩, ⟨(.some 17), .nilck (.t 16), .none, 512⟩, ⟨(.some 18), .fld 28 (.t 17), .none, 1536⟩, ⟨(.some 19), .ld false 1 (.t 18), .none, 3584⟩, ⟨(.some 20), .bin .add (.t 19) (.c (.s (.int .u32 1))), .none, 7680⟩, ⟨(.some 21), .call 30 [(.t 10), (.t 15), (.t 20)], .none, 16383⟩, ⟨(.some 3), .mv (.t 21), .none, 32767⟩] []
def d84r2 : D := .reg false [⟨(.some 22), .mv (.t 3), .none, 0⟩, ⟨(.some 23), .len (.sl 0) (.t 22), .none, 0⟩, ⟨(.some 24), .mv (.t 0), .none, 0⟩, ⟨(.some 25), .nilck (.t 24), .none, 0⟩, ⟨(.some 26), .fld 0 (.t 25), .none, 0⟩, ⟨(.some 27), .ld true 26 (.t 26), .none, 0⟩, ⟨(.some 28), .call 90 [(.t 27)], .none, 0⟩, ⟨(.some 29), .bin .geq (.t 23) (.t 28), .none, 0⟩, ⟨(.some 30), .mv (.t 29), .none, 0⟩, ⟨(.some 31), .mv (.t 0), (.some (30, false)), 0⟩, ⟨(.some 32), .nilck (.t 31), (.some (30, false)), 0⟩, ⟨(.some 33), .fld 28 (.t 32), (.some (30, false)), 0⟩, ⟨(.some 34), .ld false 1 (.t 33), (.some (30, false)), 0⟩, ⟨(.some 35), .bin .geq (.t 34) (.c (.s (.int .u32 250))), (.some (30, false)), 0⟩, ⟨(.some 36), .pick (.t 30) (.c (.s (.bool true))) (.t 35), .none, 0⟩] []
def d84r3 : D := .reg false [⟨(.some 2), .mv (.c (.s (.int .i64 9))), .none, 0⟩] []
def d84r4 : D := .reg false [⟨(.some 37), .mv (.t 3), .none, 0⟩, ⟨(.some 38), .len (.sl 0) (.t 37), .none, 0⟩, ⟨(.some 39), .mv (.c (.s (.int .i64 0))), .none, 0⟩] []
def d84r5 : D := .reg false [⟨(.some 40), .bin .lss (.t 39) (.t 38), .none, 0⟩] []
def d84r6 : D := .reg false [⟨(.some 41), .idxa (.sl 4) (.t 37) (.t 39), .none, 0⟩, ⟨(.some 42), .ld true 4 (.t 41), .none, 0⟩, ⟨(.some 5), .alloc 70 [(.int .u32 0), (.int .i64 0), (.int .i64 0), (.sl .none 0 0 true 1)], .none, 0⟩, ⟨.none, .st 4 (.t 5) (.t 42), .none, 0⟩] []
def d84r7 : D := .reg false [⟨(.some 43), .mv (.t 0), .none, 0⟩, ⟨(.some 44), .ld true 4 (.t 5), .none, 0⟩, ⟨(.some 45), .call 88 [(.t 43), (.t 44)], .none, 0⟩, ⟨(.some 6), .mv (.t 45), .none, 0⟩] []
def d84r8 : D := .reg false [⟨(.some 46), .mv (.t 6), .none, 0⟩, ⟨(.some 47), .bin .neq (.t 46) (.c (.s (.int .i64 0))), .none, 0⟩] []
def d84r9 : D := .reg false [⟨(.some 48), .mv (.t 6), .none, 0⟩, ⟨(.some 2), .mv (.t 48), .none, 0⟩] []
def d84r10 : D := .reg false [⟨(.some 49), .bin .add (.t 39) (.c (.s (.int .i64 1))), .none, 0⟩, ⟨(.some 39), .mv (.t 49), .none, 0⟩] []
def d84r11 : D := .reg false [⟨(.some 50), .mv (.t 0), .none, 0⟩, ⟨(.some 51), .mv (.t 0), .none, 0⟩, ⟨(.some 52), .mv (.t 0), .none, 0⟩, ⟨(.some 53), .nilck (.t 52), .none, 0⟩, ⟨(.some 54), .fld 28 (.t 53), .none, 0⟩, ⟨(.some 55), .ld false 1 (.t 54), .none, 0⟩, ⟨(.some 56), .bin .add (.t 55) (.c (.s (.int .u32 1))), .none, 0⟩, ⟨(.some 57), .mv (.t 3), .none, 0⟩, ⟨(.some 58), .len (.sl 0) (.t 57), .none, 0⟩, ⟨(.some 59), .nilck (.t 50), .none, 0⟩, ⟨(.some 60), .fld 28 (.t 59), .none, 0⟩, ⟨.none, .st 1 (.t 60) (.t 56), .none, 0⟩, ⟨(.some 61), .nilck (.t 51), .none, 0⟩, ⟨(.some 62), .fld 29 (.t 61), .none, 0⟩, ⟨.none, .st 1 (.t 62) (.t 58), .none, 0⟩] []
def d84r12 : D := .reg false [⟨(.some 2), .mv (.c (.s (.int .i64 0))), .none, 0⟩] []
/-- (*quorumite/store.Store).begin -/
def d84 : Df := ⟨6, [.t 2], (.seq d84r0 (.seq d84r1 (.seq (.seq d84r2 (.cond .none (.t 36) (.seq d84r3 .ret) .skip)) (.seq (.seq d84r4 (.blk (.some []) 0 (.loop [39] (.seq d84r5 (.seq (.cond .none (.t 40) .skip (.exit 0)) (.seq (.blk .none 1 (.seq d84r6 (.seq d84r7 (.seq d84r8 (.cond .none (.t 47) (.seq d84r9 .ret) .skip))))) d84r10)))))) (.seq d84r11 (.seq d84r12 .ret))))))⟩
noncomputable def g84 (fx : Fx) (cl : Cl) (a0 : AV) (h0 : H) : R :=
  F.ob (nilck a0) fun v0 =>
  F.ob (fld 0 v0) fun v1 =>
  F.ob (rdd (.ld true 26 (.c v1)) [] h0) fun v2 =>
  F.ob (nilck a0) fun v3 =>
  F.ob (fld 27 v3) fun v4 =>
  F.ob (rdd (.ld false 1 (.c v4)) [] h0) fun v5 =>
  obh (chk Prod.snd [⟨none, .ld true 26 (.c v1), v2, 3⟩] (cl 47 [v5] h0)) fun v6 h1 =>
  F.ob (nilck a0) fun v7 =>
  F.ob (fld 28 v7) fun v8 =>
  F.ob (rdd (.ld false 1 (.c v8)) [(8, h0)] h1) fun v9 =>
  F.ob (F.bin .add v9 (.s (.int .u32 1))) fun v10 =>
  obh (cl 30 [v2, v6, v10] h1) fun v11 h2 =>
  F.ob (pv (.len (.sl 0) (.c v11))) fun v12 =>
  F.ob (nilck a0) fun v13 =>
  F.ob (fld 0 v13) fun v14 =>
  F.ob (ld true 26 v14 h2) fun v15 =>
  obh (cl 90 [v15] h2) fun v16 h3 =>
  F.ob (F.bin .geq v12 v16) fun v17 =>
  F.ob (gd v17 false (some a0) (some nought)) fun v18 =>
  F.ob (gd v17 false (nilck v18) (some nought)) fun v19 =>
  F.ob (gd v17 false (fld 28 v19) (some nought)) fun v20 =>
  F.ob (gd v17 false (ld false 1 v20 h3) (some nought)) fun v21 =>
  F.ob (gd v17 false (F.bin .geq v21 (.s (.int .u32 250))) (some nought)) fun v22 =>
  F.ob (pv (.pick (.c v17) (.c (.s (.bool true))) (.c v22))) fun v23 =>
  cnd v23 (
  out [(.s (.int .i64 9))] h3) (
  F.ob (pv (.len (.sl 0) (.c v11))) fun v24 =>
  letJ (fun (p0 : Unit) h4 =>
  F.ob (nilck a0) fun v25 =>
  F.ob (fld 28 v25) fun v26 =>
  F.ob (ld false 1 v26 h4) fun v27 =>
  F.ob (F.bin .add v27 (.s (.int .u32 1))) fun v28 =>
  F.ob (pv (.len (.sl 0) (.c v11))) fun v29 =>
  F.ob (nilck a0) fun v30 =>
  F.ob (fld 28 v30) fun v31 =>
  F.ob (st 1 v31 v28 h4) fun h5 =>
  F.ob (nilck a0) fun v32 =>
  F.ob (fld 29 v32) fun v33 =>
  F.ob (st 1 v33 v29 h5) fun h6 =>
  out [(.s (.int .i64 0))] h6) fun j0 =>
  fx AV (fun (r1 : AV → H → R) (p1 : AV) h7 =>
  F.ob (F.bin .lss p1 v24) fun v34 =>
  cnd v34 (
  F.ob (idxa (.sl 4) v11 p1) fun v35 =>
  F.ob (ld true 4 v35 h7) fun v36 =>
  obh (mkv (.alloc 70 [(.int .u32 0), (.int .i64 0), (.int .i64 0), (.sl .none 0 0 true 1)]) h7) fun v37 h8 =>
  F.ob (st 4 v37 v36 h8) fun h9 =>
  F.ob (ld true 4 v37 h9) fun v38 =>
  obh (cl 88 [a0, v38] h9) fun v39 h10 =>
  F.ob (F.bin .neq v39 (.s (.int .i64 0))) fun v40 =>
  cnd v40 (
  out [v39] h10) (
  F.ob (F.bin .add p1 (.s (.int .i64 1))) fun v41 =>
  r1 v41 h10)) (
  j0 () h7)) (.s (.int .i64 0)) h3)
theorem e84 : (fun (fx : Fx) (cl : Cl) (a0 : AV) (h0 : H) => denF fx cl d84 [a0] h0) = g84 := by kernel_rfl
def d293r0 : D := .reg false [⟨(.some 1), .box 27 (.t 0), .none, 0⟩, ⟨(.some 2), .mv (.c (.s (.bool false))), .none, 0⟩] []
def d293r1 : D := .reg false [⟨(.some 5), .ld true 26 (.t 1), .none, 0⟩, ⟨(.some 6), .call 208 [(.t 5)], .none, 0⟩, ⟨(.some 7), .len (.sl 0) (.t 6), .none, 0⟩, ⟨(.some 8), .mv (.c (.s (.int .i64 0))), .none, 0⟩] []
def d293r2 : D := .reg false [⟨(.some 9), .bin .lss (.t 8) (.t 7), .none, 0⟩] []
def d293r3 : D := .reg false [⟨(.some 10), .idxa (.sl 4) (.t 6) (.t 8), .none, 0⟩, ⟨(.some 11), .ld true 4 (.t 10), .none, 0⟩, ⟨(.some 4), .alloc 340 [(.str []), (.int .i64 0), (.int .i64 0), (.int .i64 0)], .none, 0⟩, ⟨.none, .st 4 (.t 4) (.t 11), .none, 0⟩] []
def d293r4 : D := .reg false [⟨(.some 12), .fld 0 (.t 4), .none, 0⟩, ⟨(.some 13), .ld false 1 (.t 12), .none, 0⟩] []
def d293r5 : D := .reg false [⟨(.some 15), .bin .eql (.t 13) (.c (.s (.str [112, 111, 100, 115, 117, 112]))), .none, 0⟩, ⟨(.some 14), .mv (.t 15), .none, 0⟩] []
def d293r6 : D := .reg false [⟨(.some 16), .bin .eql (.t 13) (.c (.s (.str [112, 99, 116, 117, 112]))), .none, 0⟩, ⟨(.some 14), .mv (.t 16), .none, 0⟩] []
def d293r7 : D := .reg false [⟨(.some 17), .bin .eql (.t 13) (.c (.s (.str [112, 111, 100, 115, 100, 111, 119, 110]))), .none, 0⟩, ⟨(.some 14), .mv (.t 17), .none, 0⟩] []
def d293r8 : D := .reg false [⟨(.some 18), .bin .eql (.t 13) (.c (.s (.str [112, 99, 116, 100, 111, 119, 110]))), .none, 0⟩, ⟨(.some 14), .mv (.t 18), .none, 0⟩] []
def d293r9 : D := .reg false [⟨(.some 19), .bin .eql (.t 13) (.c (.s (.str [112, 101, 114, 105, 111, 100]))), .none, 0⟩, ⟨(.some 14), .mv (.t 19), .none, 0⟩] []
def d293r10 : D := .reg false [⟨(.some 20), .bin .eql (.t 13) (.c (.s (.str [109, 105, 110]))), .none, 0⟩, ⟨(.some 14), .mv (.t 20), .none, 0⟩] []
def d293r11 : D := .reg false [⟨(.some 21), .bin .eql (.t 13) (.c (.s (.str [109, 97, 120]))), .none, 0⟩, ⟨(.some 14), .mv (.t 21), .none, 0⟩] []
def d293r12 : D := .reg false [⟨(.some 22), .fld 1 (.t 4), .none, 0⟩, ⟨(.some 23), .ld false 1 (.t 22), .none, 0⟩, ⟨(.some 24), .fld 2 (.t 4), .none, 0⟩, ⟨(.some 25), .ld false 1 (.t 24), .none, 0⟩, ⟨(.some 26), .bin .lss (.t 23) (.t 25), .none, 0⟩, ⟨(.some 27), .mv (.t 26), .none, 0⟩, ⟨(.some 28), .fld 1 (.t 4), (.some (27, false)), 0⟩, ⟨(.some 29), .ld false 1 (.t 28), (.some (27, false)), 0⟩, ⟨(.some 30), .fld 3 (.t 4), (.some (27, false)), 0⟩, ⟨(.some 31), .ld false 1 (.t 30), (.some (27, false)), 0⟩, ⟨(.some 32), .bin .gtr (.t 29) (.t 31), (.some (27, false)), 0⟩, ⟨(.some 33), .pick (.t 27) (.c (.s (.bool true))) (.t 32), .none, 0⟩] []
def d293r13 : D := .reg false [⟨(.some 2), .mv (.c (.s (.bool false))), .none, 0⟩] []
def d293r14 : D := .reg false [⟨(.some 34), .bin .add (.t 8) (.c (.s (.int .i64 1))), .none, 0⟩, ⟨(.some 8), .mv (.t 34), .none, 0⟩] []
def d293r15 : D := .reg false [⟨(.some 2), .mv (.c (.s (.bool true))), .none, 0⟩] []
/-- quorumite/conf.Rates -/
def d293 : Df := ⟨6, [.t 2], (.seq d293r0 (.seq (.seq d293r1 (.blk (.some []) 0 (.loop [8] (.seq d293r2 (.seq (.cond .none (.t 9) .skip (.exit 0)) (.seq (.blk .none 1 (.seq d293r3 (.seq d293r4 (.blk .none 2 (.seq (.seq d293r5 (.cond (.some [14]) (.t 14) .skip (.seq d293r6 (.cond (.some [14]) (.t 14) .skip (.seq d293r7 (.cond (.some [14]) (.t 14) .skip (.seq d293r8 (.cond (.some [14]) (.t 14) .skip (.seq d293r9 (.cond (.some [14]) (.t 14) .skip (.seq d293r10 (.cond (.some [14]) (.t 14) .skip d293r11)))))))))))) (.cond (.some []) (.t 14) (.seq d293r12 (.cond .none (.t 33) (.seq d293r13 .ret) .skip)) .skip)))))) d293r14)))))) (.seq d293r15 .ret)))⟩
noncomputable def g293 (fx : Fx) (cl : Cl) (a0 : AV) (h0 : H) : R :=
  obh (mkv (.box 27 (.c a0)) h0) fun v0 h1 =>
  F.ob (ld true 26 v0 h1) fun v1 =>
  obh (cl 208 [v1] h1) fun v2 h2 =>
  F.ob (pv (.len (.sl 0) (.c v2))) fun v3 =>
  letJ (fun (p0 : Unit) h3 =>
  out [(.s (.bool true))] h3) fun j0 =>
  fx AV (fun (r1 : AV → H → R) (p1 : AV) h4 =>
  F.ob (F.bin .lss p1 v3) fun v4 =>
  cnd v4 (
  F.ob (idxa (.sl 4) v2 p1) fun v5 =>
  F.ob (ld true 4 v5 h4) fun v6 =>
  obh (mkv (.alloc 340 [(.str []), (.int .i64 0), (.int .i64 0), (.int .i64 0)]) h4) fun v7 h5 =>
  F.ob (st 4 v7 v6 h5) fun h6 =>
  F.ob (fld 0 v7) fun v8 =>
  F.ob (ld false 1 v8 h6) fun v9 =>
  F.ob (F.bin .eql v9 (.s (.str [112, 111, 100, 115, 117, 112]))) fun v10 =>
  letJ (fun (p2 : AV) h7 =>
  letJ (fun (p3 : Unit) h8 =>
  F.ob (F.bin .add p1 (.s (.int .i64 1))) fun v11 =>
  r1 v11 h8) fun j3 =>
  cnd p2 (
  F.ob (fld 1 v7) fun v12 =>
  F.ob (ld false 1 v12 h7) fun v13 =>
  F.ob (fld 2 v7) fun v14 =>
  F.ob (ld false 1 v14 h7) fun v15 =>
  F.ob (F.bin .lss v13 v15) fun v16 =>
  F.ob (gd v16 false (fld 1 v7) (some nought)) fun v17 =>
  F.ob (gd v16 false (ld false 1 v17 h7) (some nought)) fun v18 =>
  F.ob (gd v16 false (fld 3 v7) (some nought)) fun v19 =>
  F.ob (gd v16 false (ld false 1 v19 h7) (some nought)) fun v20 =>
  F.ob (gd v16 false (F.bin .gtr v18 v20) (some nought)) fun v21 =>
  F.ob (pv (.pick (.c v16) (.c (.s (.bool true))) (.c v21))) fun v22 =>
  cnd v22 (
  out [(.s (.bool false))] h7) (
  j3 () h7)) (
  j3 () h7)) fun j2 =>
  cnd v10 (
  j2 v10 h6) (
  F.ob (F.bin .eql v9 (.s (.str [112, 99, 116, 117, 112]))) fun v23 =>
  letJ (fun (p4 : AV) h9 =>
  j2 p4 h9) fun j4 =>
  cnd v23 (
  j4 v23 h6) (
  F.ob (F.bin .eql v9 (.s (.str [112, 111, 100, 115, 100, 111, 119, 110]))) fun v24 =>
  letJ (fun (p5 : AV) h10 =>
  j4 p5 h10) fun j5 =>
  cnd v24 (
  j5 v24 h6) (
  F.ob (F.bin .eql v9 (.s (.str [112, 99, 116, 100, 111, 119, 110]))) fun v25 =>
  letJ (fun (p6 : AV) h11 =>
  j5 p6 h11) fun j6 =>
  cnd v25 (
  j6 v25 h6) (
  F.ob (F.bin .eql v9 (.s (.str [112, 101, 114, 105, 111, 100]))) fun v26 =>
  letJ (fun (p7 : AV) h12 =>
  j6 p7 h12) fun j7 =>
  cnd v26 (
  j7 v26 h6) (
  F.ob (F.bin .eql v9 (.s (.str [109, 105, 110]))) fun v27 =>
  letJ (fun (p8 : AV) h13 =>
  j7 p8 h13) fun j8 =>
  cnd v27 (
  j8 v27 h6) (
  F.ob (F.bin .eql v9 (.s (.str [109, 97, 120]))) fun v28 =>
  j8 v28 h6))))))) (
  j0 () h4)) (.s (.int .i64 0)) h2
theorem e293 : (fun (fx : Fx) (cl : Cl) (a0 : AV) (h0 : H) => denF fx cl d293 [a0] h0) = g293 := by kernel_rfl
def d212r0 : D := .reg false [⟨(.some 2), .box 27 (.t 0), .none, 0⟩, ⟨(.some 4), .mv (.c (.s (.ptr .none))), .none, 0⟩] []
def d212r1 : D := .reg false [⟨(.some 5), .ld true 26 (.t 2), .none, 0⟩, ⟨(.some 6), .call 293 [(.t 5)], .none, 0⟩, ⟨(.some 7), .un .not (.t 6), .none, 0⟩, ⟨(.some 8), .mv (.t 7), .none, 0⟩, ⟨(.some 9), .mv (.t 1), (.some (8, false)), 0⟩, ⟨(.some 10), .fld 12 (.t 2), (.some (8, false)), 0⟩, ⟨(.some 11), .ld false 1 (.t 10), (.some (8, false)), 0⟩, ⟨(.some 12), .bin .lss (.t 9) (.t 11), (.some (8, false)), 0⟩, ⟨(.some 13), .pick (.t 8) (.c (.s (.bool true))) (.t 12), .none, 0⟩, ⟨(.some 14), .mv (.t 13), .none, 0⟩, ⟨(.some 15), .mv (.t 1), (.some (14, false)), 0⟩, ⟨(.some 16), .fld 13 (.t 2), (.some (14, false)), 0⟩, ⟨(.some 17), .ld false 1 (.t 16), (.some (14, false)), 0⟩, ⟨(.some 18), .bin .gtr (.t 15) (.t 17), (.some (14, false)), 0⟩, ⟨(.some 19), .pick (.t 14) (.c (.s (.bool true))) (.t 18), .none, 0⟩] []
def d212r2 : D := .reg false [⟨(.some 4), .mv (.c (.s (.ptr .none))), .none, 0⟩] []
def d212r3 : D := .reg false [⟨(.some 20), .ld true 26 (.t 2), .none, 0⟩, ⟨(.some 21), .mv (.t 1), .none, 0⟩, ⟨(.some 22), .bslice 3 1 1 [(.int .i64 0)] [(0, 1, (.t 21))], .none, 0⟩, ⟨(.some 23), .build [(.int .i64 0), (.int .i64 0), (.int .i64 0), (.int .i64 0), (.int .i64 0), (.int .i64 0), (.int .i64 0), (.int .i64 0), (.int .i64 0), (.int .i64 0), (.int .i64 0), (.int .i64 0), (.int .i64 0), (.int .i64 0), (.int .i64 0), (.int .i64 0), (.int .i64 0), (.int .i64 0), (.int .i64 0), (.int .i64 0), (.int .i64 0), (.int .i64 0), (.int .i64 0), (.int .i64 0), (.int .i64 0), (.int .u64 0), (.sl .none 0 0 true 1), (.int .i64 0)] [(0, 26, (.t 20)), (26, 1, (.t 22))], .none, 0⟩, ⟨(.some 24), .box 323 (.t 23), .none, 0⟩, ⟨(.some 4), .mv (.t 24), .none, 0⟩] []
/-- quorumite/policy.New -/
def d212 : Df := ⟨5, [.t 4], (.seq d212r0 (.seq (.seq d212r1 (.cond .none (.t 19) (.seq d212r2 .ret) .skip)) (.seq d212r3 .ret)))⟩
noncomputable def g212 (fx : Fx) (cl : Cl) (a0 a1 : AV) (h0 : H) : R :=
  obh (mkv (.box 27 (.c a0)) h0) fun v0 h1 =>
  F.ob (ld true 26 v0 h1) fun v1 =>
  obh (cl 293 [v1] h1) fun v2 h2 =>
  F.ob (pv (.un .not (.c v2))) fun v3 =>
  F.ob (gd v3 false (some a1) (some nought)) fun v4 =>
  F.ob (gd v3 false (fld 12 v0) (some nought)) fun v5 =>
  F.ob (gd v3 false (ld false 1 v5 h2) (some nought)) fun v6 =>
  F.ob (gd v3 false (F.bin .lss v4 v6) (some nought)) fun v7 =>
  F.ob (pv (.pick (.c v3) (.c (.s (.bool true))) (.c v7))) fun v8 =>
  F.ob (gd v8 false (some a1) (some nought)) fun v9 =>
  F.ob (gd v8 false (fld 13 v0) (some nought)) fun v10 =>
  F.ob (gd v8 false (ld false 1 v10 h2) (some nought)) fun v11 =>
  F.ob (gd v8 false (F.bin .gtr v9 v11) (some nought)) fun v12 =>
  F.ob (pv (.pick (.c v8) (.c (.s (.bool true))) (.c v12))) fun v13 =>
  cnd v13 (
  out [(.s (.ptr .none))] h2) (
  F.ob (ld true 26 v0 h2) fun v14 =>
  obh (mkv (.bslice 3 1 1 [(.int .i64 0)] [(0, 1, .c a1)]) h2) fun v15 h3 =>
  F.ob (pv (.build [(.int .i64 0), (.int .i64 0), (.int .i64 0), (.int .i64 0), (.int .i64 0), (.int .i64 0), (.int .i64 0), (.int .i64 0), (.int .i64 0), (.int .i64 0), (.int .i64 0), (.int .i64 0), (.int .i64 0), (.int .i64 0), (.int .i64 0), (.int .i64 0), (.int .i64 0), (.int .i64 0), (.int .i64 0), (.int .i64 0), (.int .i64 0), (.int .i64 0), (.int .i64 0), (.int .i64 0), (.int .i64 0), (.int .u64 0), (.sl .none 0 0 true 1), (.int .i64 0)] [(0, 26, .c v14), (26, 1, .c v15)])) fun v16 =>
  obh (mkv (.box 323 (.c v16)) h3) fun v17 h4 =>
  out [v17] h4)
theorem e212 : (fun (fx : Fx) (cl : Cl) (a0 a1 : AV) (h0 : H) => denF fx cl d212 [a0, a1] h0) = g212 := by kernel_rfl
def d211r0 : D := .reg false [⟨(.some 4), .mv (.c (.s (.ptr .none))), .none, 0⟩] []
def d211r1 : D := .reg false [⟨(.some 5), .mv (.t 0), .none, 0⟩, ⟨(.some 6), .bin .lss (.t 5) (.c (.s (.int .i64 0))), .none, 0⟩, ⟨(.some 7), .mv (.t 6), .none, 0⟩, ⟨(.some 8), .mv (.t 0), (.some (7, false)), 0⟩, ⟨(.some 9), .bin .gtr (.t 8) (.c (.s (.int .i64 60))), (.some (7, false)), 0⟩, ⟨(.some 10), .pick (.t 7) (.c (.s (.bool true))) (.t 9), .none, 0⟩, ⟨(.some 11), .mv (.t 10), .none, 0⟩, ⟨(.some 12), .mv (.t 1), (.some (11, false)), 0⟩, ⟨(.some 13), .bin .lss (.t 12) (.c (.s (.int .i64 0))), (.some (11, false)), 0⟩, ⟨(.some 14), .pick (.t 11) (.c (.s (.bool true))) (.t 13), .none, 0⟩, ⟨(.some 15), .mv (.t 14), .none, 0⟩, ⟨(.some 16), .mv (.t 1), (.some (15, false)), 0⟩, ⟨(.some 17), .bin .gtr (.t 16) (.c (.s (.int .i64 60))), (.some (15, false)), 0⟩, ⟨(.some 18), .pick (.t 15) (.c (.s (.bool true))) (.t 17), .none, 0⟩] []
def d211r2 : D := .reg false [⟨(.some 4), .mv (.c (.s (.ptr .none))), .none, 0⟩] []
def d211r3 : D := .reg false [⟨(.some 19), .mv (.t 0), .none, 0⟩, ⟨(.some 20), .mv (.t 1), .none, 0⟩, ⟨(.some 21), .build [(.int .i64 0), (.int .i64 0), (.sl .none 0 0 true 1), (.int .i64 0)] [(0, 1, (.t 19)), (1, 1, (.t 20))], .none, 0⟩, ⟨(.some 22), .box 321 (.t 21), .none, 0⟩, ⟨(.some 4), .mv (.t 22), .none, 0⟩] []
/-- quorumite/calm.New -/
def d211 : Df := ⟨5, [.t 4], (.seq d211r0 (.seq (.seq d211r1 (.cond .none (.t 18) (.seq d211r2 .ret) .skip)) (.seq d211r3 .ret)))⟩
noncomputable def g211 (fx : Fx) (cl : Cl) (a0 a1 : AV) (h0 : H) : R :=
  F.ob (F.bin .lss a0 (.s (.int .i64 0))) fun v0 =>
  F.ob (gd v0 false (some a0) (some nought)) fun v1 =>
  F.ob (gd v0 false (F.bin .gtr v1 (.s (.int .i64 60))) (some nought)) fun v2 =>
  F.ob (pv (.pick (.c v0) (.c (.s (.bool true))) (.c v2))) fun v3 =>
  F.ob (gd v3 false (some a1) (some nought)) fun v4 =>
  F.ob (gd v3 false (F.bin .lss v4 (.s (.int .i64 0))) (some nought)) fun v5 =>
  F.ob (pv (.pick (.c v3) (.c (.s (.bool true))) (.c v5))) fun v6 =>
  F.ob (gd v6 false (some a1) (some nought)) fun v7 =>
  F.ob (gd v6 false (F.bin .gtr v7 (.s (.int .i64 60))) (some nought)) fun v8 =>
  F.ob (pv (.pick (.c v6) (.c (.s (.bool true))) (.c v8))) fun v9 =>
  cnd v9 (
  out [(.s (.ptr .none))] h0) (
  F.ob (pv (.build [(.int .i64 0), (.int .i64 0), (.sl .none 0 0 true 1), (.int .i64 0)] [(0, 1, .c a0), (1, 1, .c a1)])) fun v10 =>
  obh (mkv (.box 321 (.c v10)) h0) fun v11 h1 =>
  out [v11] h1)
theorem e211 : (fun (fx : Fx) (cl : Cl) (a0 a1 : AV) (h0 : H) => denF fx cl d211 [a0, a1] h0) = g211 := by kernel_rfl
def d129r0 : D := .reg false [⟨(.some 2), .box 27 (.t 0), .none, 0⟩, ⟨(.some 4), .mv (.c (.s (.ptr .none))), .none, 0⟩] []
def d129r1 : D := .reg false [⟨(.some 5), .ld true 26 (.t 2), .none, 0⟩, ⟨(.some 6), .call 52 [(.t 5)], .none, 0⟩, ⟨(.some 7), .un .not (.t 6), .none, 0⟩, ⟨(.some 8), .mv (.t 7), .none, 0⟩, ⟨(.some 9), .mv (.t 1), (.some (8, false)), 0⟩, ⟨(.some 10), .fld 12 (.t 2), (.some (8, false)), 0⟩, ⟨(.some 11), .ld false 1 (.t 10), (.some (8, false)), 0⟩, ⟨(.some 12), .bin .lss (.t 9) (.t 11), (.some (8, false)), 0⟩, ⟨(.some 13), .pick (.t 8) (.c (.s (.bool true))) (.t 12), .none, 0⟩, ⟨(.some 14), .mv (.t 13), .none, 0⟩, ⟨(.some 15), .mv (.t 1), (.some (14, false)), 0⟩, ⟨(.some 16), .fld 13 (.t 2), (.some (14, false)), 0⟩, ⟨(.some 17), .ld false 1 (.t 16), (.some (14, false)), 0⟩, ⟨(.some 18), .bin .gtr (.t 15) (.t 17), (.some (14, false)), 0⟩, ⟨(.some 19), .pick (.t 14) (.c (.s (.bool true))) (.t 18), .none, 0⟩] []
def d129r2 : D := .reg false [⟨(.some 4), .mv (.c (.s (.ptr .none))), .none, 0⟩] []
def d129r3 : D := .reg true [⟨(.some 20), .ld true 26 (.t 2), .none, 0⟩, ⟨(.some 21), .mv (.t 1), .none, 0⟩, ⟨(.some 22), .fld 14 (.t 2), .none, 0⟩, ⟨(.some 23), .ld false 1 (.t 22), .none, 4⟩, ⟨(.some 24), .fld 15 (.t 2), .none, 0⟩, ⟨(.some 25), .ld false 1 (.t 24), .none, 16⟩, ⟨(.some 26), .call 211 [(.t 23), (.t 25)], .none, 60⟩, ⟨(.some 27), .ld true 26 (.t 2), .none, 0⟩, ⟨(.some 28), .mv (.t 1), .none, 0⟩, ⟨(.some 29), .call 212 [(.t 27), (.t 28)], .none, 508⟩, ⟨(.some 30), .build [(.int .i64 0), (.int .i64 0), (.int .i64 0), (.int .i64 0), (.int .i64 0), (.int .i64 0), (.int .i64 0), (.int .i64 0), (.int .i64 0), (.int .i64 0), (.int .i64 0), (.int .i64 0), (.int .i64 0), (.int .i64 0), (.int .i64 0), (.int .i64 0), (.int .i64 0), (.int .i64 0), (.int .i64 0), (.int .i64 0), (.int .i64 0), (.int .i64 0), (.int .i64 0), (.int .i64 0), (.int .i64 0), (.int .u64 0), (.int .i64 0), (.ptr .none), (.ptr .none), (.int .i64 0)] [(0, 26, (.t 20)), (26, 1, (.t 21)), (27, 1, (.t 26)), (28, 1, (.t 29))], .none, 1023⟩, ⟨(.some 31), .box 234 (.t 30), .none, 2047⟩, ⟨(.some 4), .mv (.t 31), .none, 4095⟩] []
/-- quorumite/law.New -/
def d129 : Df := ⟨6, [.t 4], (.seq d129r0 (.seq (.seq d129r1 (.cond .none (.t 19) (.seq d129r2 .ret) .skip)) (.seq d129r3 .ret)))⟩
noncomputable def g129 (fx : Fx) (cl : Cl) (a0 a1 : AV) (h0 : H) : R :=
  obh (mkv (.box 27 (.c a0)) h0) fun v0 h1 =>
  F.ob (ld true 26 v0 h1) fun v1 =>
  obh (cl 52 [v1] h1) fun v2 h2 =>
  F.ob (pv (.un .not (.c v2))) fun v3 =>
  F.ob (gd v3 false (some a1) (some nought)) fun v4 =>
  F.ob (gd v3 false (fld 12 v0) (some nought)) fun v5 =>
  F.ob (gd v3 false (ld false 1 v5 h2) (some nought)) fun v6 =>
  F.ob (gd v3 false (F.bin .lss v4 v6) (some nought)) fun v7 =>
  F.ob (pv (.pick (.c v3) (.c (.s (.bool true))) (.c v7))) fun v8 =>
  F.ob (gd v8 false (some a1) (some nought)) fun v9 =>
  F.ob (gd v8 false (fld 13 v0) (some nought)) fun v10 =>
  F.ob (gd v8 false (ld false 1 v10 h2) (some nought)) fun v11 =>
  F.ob (gd v8 false (F.bin .gtr v9 v11) (some nought)) fun v12 =>
  F.ob (pv (.pick (.c v8) (.c (.s (.bool true))) (.c v12))) fun v13 =>
  cnd v13 (
  out [(.s (.ptr .none))] h2) (
  F.ob (rdd (.ld true 26 (.c v0)) [] h2) fun v14 =>
  F.ob (fld 14 v0) fun v15 =>
  F.ob (rdd (.ld false 1 (.c v15)) [] h2) fun v16 =>
  F.ob (fld 15 v0) fun v17 =>
  F.ob (rdd (.ld false 1 (.c v17)) [] h2) fun v18 =>
  obh (chk Prod.snd [⟨none, .ld true 26 (.c v0), v14, 0⟩] (cl 211 [v16, v18] h2)) fun v19 h3 =>
  F.ob (rdd (.ld true 26 (.c v0)) [(6, h2)] h3) fun v20 =>
  obh (chk Prod.snd [⟨none, .ld true 26 (.c v0), v14, 0⟩] (cl 212 [v20, a1] h3)) fun v21 h4 =>
  F.ob (pv (.build [(.int .i64 0), (.int .i64 0), (.int .i64 0), (.int .i64 0), (.int .i64 0), (.int .i64 0), (.int .i64 0), (.int .i64 0), (.int .i64 0), (.int .i64 0), (.int .i64 0), (.int .i64 0), (.int .i64 0), (.int .i64 0), (.int .i64 0), (.int .i64 0), (.int .i64 0), (.int .i64 0), (.int .i64 0), (.int .i64 0), (.int .i64 0), (.int .i64 0), (.int .i64 0), (.int .i64 0), (.int .i64 0), (.int .u64 0), (.int .i64 0), (.ptr .none), (.ptr .none), (.int .i64 0)] [(0, 26, .c v14), (26, 1, .c a1), (27, 1, .c v19), (28, 1, .c v21)])) fun v22 =>
  obh (mkv (.box 234 (.c v22)) h4) fun v23 h5 =>
  out [v23] h5)
theorem e129 : (fun (fx : Fx) (cl : Cl) (a0 a1 : AV) (h0 : H) => denF fx cl d129 [a0, a1] h0) = g129 := by kernel_rfl
def d53r0 : D := .reg false [⟨(.some 8), .mv (.c (.s (.ptr .none))), .none, 0⟩] []
def d53r1 : D := .reg false [⟨(.some 9), .mv (.t 0), .none, 0⟩, ⟨(.some 10), .bin .lss (.t 9) (.c (.s (.int .i64 1))), .none, 0⟩, ⟨(.some 11), .mv (.t 10), .none, 0⟩, ⟨(.some 12), .mv (.t 0), (.some (11, false)), 0⟩, ⟨(.some 13), .bin .gtr (.t 12) (.c (.s (.int .i64 16))), (.some (11, false)), 0⟩, ⟨(.some 14), .pick (.t 11) (.c (.s (.bool true))) (.t 13), .none, 0⟩, ⟨(.some 15), .mv (.t 14), .none, 0⟩, ⟨(.some 16), .mv (.t 1), (.some (15, false)), 0⟩, ⟨(.some 17), .bin .lss (.t 16) (.c (.s (.int .i64 1))), (.some (15, false)), 0⟩, ⟨(.some 18), .pick (.t 15) (.c (.s (.bool true))) (.t 17), .none, 0⟩, ⟨(.some 19), .mv (.t 18), .none, 0⟩, ⟨(.some 20), .mv (.t 1), (.some (19, false)), 0⟩, ⟨(.some 21), .bin .gtr (.t 20) (.c (.s (.int .i64 100))), (.some (19, false)), 0⟩, ⟨(.some 22), .pick (.t 19) (.c (.s (.bool true))) (.t 21), .none, 0⟩, ⟨(.some 23), .mv (.t 22), .none, 0⟩, ⟨(.some 24), .mv (.t 2), (.some (23, false)), 0⟩, ⟨(.some 25), .bin .lss (.t 24) (.c (.s (.int .i64 1))), (.some (23, false)), 0⟩, ⟨(.some 26), .pick (.t 23) (.c (.s (.bool true))) (.t 25), .none, 0⟩, ⟨(.some 27), .mv (.t 26), .none, 0⟩, ⟨(.some 28), .mv (.t 2), (.some (27, false)), 0⟩, ⟨(.some 29), .bin .gtr (.t 28) (.c (.s (.int .i64 100))), (.some (27, false)), 0⟩, ⟨(.some 30), .pick (.t 27) (.c (.s (.bool true))) (.t 29), .none, 0⟩, ⟨(.some 31), .mv (.t 30), .none, 0⟩, ⟨(.some 32), .mv (.t 3), (.some (31, false)), 0⟩, ⟨(.some 33), .bin .lss (.t 32) (.c (.s (.int .i64 0))), (.some (31, false)), 0⟩, ⟨(.some 34), .pick (.t 31) (.c (.s (.bool true))) (.t 33), .none, 0⟩, ⟨(.some 35), .mv (.t 34), .none, 0⟩, ⟨(.some 36), .mv (.t 3), (.some (35, false)), 0⟩, ⟨(.some 37), .bin .gtr (.t 36) (.c (.s (.int .i64 1099511627776))), (.some (35, false)), 0⟩, ⟨(.some 38), .pick (.t 35) (.c (.s (.bool true))) (.t 37), .none, 0⟩] []
def d53r2 : D := .reg false [⟨(.some 8), .mv (.c (.s (.ptr .none))), .none, 0⟩] []
def d53r3 : D := .reg false [⟨(.some 39), .mv (.t 0), .none, 0⟩, ⟨(.some 40), .mkslice 128 [(.int .i64 0), (.int .i64 0), (.bool false)] 24 (.t 39) (.t 39), .none, 0⟩, ⟨(.some 41), .mv (.t 1), .none, 0⟩, ⟨(.some 42), .mv (.t 2), .none, 0⟩, ⟨(.some 43), .mv (.t 3), .none, 0⟩, ⟨(.some 44), .build [(.sl .none 0 0 true 1), (.int .i64 0), (.int .i64 0), (.int .i64 0), (.int .i64 0)] [(0, 1, (.t 40)), (1, 1, (.t 41)), (2, 1, (.t 42)), (3, 1, (.t 43))], .none, 0⟩, ⟨(.some 45), .box 226 (.t 44), .none, 0⟩, ⟨(.some 8), .mv (.t 45), .none, 0⟩] []
/-- quorumite/score.New -/
def d53 : Df := ⟨6, [.t 8], (.seq d53r0 (.seq (.seq d53r1 (.cond .none (.t 38) (.seq d53r2 .ret) .skip)) (.seq d53r3 .ret)))⟩
noncomputable def g53 (fx : Fx) (cl : Cl) (a0 a1 a2 a3 : AV) (h0 : H) : R :=
  F.ob (F.bin .lss a0 (.s (.int .i64 1))) fun v0 =>
  F.ob (gd v0 false (some a0) (some nought)) fun v1 =>
  F.ob (gd v0 false (F.bin .gtr v1 (.s (.int .i64 16))) (some nought)) fun v2 =>
  F.ob (pv (.pick (.c v0) (.c (.s (.bool true))) (.c v2))) fun v3 =>
  F.ob (gd v3 false (some a1) (some nought)) fun v4 =>
  F.ob (gd v3 false (F.bin .lss v4 (.s (.int .i64 1))) (some nought)) fun v5 =>
  F.ob (pv (.pick (.c v3) (.c (.s (.bool true))) (.c v5))) fun v6 =>
  F.ob (gd v6 false (some a1) (some nought)) fun v7 =>
  F.ob (gd v6 false (F.bin .gtr v7 (.s (.int .i64 100))) (some nought)) fun v8 =>
  F.ob (pv (.pick (.c v6) (.c (.s (.bool true))) (.c v8))) fun v9 =>
  F.ob (gd v9 false (some a2) (some nought)) fun v10 =>
  F.ob (gd v9 false (F.bin .lss v10 (.s (.int .i64 1))) (some nought)) fun v11 =>
  F.ob (pv (.pick (.c v9) (.c (.s (.bool true))) (.c v11))) fun v12 =>
  F.ob (gd v12 false (some a2) (some nought)) fun v13 =>
  F.ob (gd v12 false (F.bin .gtr v13 (.s (.int .i64 100))) (some nought)) fun v14 =>
  F.ob (pv (.pick (.c v12) (.c (.s (.bool true))) (.c v14))) fun v15 =>
  F.ob (gd v15 false (some a3) (some nought)) fun v16 =>
  F.ob (gd v15 false (F.bin .lss v16 (.s (.int .i64 0))) (some nought)) fun v17 =>
  F.ob (pv (.pick (.c v15) (.c (.s (.bool true))) (.c v17))) fun v18 =>
  F.ob (gd v18 false (some a3) (some nought)) fun v19 =>
  F.ob (gd v18 false (F.bin .gtr v19 (.s (.int .i64 1099511627776))) (some nought)) fun v20 =>
  F.ob (pv (.pick (.c v18) (.c (.s (.bool true))) (.c v20))) fun v21 =>
  cnd v21 (
  out [(.s (.ptr .none))] h0) (
  obh (mkv (.mkslice 128 [(.int .i64 0), (.int .i64 0), (.bool false)] 24 (.c a0) (.c a0)) h0) fun v22 h1 =>
  F.ob (pv (.build [(.sl .none 0 0 true 1), (.int .i64 0), (.int .i64 0), (.int .i64 0), (.int .i64 0)] [(0, 1, .c v22), (1, 1, .c a1), (2, 1, .c a2), (3, 1, .c a3)])) fun v23 =>
  obh (mkv (.box 226 (.c v23)) h1) fun v24 h2 =>
  out [v24] h2)
theorem e53 : (fun (fx : Fx) (cl : Cl) (a0 a1 a2 a3 : AV) (h0 : H) => denF fx cl d53 [a0, a1, a2, a3] h0) = g53 := by kernel_rfl
def d160r0 : D := .reg false [⟨(.some 6), .mv (.c (.s (.ptr .none))), .none, 0⟩] []
def d160r1 : D := .reg false [⟨(.some 7), .mv (.t 0), .none, 0⟩, ⟨(.some 8), .bin .lss (.t 7) (.c (.s (.int .i64 1))), .none, 0⟩, ⟨(.some 9), .mv (.t 8), .none, 0⟩, ⟨(.some 10), .mv (.t 0), (.some (9, false)), 0⟩, ⟨(.some 11), .bin .gtr (.t 10) (.c (.s (.int .i64 16))), (.some (9, false)), 0⟩, ⟨(.some 12), .pick (.t 9) (.c (.s (.bool true))) (.t 11), .none, 0⟩, ⟨(.some 13), .mv (.t 12), .none, 0⟩, ⟨(.some 14), .mv (.t 1), (.some (13, false)), 0⟩, ⟨(.some 15), .bin .lss (.t 14) (.c (.s (.int .i64 1))), (.some (13, false)), 0⟩, ⟨(.some 16), .pick (.t 13) (.c (.s (.bool true))) (.t 15), .none, 0⟩, ⟨(.some 17), .mv (.t 16), .none, 0⟩, ⟨(.some 18), .mv (.t 1), (.some (17, false)), 0⟩, ⟨(.some 19), .bin .gtr (.t 18) (.c (.s (.int .i64 4))), (.some (17, false)), 0⟩, ⟨(.some 20), .pick (.t 17) (.c (.s (.bool true))) (.t 19), .none, 0⟩, ⟨(.some 21), .mv (.t 20), .none, 0⟩, ⟨(.some 22), .mv (.t 2), (.some (21, false)), 0⟩, ⟨(.some 23), .bin .lss (.t 22) (.c (.s (.int .i64 1))), (.some (21, false)), 0⟩, ⟨(.some 24), .pick (.t 21) (.c (.s (.bool true))) (.t 23), .none, 0⟩, ⟨(.some 25), .mv (.t 24), .none, 0⟩, ⟨(.some 26), .mv (.t 2), (.some (25, false)), 0⟩, ⟨(.some 27), .bin .gtr (.t 26) (.c (.s (.int .i64 8))), (.some (25, false)), 0⟩, ⟨(.some 28), .pick (.t 25) (.c (.s (.bool true))) (.t 27), .none, 0⟩] []
def d160r2 : D := .reg false [⟨(.some 6), .mv (.c (.s (.ptr .none))), .none, 0⟩] []
def d160r3 : D := .reg false [⟨(.some 29), .mv (.t 0), .none, 0⟩, ⟨(.some 30), .mv (.t 1), .none, 0⟩, ⟨(.some 31), .mv (.t 2), .none, 0⟩, ⟨(.some 32), .build [(.int .i64 0), (.int .i64 0), (.int .i64 0), (.sl .none 0 0 true 1), (.int .i64 0)] [(0, 1, (.t 29)), (1, 1, (.t 30)), (2, 1, (.t 31))], .none, 0⟩, ⟨(.some 33), .box 325 (.t 32), .none, 0⟩, ⟨(.some 6), .mv (.t 33), .none, 0⟩] []
/-- quorumite/table.New -/
def d160 : Df := ⟨6, [.t 6], (.seq d160r0 (.seq (.seq d160r1 (.cond .none (.t 28) (.seq d160r2 .ret) .skip)) (.seq d160r3 .ret)))⟩
noncomputable def g160 (fx : Fx) (cl : Cl) (a0 a1 a2 : AV) (h0 : H) : R :=
  F.ob (F.bin .lss a0 (.s (.int .i64 1))) fun v0 =>
  F.ob (gd v0 false (some a0) (some nought)) fun v1 =>
  F.ob (gd v0 false (F.bin .gtr v1 (.s (.int .i64 16))) (some nought)) fun v2 =>
  F.ob (pv (.pick (.c v0) (.c (.s (.bool true))) (.c v2))) fun v3 =>
  F.ob (gd v3 false (some a1) (some nought)) fun v4 =>
  F.ob (gd v3 false (F.bin .lss v4 (.s (.int .i64 1))) (some nought)) fun v5 =>
  F.ob (pv (.pick (.c v3) (.c (.s (.bool true))) (.c v5))) fun v6 =>
  F.ob (gd v6 false (some a1) (some nought)) fun v7 =>
  F.ob (gd v6 false (F.bin .gtr v7 (.s (.int .i64 4))) (some nought)) fun v8 =>
  F.ob (pv (.pick (.c v6) (.c (.s (.bool true))) (.c v8))) fun v9 =>
  F.ob (gd v9 false (some a2) (some nought)) fun v10 =>
  F.ob (gd v9 false (F.bin .lss v10 (.s (.int .i64 1))) (some nought)) fun v11 =>
  F.ob (pv (.pick (.c v9) (.c (.s (.bool true))) (.c v11))) fun v12 =>
  F.ob (gd v12 false (some a2) (some nought)) fun v13 =>
  F.ob (gd v12 false (F.bin .gtr v13 (.s (.int .i64 8))) (some nought)) fun v14 =>
  F.ob (pv (.pick (.c v12) (.c (.s (.bool true))) (.c v14))) fun v15 =>
  cnd v15 (
  out [(.s (.ptr .none))] h0) (
  F.ob (pv (.build [(.int .i64 0), (.int .i64 0), (.int .i64 0), (.sl .none 0 0 true 1), (.int .i64 0)] [(0, 1, .c a0), (1, 1, .c a1), (2, 1, .c a2)])) fun v16 =>
  obh (mkv (.box 325 (.c v16)) h0) fun v17 h1 =>
  out [v17] h1)
theorem e160 : (fun (fx : Fx) (cl : Cl) (a0 a1 a2 : AV) (h0 : H) => denF fx cl d160 [a0, a1, a2] h0) = g160 := by kernel_rfl
def d234r0 : D := .reg false [⟨(.some 2), .mv (.c (.s (.ptr .none))), .none, 0⟩] []
def d234r1 : D := .reg false [⟨(.some 3), .mv (.t 0), .none, 0⟩, ⟨(.some 4), .bin .lss (.t 3) (.c (.s (.int .i64 1))), .none, 0⟩, ⟨(.some 5), .mv (.t 4), .none, 0⟩, ⟨(.some 6), .mv (.t 0), (.some (5, false)), 0⟩, ⟨(.some 7), .bin .gtr (.t 6) (.c (.s (.int .i64 64))), (.some (5, false)), 0⟩, ⟨(.some 8), .pick (.t 5) (.c (.s (.bool true))) (.t 7), .none, 0⟩] []
def d234r2 : D := .reg false [⟨(.some 2), .mv (.c (.s (.ptr .none))), .none, 0⟩] []
def d234r3 : D := .reg false [⟨(.some 9), .mv (.t 0), .none, 0⟩, ⟨(.some 10), .build [(.int .i64 0), (.int .i64 0), (.int .u64 0), (.int .i64 0)] [(0, 1, (.t 9))], .none, 0⟩, ⟨(.some 11), .box 318 (.t 10), .none, 0⟩, ⟨(.some 2), .mv (.t 11), .none, 0⟩] []
/-- quorumite/replay.New -/
def d234 : Df := ⟨4, [.t 2], (.seq d234r0 (.seq (.seq d234r1 (.cond .none (.t 8) (.seq d234r2 .ret) .skip)) (.seq d234r3 .ret)))⟩
noncomputable def g234 (fx : Fx) (cl : Cl) (a0 : AV) (h0 : H) : R :=
  F.ob (F.bin .lss a0 (.s (.int .i64 1))) fun v0 =>
  F.ob (gd v0 false (some a0) (some nought)) fun v1 =>
  F.ob (gd v0 false (F.bin .gtr v1 (.s (.int .i64 64))) (some nought)) fun v2 =>
  F.ob (pv (.pick (.c v0) (.c (.s (.bool true))) (.c v2))) fun v3 =>
  cnd v3 (
  out [(.s (.ptr .none))] h0) (
  F.ob (pv (.build [(.int .i64 0), (.int .i64 0), (.int .u64 0), (.int .i64 0)] [(0, 1, .c a0)])) fun v4 =>
  obh (mkv (.box 318 (.c v4)) h0) fun v5 h1 =>
  out [v5] h1)
theorem e234 : (fun (fx : Fx) (cl : Cl) (a0 : AV) (h0 : H) => denF fx cl d234 [a0] h0) = g234 := by kernel_rfl
def d233r0 : D := .reg false [⟨(.some 6), .mv (.c (.s (.ptr .none))), .none, 0⟩] []
def d233r1 : D := .reg false [⟨(.some 7), .mv (.t 1), .none, 0⟩, ⟨(.some 8), .bin .lss (.t 7) (.c (.s (.int .i64 1))), .none, 0⟩, ⟨(.some 9), .mv (.t 8), .none, 0⟩, ⟨(.some 10), .mv (.t 1), (.some (9, false)), 0⟩, ⟨(.some 11), .bin .gtr (.t 10) (.c (.s (.int .i64 16))), (.some (9, false)), 0⟩, ⟨(.some 12), .pick (.t 9) (.c (.s (.bool true))) (.t 11), .none, 0⟩, ⟨(.some 13), .mv (.t 12), .none, 0⟩, ⟨(.some 14), .mv (.t 2), (.some (13, false)), 0⟩, ⟨(.some 15), .bin .lss (.t 14) (.c (.s (.int .i64 1))), (.some (13, false)), 0⟩, ⟨(.some 16), .pick (.t 13) (.c (.s (.bool true))) (.t 15), .none, 0⟩, ⟨(.some 17), .mv (.t 16), .none, 0⟩, ⟨(.some 18), .mv (.t 2), (.some (17, false)), 0⟩, ⟨(.some 19), .bin .gtr (.t 18) (.c (.s (.int .i64 100))), (.some (17, false)), 0⟩, ⟨(.some 20), .pick (.t 17) (.c (.s (.bool true))) (.t 19), .none, 0⟩] []
def d233r2 : D := .reg false [⟨(.some 6), .mv (.c (.s (.ptr .none))), .none, 0⟩] []
def d233r3 : D := .reg false [⟨(.some 21), .mv (.t 0), .none, 0⟩, ⟨(.some 22), .mv (.t 1), .none, 0⟩, ⟨(.some 23), .mkslice 316 [(.int .i64 0), (.int .i64 0)] 16 (.t 22) (.t 22), .none, 0⟩, ⟨(.some 24), .mv (.t 2), .none, 0⟩, ⟨(.some 25), .build [(.int .u64 0), (.sl .none 0 0 true 1), (.int .i64 0), (.int .i64 0)] [(0, 1, (.t 21)), (1, 1, (.t 23)), (2, 1, (.t 24))], .none, 0⟩, ⟨(.some 26), .box 410 (.t 25), .none, 0⟩, ⟨(.some 6), .mv (.t 26), .none, 0⟩] []
/-- quorumite/ring.New -/
def d233 : Df := ⟨5, [.t 6], (.seq d233r0 (.seq (.seq d233r1 (.cond .none (.t 20) (.seq d233r2 .ret) .skip)) (.seq d233r3 .ret)))⟩
noncomputable def g233 (fx : Fx) (cl : Cl) (a0 a1 a2 : AV) (h0 : H) : R :=
  F.ob (F.bin .lss a1 (.s (.int .i64 1))) fun v0 =>
  F.ob (gd v0 false (some a1) (some nought)) fun v1 =>
  F.ob (gd v0 false (F.bin .gtr v1 (.s (.int .i64 16))) (some nought)) fun v2 =>
  F.ob (pv (.pick (.c v0) (.c (.s (.bool true))) (.c v2))) fun v3 =>
  F.ob (gd v3 false (some a2) (some nought)) fun v4 =>
  F.ob (gd v3 false (F.bin .lss v4 (.s (.int .i64 1))) (some nought)) fun v5 =>
  F.ob (pv (.pick (.c v3) (.c (.s (.bool true))) (.c v5))) fun v6 =>
  F.ob (gd v6 false (some a2) (some nought)) fun v7 =>
  F.ob (gd v6 false (F.bin .gtr v7 (.s (.int .i64 100))) (some nought)) fun v8 =>
  F.ob (pv (.pick (.c v6) (.c (.s (.bool true))) (.c v8))) fun v9 =>
  cnd v9 (
  out [(.s (.ptr .none))] h0) (
  obh (mkv (.mkslice 316 [(.int .i64 0), (.int .i64 0)] 16 (.c a1) (.c a1)) h0) fun v10 h1 =>
  F.ob (pv (.build [(.int .u64 0), (.sl .none 0 0 true 1), (.int .i64 0), (.int .i64 0)] [(0, 1, .c a0), (1, 1, .c v10), (2, 1, .c a2)])) fun v11 =>
  obh (mkv (.box 410 (.c v11)) h1) fun v12 h2 =>
  out [v12] h2)
theorem e233 : (fun (fx : Fx) (cl : Cl) (a0 a1 a2 : AV) (h0 : H) => denF fx cl d233 [a0, a1, a2] h0) = g233 := by kernel_rfl
def d159r0 : D := .reg false [⟨(.some 1), .box 27 (.t 0), .none, 0⟩, ⟨(.some 2), .mv (.c (.s (.ptr .none))), .none, 0⟩] []
def d159r1 : D := .reg false [⟨(.some 4), .ld true 26 (.t 1), .none, 0⟩, ⟨(.some 5), .call 52 [(.t 4)], .none, 0⟩, ⟨(.some 6), .un .not (.t 5), .none, 0⟩] []
def d159r2 : D := .reg false [⟨(.some 2), .mv (.c (.s (.ptr .none))), .none, 0⟩] []
def d159r3 : D := .reg true [⟨(.some 7), .ld true 26 (.t 1), .none, 0⟩, ⟨(.some 8), .fld 25 (.t 1), .none, 0⟩, ⟨(.some 9), .ld false 1 (.t 8), .none, 2⟩, ⟨(.some 10), .fld 0 (.t 1), .none, 0⟩, ⟨(.some 11), .ld false 1 (.t 10), .none, 8⟩, ⟨(.some 12), .fld 5 (.t 1), .none, 0⟩, ⟨(.some 13), .ld false 1 (.t 12), .none, 32⟩, ⟨(.some 14), .call 233 [(.t 9), (.t 11), (.t 13)], .none, 126⟩, ⟨(.some 15), .build [(.int .i64 0), (.int .i64 0), (.int .i64 0), (.int .i64 0), (.int .i64 0), (.int .i64 0), (.int .i64 0), (.int .i64 0), (.int .i64 0), (.int .i64 0), (.int .i64 0), (.int .i64 0), (.int .i64 0), (.int .i64 0), (.int .i64 0), (.int .i64 0), (.int .i64 0), (.int .i64 0), (.int .i64 0), (.int .i64 0), (.int .i64 0), (.int .i64 0), (.int .i64 0), (.int .i64 0), (.int .i64 0), (.int .u64 0), (.ptr .none), (.sl .none 0 0 true 1), (.sl .none 0 0 true 1), (.int .i64 0)] [(0, 26, (.t 7)), (26, 1, (.t 14))], .none, 255⟩, ⟨(.some 16), .box 311 (.t 15), .none, 511⟩, ⟨(.some 3), .mv (.t 16), .none, 1023⟩] []
def d159r4 : D := .reg false [⟨(.some 17), .fld 0 (.t 1), .none, 0⟩, ⟨(.some 18), .ld false 1 (.t 17), .none, 0⟩, ⟨(.some 19), .mv (.c (.s (.int .i64 0))), .none, 0⟩] []
def d159r5 : D := .reg false [⟨(.some 20), .bin .lss (.t 19) (.t 18), .none, 0⟩] []
def d159r6 : D := .reg true [⟨(.some 21), .mv (.t 3), .none, 0⟩, ⟨(.some 22), .mv (.t 3), .none, 0⟩, ⟨(.some 23), .mv (.t 3), .none, 0⟩, ⟨(.some 24), .nilck (.t 23), .none, 4⟩, ⟨(.some 25), .fld 27 (.t 24), .none, 12⟩, ⟨(.some 26), .ld false 1 (.t 25), .none, 28⟩, ⟨(.some 27), .fld 6 (.t 1), .none, 0⟩, ⟨(.some 28), .ld false 1 (.t 27), .none, 64⟩, ⟨(.some 29), .call 234 [(.t 28)], .none, 192⟩, ⟨(.some 30), .bslice 205 1 1 [(.ptr .none)] [(0, 1, (.t 29))], .none, 448⟩, ⟨(.some 31), .app 205 1 8 (.t 26) (.t 30), .none, 1020⟩, ⟨(.some 32), .mv (.t 3), .none, 0⟩, ⟨(.some 33), .nilck (.t 32), .none, 2048⟩, ⟨(.some 34), .fld 28 (.t 33), .none, 6144⟩, ⟨(.some 35), .ld false 1 (.t 34), .none, 14336⟩, ⟨(.some 36), .fld 6 (.t 1), .none, 0⟩, ⟨(.some 37), .ld false 1 (.t 36), .none, 32768⟩, ⟨(.some 38), .call 234 [(.t 37)], .none, 100348⟩, ⟨(.some 39), .bslice 205 1 1 [(.ptr .none)] [(0, 1, (.t 38))], .none, 231420⟩, ⟨(.some 40), .app 205 1 8 (.t 35) (.t 39), .none, 524284⟩, ⟨(.some 41), .nilck (.t 21), .none, 1048573⟩, ⟨(.some 42), .fld 27 (.t 41), .none, 2097149⟩, ⟨.none, .st 1 (.t 42) (.t 31), .none, 4194301⟩, ⟨(.some 43), .nilck (.t 22), .none, 8388607⟩, ⟨(.some 44), .fld 28 (.t 43), .none, 16777215⟩, ⟨.none, .st 1 (.t 44) (.t 40), .none, 33554431⟩] []
def d159r7 : D := .reg false [⟨(.some 45), .bin .add (.t 19) (.c (.s (.int .i64 1))), .none, 0⟩, ⟨(.some 19), .mv (.t 45), .none, 0⟩] []
def d159r8 : D := .reg false [⟨(.some 46), .mv (.t 3), .none, 0⟩, ⟨(.some 2), .mv (.t 46), .none, 0⟩] []
/-- quorumite/verify.New -/
def d159 : Df := ⟨6, [.t 2], (.seq d159r0 (.seq (.seq d159r1 (.cond .none (.t 6) (.seq d159r2 .ret) .skip)) (.seq d159r3 (.seq (.seq d159r4 (.blk (.some []) 0 (.loop [19] (.seq d159r5 (.seq (.cond .none (.t 20) .skip (.exit 0)) (.seq (.blk .none 1 d159r6) d159r7)))))) (.seq d159r8 .ret)))))⟩
noncomputable def g159 (fx : Fx) (cl : Cl) (a0 : AV) (h0 : H) : R :=
  obh (mkv (.box 27 (.c a0)) h0) fun v0 h1 =>
  F.ob (ld true 26 v0 h1) fun v1 =>
  obh (cl 52 [v1] h1) fun v2 h2 =>
  F.ob (pv (.un .not (.c v2))) fun v3 =>
  cnd v3 (
  out [(.s (.ptr .none))] h2) (
  F.ob (rdd (.ld true 26 (.c v0)) [] h2) fun v4 =>
  F.ob (fld 25 v0) fun v5 =>
  F.ob (rdd (.ld false 1 (.c v5)) [] h2) fun v6 =>
  F.ob (fld 0 v0) fun v7 =>
  F.ob (rdd (.ld false 1 (.c v7)) [] h2) fun v8 =>
  F.ob (fld 5 v0) fun v9 =>
  F.ob (rdd (.ld false 1 (.c v9)) [] h2) fun v10 =>
  obh (chk Prod.snd [⟨none, .ld true 26 (.c v0), v4, 0⟩] (cl 233 [v6, v8, v10] h2)) fun v11 h3 =>
  F.ob (pv (.build [(.int .i64 0), (.int .i64 0), (.int .i64 0), (.int .i64 0), (.int .i64 0), (.int .i64 0), (.int .i64 0), (.int .i64 0), (.int .i64 0), (.int .i64 0), (.int .i64 0), (.int .i64 0), (.int .i64 0), (.int .i64 0), (.int .i64 0), (.int .i64 0), (.int .i64 0), (.int .i64 0), (.int .i64 0), (.int .i64 0), (.int .i64 0), (.int .i64 0), (.int .i64 0), (.int .i64 0), (.int .i64 0), (.int .u64 0), (.ptr .none), (.sl .none 0 0 true 1), (.sl .none 0 0 true 1), (.int .i64 0)] [(0, 26, .c v4), (26, 1, .c v11)])) fun v12 =>
  obh (mkv (.box 311 (.c v12)) h3) fun v13 h4 =>
  F.ob (fld 0 v0) fun v14 =>
  F.ob (ld false 1 v14 h4) fun v15 =>
  letJ (fun (p0 : Unit) h5 =>
  out [v13] h5) fun j0 =>
  fx AV (fun (r1 : AV → H → R) (p1 : AV) h6 =>
  F.ob (F.bin .lss p1 v15) fun v16 =>
  cnd v16 (
  F.ob (nilck v13) fun v17 =>
  F.ob (fld 27 v17) fun v18 =>
  F.ob (rdd (.ld false 1 (.c v18)) [] h6) fun v19 =>
  F.ob (fld 6 v0) fun v20 =>
  F.ob (rdd (.ld false 1 (.c v20)) [] h6) fun v21 =>
  obh (chk Prod.snd [⟨none, .ld false 1 (.c v18), v19, 5⟩] (cl 234 [v21] h6)) fun v22 h7 =>
  obh (mkv (.bslice 205 1 1 [(.ptr .none)] [(0, 1, .c v22)]) h7) fun v23 h8 =>
  obh (av (.app 205 1 8 (.c v19) (.c v23)) h8) fun v24 h9 =>
  F.ob (nilck v13) fun v25 =>
  F.ob (fld 28 v25) fun v26 =>
  F.ob (rdd (.ld false 1 (.c v26)) [(10, h8), (8, h6)] h9) fun v27 =>
  F.ob (fld 6 v0) fun v28 =>
  F.ob (rdd (.ld false 1 (.c v28)) [(10, h8), (8, h6)] h9) fun v29 =>
  obh (chk Prod.snd [⟨none, .ld false 1 (.c v26), v27, 14⟩] (cl 234 [v29] h9)) fun v30 h10 =>
  obh (mkv (.bslice 205 1 1 [(.ptr .none)] [(0, 1, .c v30)]) h10) fun v31 h11 =>
  obh (av (.app 205 1 8 (.c v27) (.c v31)) h11) fun v32 h12 =>
  F.ob (nilck v13) fun v33 =>
  F.ob (fld 27 v33) fun v34 =>
  F.ob (st 1 v34 v24 h12) fun h13 =>
  F.ob (nilck v13) fun v35 =>
  F.ob (fld 28 v35) fun v36 =>
  F.ob (st 1 v36 v32 h13) fun h14 =>
  F.ob (F.bin .add p1 (.s (.int .i64 1))) fun v37 =>
  r1 v37 h14) (
  j0 () h6)) (.s (.int .i64 0)) h4)
theorem e159 : (fun (fx : Fx) (cl : Cl) (a0 : AV) (h0 : H) => denF fx cl d159 [a0] h0) = g159 := by kernel_rfl
def d83r0 : D := .reg false [⟨(.some 1), .box 27 (.t 0), .none, 0⟩, ⟨(.some 2), .mv (.c (.s (.ptr .none))), .none, 0⟩] []
def d83r1 : D := .reg false [⟨(.some 3), .ld true 26 (.t 1), .none, 0⟩, ⟨(.some 4), .call 52 [(.t 3)], .none, 0⟩, ⟨(.some 5), .un .not (.t 4), .none, 0⟩] []
def d83r2 : D := .reg false [⟨(.some 2), .mv (.c (.s (.ptr .none))), .none, 0⟩] []
def d83r3 : D := .reg true [⟨(.some 6), .ld true 26 (.t 1), .none, 0⟩, ⟨(.some 7), .ld true 26 (.t 1), .none, 0⟩, ⟨(.some 8), .call 159 [(.t 7)], .none, 2⟩, ⟨(.some 9), .fld 0 (.t 1), .none, 0⟩, ⟨(.some 10), .ld false 1 (.t 9), .none, 8⟩, ⟨(.some 11), .fld 2 (.t 1), .none, 0⟩, ⟨(.some 12), .ld false 1 (.t 11), .none, 32⟩, ⟨(.some 13), .fld 4 (.t 1), .none, 0⟩, ⟨(.some 14), .ld false 1 (.t 13), .none, 128⟩, ⟨(.some 15), .call 160 [(.t 10), (.t 12), (.t 14)], .none, 510⟩, ⟨(.some 16), .fld 0 (.t 1), .none, 0⟩, ⟨(.some 17), .ld false 1 (.t 16), .none, 1024⟩, ⟨(.some 18), .fld 22 (.t 1), .none, 0⟩, ⟨(.some 19), .ld false 1 (.t 18), .none, 4096⟩, ⟨(.some 20), .fld 23 (.t 1), .none, 0⟩, ⟨(.some 21), .ld false 1 (.t 20), .none, 16384⟩, ⟨(.some 22), .fld 21 (.t 1), .none, 0⟩, ⟨(.some 23), .ld false 1 (.t 22), .none, 65536⟩, ⟨(.some 24), .call 53 [(.t 17), (.t 19), (.t 21), (.t 23)], .none, 262142⟩, ⟨(.some 25), .ld true 26 (.t 1), .none, 0⟩, ⟨(.some 26), .fld 12 (.t 1), .none, 0⟩, ⟨(.some 27), .ld false 1 (.t 26), .none, 1048576⟩, ⟨(.some 28), .call 129 [(.t 25), (.t 27)], .none, 4194302⟩, ⟨(.some 29), .build [(.int .i64 0), (.int .i64 0), (.int .i64 0), (.int .i64 0), (.int .i64 0), (.int .i64 0), (.int .i64 0), (.int .i64 0), (.int .i64 0), (.int .i64 0), (.int .i64 0), (.int .i64 0), (.int .i64 0), (.int .i64 0), (.int .i64 0), (.int .i64 0), (.int .i64 0), (.int .i64 0), (.int .i64 0), (.int .i64 0), (.int .i64 0), (.int .i64 0), (.int .i64 0), (.int .i64 0), (.int .i64 0), (.int .u64 0), (.int .i64 0), (.ptr .none), (.ptr .none), (.ptr .none), (.ptr .none), (.sl .none 0 0 true 1), (.int .i64 0)] [(0, 26, (.t 6)), (27, 1, (.t 8)), (28, 1, (.t 15)), (29, 1, (.t 24)), (30, 1, (.t 28))], .none, 8388607⟩, ⟨(.some 30), .box 184 (.t 29), .none, 16777215⟩, ⟨(.some 2), .mv (.t 30), .none, 33554431⟩] []
/-- quorumite/state.New -/
def d83 : Df := ⟨5, [.t 2], (.seq d83r0 (.seq (.seq d83r1 (.cond .none (.t 5) (.seq d83r2 .ret) .skip)) (.seq d83r3 .ret)))⟩
noncomputable def g83 (fx : Fx) (cl : Cl) (a0 : AV) (h0 : H) : R :=
  obh (mkv (.box 27 (.c a0)) h0) fun v0 h1 =>
  F.ob (ld true 26 v0 h1) fun v1 =>
  obh (cl 52 [v1] h1) fun v2 h2 =>
  F.ob (pv (.un .not (.c v2))) fun v3 =>
  cnd v3 (
  out [(.s (.ptr .none))] h2) (
  F.ob (rdd (.ld true 26 (.c v0)) [] h2) fun v4 =>
  F.ob (rdd (.ld true 26 (.c v0)) [] h2) fun v5 =>
  obh (chk Prod.snd [⟨none, .ld true 26 (.c v0), v4, 0⟩] (cl 159 [v5] h2)) fun v6 h3 =>
  F.ob (fld 0 v0) fun v7 =>
  F.ob (rdd (.ld false 1 (.c v7)) [(2, h2)] h3) fun v8 =>
  F.ob (fld 2 v0) fun v9 =>
  F.ob (rdd (.ld false 1 (.c v9)) [(2, h2)] h3) fun v10 =>
  F.ob (fld 4 v0) fun v11 =>
  F.ob (rdd (.ld false 1 (.c v11)) [(2, h2)] h3) fun v12 =>
  obh (chk Prod.snd [⟨none, .ld true 26 (.c v0), v4, 0⟩] (cl 160 [v8, v10, v12] h3)) fun v13 h4 =>
  F.ob (fld 0 v0) fun v14 =>
  F.ob (rdd (.ld false 1 (.c v14)) [(9, h3), (2, h2)] h4) fun v15 =>
  F.ob (fld 22 v0) fun v16 =>
  F.ob (rdd (.ld false 1 (.c v16)) [(9, h3), (2, h2)] h4) fun v17 =>
  F.ob (fld 23 v0) fun v18 =>
  F.ob (rdd (.ld false 1 (.c v18)) [(9, h3), (2, h2)] h4) fun v19 =>
  F.ob (fld 21 v0) fun v20 =>
  F.ob (rdd (.ld false 1 (.c v20)) [(9, h3), (2, h2)] h4) fun v21 =>
  obh (chk Prod.snd [⟨none, .ld true 26 (.c v0), v4, 0⟩] (cl 53 [v15, v17, v19, v21] h4)) fun v22 h5 =>
  F.ob (rdd (.ld true 26 (.c v0)) [(18, h4), (9, h3), (2, h2)] h5) fun v23 =>
  F.ob (fld 12 v0) fun v24 =>
  F.ob (rdd (.ld false 1 (.c v24)) [(18, h4), (9, h3), (2, h2)] h5) fun v25 =>
  obh (chk Prod.snd [⟨none, .ld true 26 (.c v0), v4, 0⟩] (cl 129 [v23, v25] h5)) fun v26 h6 =>
  F.ob (pv (.build [(.int .i64 0), (.int .i64 0), (.int .i64 0), (.int .i64 0), (.int .i64 0), (.int .i64 0), (.int .i64 0), (.int .i64 0), (.int .i64 0), (.int .i64 0), (.int .i64 0), (.int .i64 0), (.int .i64 0), (.int .i64 0), (.int .i64 0), (.int .i64 0), (.int .i64 0), (.int .i64 0), (.int .i64 0), (.int .i64 0), (.int .i64 0), (.int .i64 0), (.int .i64 0), (.int .i64 0), (.int .i64 0), (.int .u64 0), (.int .i64 0), (.ptr .none), (.ptr .none), (.ptr .none), (.ptr .none), (.sl .none 0 0 true 1), (.int .i64 0)] [(0, 26, .c v4), (27, 1, .c v6), (28, 1, .c v13), (29, 1, .c v22), (30, 1, .c v26)])) fun v27 =>
  obh (mkv (.box 184 (.c v27)) h6) fun v28 h7 =>
  out [v28] h7)
theorem e83 : (fun (fx : Fx) (cl : Cl) (a0 : AV) (h0 : H) => denF fx cl d83 [a0] h0) = g83 := by kernel_rfl
def d224r0 : D := .reg false [⟨(.some 4), .mv (.c (.s (.int .u64 0))), .none, 0⟩, ⟨(.some 5), .mv (.c (.s (.int .i64 0))), .none, 0⟩] []
def d224r1 : D := .reg false [⟨(.some 8), .mv (.t 1), .none, 0⟩, ⟨(.some 9), .bin .lss (.t 8) (.c (.s (.int .i64 0))), .none, 0⟩, ⟨(.some 10), .mv (.t 9), .none, 0⟩, ⟨(.some 11), .mv (.t 1), (.some (10, false)), 0⟩, ⟨(.some 12), .mv (.t 0), (.some (10, false)), 0⟩, ⟨(.some 13), .len (.sl 0) (.t 12), (.some (10, false)), 0⟩, ⟨(.some 14), .bin .sub (.t 13) (.c (.s (.int .i64 8))), (.some (10, false)), 0⟩, ⟨(.some 15), .bin .gtr (.t 11) (.t 14), (.some (10, false)), 0⟩, ⟨(.some 16), .pick (.t 10) (.c (.s (.bool true))) (.t 15), .none, 0⟩] []
def d224r2 : D := .reg false [⟨(.some 4), .mv (.c (.s (.int .u64 0))), .none, 0⟩, ⟨(.some 5), .mv (.c (.s (.int .i64 2))), .none, 0⟩] []
def d224r3 : D := .reg false [⟨(.some 6), .mv (.c (.s (.int .u64 0))), .none, 0⟩] []
def d224r4 : D := .reg false [⟨(.some 17), .mv (.c (.s (.int .i64 0))), .none, 0⟩] []
def d224r5 : D := .reg false [⟨(.some 18), .bin .lss (.t 17) (.c (.s (.int .i64 8))), .none, 0⟩] []
def d224r6 : D := .reg false [⟨(.some 19), .mv (.t 17), .none, 0⟩, ⟨(.some 7), .mv (.t 19), .none, 0⟩] []
def d224r7 : D := .reg false [⟨(.some 20), .mv (.t 6), .none, 0⟩, ⟨(.some 21), .mv (.t 0), .none, 0⟩, ⟨(.some 22), .mv (.t 1), .none, 0⟩, ⟨(.some 23), .mv (.t 7), .none, 0⟩, ⟨(.some 24), .bin .add (.t 22) (.t 23), .none, 0⟩, ⟨(.some 25), .idxa (.sl 1) (.t 21) (.t 24), .none, 0⟩, ⟨(.some 26), .ld false 1 (.t 25), .none, 0⟩, ⟨(.some 27), .conv .u64 (.t 26), .none, 0⟩, ⟨(.some 28), .mv (.t 7), .none, 0⟩, ⟨(.some 29), .bin .mul (.c (.s (.int .i64 8))) (.t 28), .none, 0⟩, ⟨(.some 30), .conv .u64 (.t 29), .none, 0⟩, ⟨(.some 31), .bin .shl (.t 27) (.t 30), .none, 0⟩, ⟨(.some 32), .bin .or (.t 20) (.t 31), .none, 0⟩, ⟨(.some 6), .mv (.t 32), .none, 0⟩] []
def d224r8 : D := .reg false [⟨(.some 33), .bin .add (.t 17) (.c (.s (.int .i64 1))), .none, 0⟩, ⟨(.some 17), .mv (.t 33), .none, 0⟩] []
def d224r9 : D := .reg false [⟨(.some 34), .mv (.t 6), .none, 0⟩, ⟨(.some 4), .mv (.t 34), .none, 0⟩, ⟨(.some 5), .mv (.c (.s (.int .i64 0))), .none, 0⟩] []
/-- quorumite/sip.Get -/
def d224 : Df := ⟨6, [.t 4, .t 5], (.seq d224r0 (.seq (.seq d224r1 (.cond .none (.t 16) (.seq d224r2 .ret) .skip)) (.seq d224r3 (.seq (.seq d224r4 (.blk (.some [6]) 0 (.loop [6, 17] (.seq d224r5 (.seq (.cond .none (.t 18) .skip (.exit 0)) (.seq (.blk .none 1 (.seq d224r6 d224r7)) d224r8)))))) (.seq d224r9 .ret)))))⟩
noncomputable def g224 (fx : Fx) (cl : Cl) (a0 a1 : AV) (h0 : H) : R :=
  F.ob (F.bin .lss a1 (.s (.int .i64 0))) fun v0 =>
  F.ob (gd v0 false (some a1) (some nought)) fun v1 =>
  F.ob (gd v0 false (some a0) (some nought)) fun v2 =>
  F.ob (gd v0 false (pv (.len (.sl 0) (.c v2))) (some nought)) fun v3 =>
  F.ob (gd v0 false (F.bin .sub v3 (.s (.int .i64 8))) (some nought)) fun v4 =>
  F.ob (gd v0 false (F.bin .gtr v1 v4) (some nought)) fun v5 =>
  F.ob (pv (.pick (.c v0) (.c (.s (.bool true))) (.c v5))) fun v6 =>
  cnd v6 (
  out [(.s (.int .u64 0)), (.s (.int .i64 2))] h0) (
  letJ (fun (p0 : AV) h1 =>
  out [p0, (.s (.int .i64 0))] h1) fun j0 =>
  fx (AV × AV) (fun (r1 : (AV × AV) → H → R) (p1 : AV × AV) h2 =>
  F.ob (F.bin .lss p1.2 (.s (.int .i64 8))) fun v7 =>
  cnd v7 (
  F.ob (F.bin .add a1 p1.2) fun v8 =>
  F.ob (idxa (.sl 1) a0 v8) fun v9 =>
  F.ob (ld false 1 v9 h2) fun v10 =>
  F.ob (conv .u64 v10) fun v11 =>
  F.ob (F.bin .mul (.s (.int .i64 8)) p1.2) fun v12 =>
  F.ob (conv .u64 v12) fun v13 =>
  F.ob (F.bin .shl v11 v13) fun v14 =>
  F.ob (F.bin .or p1.1 v14) fun v15 =>
  F.ob (F.bin .add p1.2 (.s (.int .i64 1))) fun v16 =>
  r1 (v15, v16) h2) (
  j0 p1.1 h2)) ((.s (.int .u64 0)), (.s (.int .i64 0))) h0)
theorem e224 : (fun (fx : Fx) (cl : Cl) (a0 a1 : AV) (h0 : H) => denF fx cl d224 [a0, a1] h0) = g224 := by kernel_rfl
def d232r0 : D := .reg false [⟨(.some 2), .mv (.c (.s (.int .u32 0))), .none, 0⟩, ⟨(.some 3), .mv (.c (.s (.bool false))), .none, 0⟩] []
def d232r1 : D := .reg false [⟨(.some 7), .mv (.t 0), .none, 0⟩, ⟨(.some 8), .len (.sl 0) (.t 7), .none, 0⟩, ⟨(.some 9), .bin .neq (.t 8) (.c (.s (.int .i64 64))), .none, 0⟩] []
def d232r2 : D := .reg false [⟨(.some 2), .mv (.c (.s (.int .u32 0))), .none, 0⟩, ⟨(.some 3), .mv (.c (.s (.bool false))), .none, 0⟩] []
def d232r3 : D := .reg false [⟨(.some 11), .mv (.t 0), .none, 0⟩, ⟨(.some 12), .call 224 [(.t 11), (.c (.s (.int .i64 0)))], .none, 0⟩, ⟨(.some 10), .mv (.t 12), .none, 0⟩, ⟨(.some 13), .ext (.t 10) 0, .none, 0⟩, ⟨(.some 14), .ext (.t 10) 1, .none, 0⟩, ⟨(.some 4), .mv (.t 13), .none, 0⟩, ⟨(.some 5), .mv (.t 14), .none, 0⟩] []
def d232r4 : D := .reg false [⟨(.some 15), .mv (.t 4), .none, 0⟩, ⟨(.some 16), .conv .u32 (.t 15), .none, 0⟩, ⟨(.some 6), .mv (.t 16), .none, 0⟩] []
def d232r5 : D := .reg true [⟨(.some 17), .mv (.t 6), .none, 0⟩, ⟨(.some 18), .mv (.t 6), .none, 0⟩, ⟨(.some 19), .bin .geq (.t 18) (.c (.s (.int .u32 1))), .none, 2⟩, ⟨(.some 20), .mv (.t 19), .none, 6⟩, ⟨(.some 21), .mv (.t 6), (.some (20, true)), 14⟩, ⟨(.some 22), .bin .leq (.t 21) (.c (.s (.int .u32 250))), (.some (20, true)), 30⟩, ⟨(.some 23), .pick (.t 20) (.t 22) (.c (.s (.bool false))), .none, 62⟩, ⟨(.some 24), .mv (.t 23), .none, 126⟩, ⟨(.some 25), .mv (.t 0), (.some (24, true)), 254⟩, ⟨(.some 26), .mv (.t 0), (.some (24, true)), 254⟩, ⟨(.some 27), .len (.sl 0) (.t 26), (.some (24, true)), 766⟩, ⟨(.some 28), .bin .sub (.t 27) (.c (.s (.int .i64 1))), (.some (24, true)), 1790⟩, ⟨(.some 29), .idxa (.sl 1) (.t 25) (.t 28), (.some (24, true)), 4094⟩, ⟨(.some 30), .ld false 1 (.t 29), (.some (24, true)), 8190⟩, ⟨(.some 31), .mv (.t 6), (.some (24, true)), 254⟩, ⟨(.some 32), .call 240 [(.t 31)], (.some (24, true)), 16638⟩, ⟨(.some 33), .bin .eql (.t 30) (.t 32), (.some (24, true)), 65534⟩, ⟨(.some 34), .pick (.t 24) (.t 33) (.c (.s (.bool false))), .none, 131070⟩, ⟨(.some 2), .mv (.t 17), .none, 49407⟩, ⟨(.some 3), .mv (.t 34), .none, 524287⟩] []
/-- quorumite/log.Of -/
def d232 : Df := ⟨6, [.t 2, .t 3], (.seq d232r0 (.seq (.seq d232r1 (.cond .none (.t 9) (.seq d232r2 .ret) .skip)) (.seq d232r3 (.seq d232r4 (.seq d232r5 .ret)))))⟩
noncomputable def g232 (fx : Fx) (cl : Cl) (a0 : AV) (h0 : H) : R :=
  F.ob (pv (.len (.sl 0) (.c a0))) fun v0 =>
  F.ob (F.bin .neq v0 (.s (.int .i64 64))) fun v1 =>
  cnd v1 (
  out [(.s (.int .u32 0)), (.s (.bool false))] h0) (
  obh (cl 224 [a0, (.s (.int .i64 0))] h0) fun v2 h1 =>
  F.ob (pv (.ext (.c v2) 0)) fun v3 =>
  F.ob (pv (.ext (.c v2) 1)) fun v4 =>
  F.ob (conv .u32 v3) fun v5 =>
  F.ob (F.bin .geq v5 (.s (.int .u32 1))) fun v6 =>
  F.ob (gd v6 true (some v5) (some nought)) fun v7 =>
  F.ob (gd v6 true (F.bin .leq v7 (.s (.int .u32 250))) (some nought)) fun v8 =>
  F.ob (pv (.pick (.c v6) (.c v8) (.c (.s (.bool false))))) fun v9 =>
  F.ob (gd v9 true (some a0) (some nought)) fun v10 =>
  F.ob (gd v9 true (some a0) (some nought)) fun v11 =>
  F.ob (gd v9 true (pv (.len (.sl 0) (.c v11))) (some nought)) fun v12 =>
  F.ob (gd v9 true (F.bin .sub v12 (.s (.int .i64 1))) (some nought)) fun v13 =>
  F.ob (gd v9 true (idxa (.sl 1) v10 v13) (some nought)) fun v14 =>
  F.ob (gd v9 true (rdd (.ld false 1 (.c v14)) [] h1) (some nought)) fun v15 =>
  F.ob (gd v9 true (some v5) (some nought)) fun v16 =>
  obh (gd v9 true (chk Prod.snd [⟨(some (v9, true)), .ld false 1 (.c v14), v15, 13⟩] (cl 240 [v16] h1)) (some (nought, h1))) fun v17 h2 =>
  F.ob (gd v9 true (F.bin .eql v15 v17) (some nought)) fun v18 =>
  F.ob (pv (.pick (.c v9) (.c v18) (.c (.s (.bool false))))) fun v19 =>
  out [v5, v19] h2)
theorem e232 : (fun (fx : Fx) (cl : Cl) (a0 : AV) (h0 : H) => denF fx cl d232 [a0] h0) = g232 := by kernel_rfl
def d158r0 : D := .reg false [⟨(.some 4), .mv (.c (.s (.bool false))), .none, 0⟩, ⟨(.some 5), .mv (.c (.s (.int .i64 0))), .none, 0⟩] []
def d158r1 : D := .reg false [⟨(.some 12), .mv (.t 0), .none, 0⟩, ⟨(.some 13), .nilck (.t 12), .none, 0⟩, ⟨(.some 14), .fld 26 (.t 13), .none, 0⟩, ⟨(.some 15), .ld false 1 (.t 14), .none, 0⟩, ⟨(.some 16), .idxa (.sl 1) (.t 15) (.c (.s (.int .i64 0))), .none, 0⟩, ⟨(.some 17), .ld false 1 (.t 16), .none, 0⟩, ⟨(.some 18), .call 232 [(.t 17)], .none, 0⟩, ⟨(.some 11), .mv (.t 18), .none, 0⟩, ⟨(.some 19), .ext (.t 11) 0, .none, 0⟩, ⟨(.some 20), .ext (.t 11) 1, .none, 0⟩, ⟨(.some 6), .mv (.t 19), .none, 0⟩, ⟨(.some 7), .mv (.t 20), .none, 0⟩] []
def d158r2 : D := .reg false [⟨(.some 21), .mv (.t 7), .none, 0⟩, ⟨(.some 22), .un .not (.t 21), .none, 0⟩, ⟨(.some 23), .mv (.t 22), .none, 0⟩, ⟨(.some 24), .mv (.t 6), (.some (23, false)), 0⟩, ⟨(.some 25), .bin .rem (.t 24) (.c (.s (.int .u32 2))), (.some (23, false)), 0⟩, ⟨(.some 26), .mv (.t 1), (.some (23, false)), 0⟩, ⟨(.some 27), .bin .neq (.t 25) (.t 26), (.some (23, false)), 0⟩, ⟨(.some 28), .pick (.t 23) (.c (.s (.bool true))) (.t 27), .none, 0⟩] []
def d158r3 : D := .reg false [⟨(.some 4), .mv (.c (.s (.bool false))), .none, 0⟩, ⟨(.some 5), .mv (.c (.s (.int .i64 0))), .none, 0⟩] []
def d158r4 : D := .reg false [⟨(.some 29), .mv (.t 0), .none, 0⟩, ⟨(.some 30), .mv (.t 6), .none, 0⟩, ⟨(.some 31), .nilck (.t 29), .none, 0⟩, ⟨(.some 32), .fld 27 (.t 31), .none, 0⟩, ⟨.none, .st 1 (.t 32) (.t 30), .none, 0⟩] []
def d158r5 : D := .reg false [⟨(.some 33), .mv (.t 0), .none, 0⟩, ⟨(.some 34), .nilck (.t 33), .none, 0⟩, ⟨(.some 35), .fld 26 (.t 34), .none, 0⟩, ⟨(.some 36), .ld false 1 (.t 35), .none, 0⟩, ⟨(.some 37), .len (.sl 0) (.t 36), .none, 0⟩, ⟨(.some 38), .mv (.c (.s (.int .i64 0))), .none, 0⟩] []
def d158r6 : D := .reg false [⟨(.some 39), .bin .lss (.t 38) (.t 37), .none, 0⟩] []
def d158r7 : D := .reg false [⟨(.some 40), .mv (.t 38), .none, 0⟩, ⟨(.some 8), .mv (.t 40), .none, 0⟩] []
def d158r8 : D := .reg false [⟨(.some 41), .mv (.t 0), .none, 0⟩, ⟨(.some 42), .mv (.t 8), .none, 0⟩, ⟨(.some 43), .call 161 [(.t 41), (.t 42)], .none, 0⟩, ⟨(.some 44), .un .not (.t 43), .none, 0⟩] []
def d158r9 : D := .reg false [⟨(.some 45), .mv (.t 0), .none, 0⟩, ⟨(.some 46), .mv (.t 8), .none, 0⟩, ⟨(.some 47), .call 164 [(.t 45), (.t 46)], .none, 0⟩] []
def d158r10 : D := .reg false [⟨(.some 4), .mv (.c (.s (.bool false))), .none, 0⟩, ⟨(.some 5), .mv (.c (.s (.int .i64 12))), .none, 0⟩] []
def d158r11 : D := .reg false [⟨(.some 4), .mv (.c (.s (.bool false))), .none, 0⟩, ⟨(.some 5), .mv (.c (.s (.int .i64 0))), .none, 0⟩] []
def d158r12 : D := .reg false [⟨(.some 49), .mv (.t 0), .none, 0⟩, ⟨(.some 50), .mv (.t 8), .none, 0⟩, ⟨(.some 51), .bslice 3 1 2 [(.int .i64 0), (.int .i64 0)] [(0, 1, (.c (.s (.int .i64 1)))), (1, 1, (.c (.s (.int .i64 2))))], .none, 0⟩, ⟨(.some 52), .call 162 [(.t 49), (.t 50), (.t 51)], .none, 0⟩, ⟨(.some 48), .mv (.t 52), .none, 0⟩, ⟨(.some 53), .ext (.t 48) 0, .none, 0⟩, ⟨(.some 54), .ext (.t 48) 1, .none, 0⟩, ⟨(.some 9), .alloc 70 [(.int .u32 0), (.int .i64 0), (.int .i64 0), (.sl .none 0 0 true 1)], .none, 0⟩, ⟨.none, .st 4 (.t 9) (.t 53), .none, 0⟩, ⟨(.some 10), .mv (.t 54), .none, 0⟩] []
def d158r13 : D := .reg false [⟨(.some 55), .mv (.t 10), .none, 0⟩, ⟨(.some 56), .bin .neq (.t 55) (.c (.s (.int .i64 0))), .none, 0⟩] []
def d158r14 : D := .reg false [⟨(.some 57), .mv (.t 10), .none, 0⟩, ⟨(.some 4), .mv (.c (.s (.bool false))), .none, 0⟩, ⟨(.some 5), .mv (.t 57), .none, 0⟩] []
def d158r15 : D := .reg true [⟨(.some 58), .mv (.t 0), .none, 0⟩, ⟨(.some 59), .mv (.t 0), .none, 0⟩, ⟨(.some 60), .nilck (.t 59), .none, 2⟩, ⟨(.some 61), .fld 28 (.t 60), .none, 6⟩, ⟨(.some 62), .ld false 1 (.t 61), .none, 14⟩, ⟨(.some 63), .fld 3 (.t 9), .none, 0⟩, ⟨(.some 64), .ld false 1 (.t 63), .none, 32⟩, ⟨(.some 65), .app 5 1 1 (.t 62) (.t 64), .none, 126⟩, ⟨(.some 66), .nilck (.t 58), .none, 255⟩, ⟨(.some 67), .fld 28 (.t 66), .none, 511⟩, ⟨.none, .st 1 (.t 67) (.t 65), .none, 1023⟩] []
def d158r16 : D := .reg false [⟨(.some 68), .fld 2 (.t 9), .none, 0⟩, ⟨(.some 69), .ld false 1 (.t 68), .none, 0⟩, ⟨(.some 70), .bin .eql (.t 69) (.c (.s (.int .i64 2))), .none, 0⟩] []
def d158r17 : D := .reg false [⟨(.some 71), .mv (.t 0), .none, 0⟩, ⟨(.some 72), .mv (.t 8), .none, 0⟩, ⟨(.some 73), .bin .add (.t 72) (.c (.s (.int .i64 1))), .none, 0⟩, ⟨(.some 74), .nilck (.t 71), .none, 0⟩, ⟨(.some 75), .fld 29 (.t 74), .none, 0⟩, ⟨.none, .st 1 (.t 75) (.t 73), .none, 0⟩] []
def d158r18 : D := .reg false [⟨(.some 4), .mv (.c (.s (.bool true))), .none, 0⟩, ⟨(.some 5), .mv (.c (.s (.int .i64 0))), .none, 0⟩] []
def d158r19 : D := .reg false [⟨(.some 76), .bin .add (.t 38) (.c (.s (.int .i64 1))), .none, 0⟩, ⟨(.some 38), .mv (.t 76), .none, 0⟩] []
def d158r20 : D := .reg false [⟨(.some 4), .mv (.c (.s (.bool false))), .none, 0⟩, ⟨(.some 5), .mv (.c (.s (.int .i64 0))), .none, 0⟩] []
/-- (*quorumite/store.scan).begun -/
def d158 : Df := ⟨7, [.t 4, .t 5], (.seq d158r0 (.seq d158r1 (.seq (.seq d158r2 (.cond .none (.t 28) (.seq d158r3 .ret) .skip)) (.seq d158r4 (.seq (.seq d158r5 (.blk (.some []) 0 (.loop [38] (.seq d158r6 (.seq (.cond .none (.t 39) .skip (.exit 0)) (.seq (.blk .none 1 (.seq d158r7 (.seq (.seq d158r8 (.cond .none (.t 44) (.seq (.seq d158r9 (.cond .none (.t 47) (.seq d158r10 .ret) .skip)) (.seq d158r11 .ret)) .skip)) (.seq d158r12 (.seq (.seq d158r13 (.cond .none (.t 56) (.seq d158r14 .ret) .skip)) (.seq d158r15 (.seq d158r16 (.cond .none (.t 70) (.seq d158r17 (.seq d158r18 .ret)) .skip)))))))) d158r19)))))) (.seq d158r20 .ret))))))⟩
noncomputable def g158 (fx : Fx) (cl : Cl) (a0 a1 : AV) (h0 : H) : R :=
  F.ob (nilck a0) fun v0 =>
  F.ob (fld 26 v0) fun v1 =>
  F.ob (ld false 1 v1 h0) fun v2 =>
  F.ob (idxa (.sl 1) v2 (.s (.int .i64 0))) fun v3 =>
  F.ob (ld false 1 v3 h0) fun v4 =>
  obh (cl 232 [v4] h0) fun v5 h1 =>
  F.ob (pv (.ext (.c v5) 0)) fun v6 =>
  F.ob (pv (.ext (.c v5) 1)) fun v7 =>
  F.ob (pv (.un .not (.c v7))) fun v8 =>
  F.ob (gd v8 false (some v6) (some nought)) fun v9 =>
  F.ob (gd v8 false (F.bin .rem v9 (.s (.int .u32 2))) (some nought)) fun v10 =>
  F.ob (gd v8 false (some a1) (some nought)) fun v11 =>
  F.ob (gd v8 false (F.bin .neq v10 v11) (some nought)) fun v12 =>
  F.ob (pv (.pick (.c v8) (.c (.s (.bool true))) (.c v12))) fun v13 =>
  cnd v13 (
  out [(.s (.bool false)), (.s (.int .i64 0))] h1) (
  F.ob (nilck a0) fun v14 =>
  F.ob (fld 27 v14) fun v15 =>
  F.ob (st 1 v15 v6 h1) fun h2 =>
  F.ob (nilck a0) fun v16 =>
  F.ob (fld 26 v16) fun v17 =>
  F.ob (ld false 1 v17 h2) fun v18 =>
  F.ob (pv (.len (.sl 0) (.c v18))) fun v19 =>
  letJ (fun (p0 : Unit) h3 =>
  out [(.s (.bool false)), (.s (.int .i64 0))] h3) fun j0 =>
  fx AV (fun (r1 : AV → H → R) (p1 : AV) h4 =>
  F.ob (F.bin .lss p1 v19) fun v20 =>
  cnd v20 (
  obh (cl 161 [a0, p1] h4) fun v21 h5 =>
  F.ob (pv (.un .not (.c v21))) fun v22 =>
  cnd v22 (
  obh (cl 164 [a0, p1] h5) fun v23 h6 =>
  cnd v23 (
  out [(.s (.bool false)), (.s (.int .i64 12))] h6) (
  out [(.s (.bool false)), (.s (.int .i64 0))] h6)) (
  obh (mkv (.bslice 3 1 2 [(.int .i64 0), (.int .i64 0)] [(0, 1, .c (.s (.int .i64 1))), (1, 1, .c (.s (.int .i64 2)))]) h5) fun v24 h7 =>
  obh (cl 162 [a0, p1, v24] h7) fun v25 h8 =>
  F.ob (pv (.ext (.c v25) 0)) fun v26 =>
  F.ob (pv (.ext (.c v25) 1)) fun v27 =>
  obh (mkv (.alloc 70 [(.int .u32 0), (.int .i64 0), (.int .i64 0), (.sl .none 0 0 true 1)]) h8) fun v28 h9 =>
  F.ob (st 4 v28 v26 h9) fun h10 =>
  F.ob (F.bin .neq v27 (.s (.int .i64 0))) fun v29 =>
  cnd v29 (
  out [(.s (.bool false)), v27] h10) (
  F.ob (nilck a0) fun v30 =>
  F.ob (fld 28 v30) fun v31 =>
  F.ob (rdd (.ld false 1 (.c v31)) [] h10) fun v32 =>
  F.ob (fld 3 v28) fun v33 =>
  F.ob (rdd (.ld false 1 (.c v33)) [] h10) fun v34 =>
  obh (av (.app 5 1 1 (.c v32) (.c v34)) h10) fun v35 h11 =>
  F.ob (nilck a0) fun v36 =>
  F.ob (fld 28 v36) fun v37 =>
  F.ob (st 1 v37 v35 h11) fun h12 =>
  F.ob (fld 2 v28) fun v38 =>
  F.ob (ld false 1 v38 h12) fun v39 =>
  F.ob (F.bin .eql v39 (.s (.int .i64 2))) fun v40 =>
  cnd v40 (
  F.ob (F.bin .add p1 (.s (.int .i64 1))) fun v41 =>
  F.ob (nilck a0) fun v42 =>
  F.ob (fld 29 v42) fun v43 =>
  F.ob (st 1 v43 v41 h12) fun h13 =>
  out [(.s (.bool true)), (.s (.int .i64 0))] h13) (
  F.ob (F.bin .add p1 (.s (.int .i64 1))) fun v44 =>
  r1 v44 h12)))) (
  j0 () h4)) (.s (.int .i64 0)) h2)
theorem e158 : (fun (fx : Fx) (cl : Cl) (a0 a1 : AV) (h0 : H) => denF fx cl d158 [a0, a1] h0) = g158 := by kernel_rfl
def d79r0 : D := .reg false [⟨(.some 2), .mv (.c (.s (.sl .none 0 0 true 1))), .none, 0⟩] []
def d79r1 : D := .reg false [⟨(.some 3), .mv (.t 0), .none, 0⟩, ⟨(.some 4), .eqv .sl false (.t 3) (.c (.s (.sl .none 0 0 true 1))), .none, 0⟩] []
def d79r2 : D := .reg false [⟨(.some 2), .mv (.c (.s (.sl .none 0 0 true 1))), .none, 0⟩] []
def d79r3 : D := .reg false [⟨(.some 5), .bslice 5 1 0 [] [], .none, 0⟩, ⟨(.some 6), .mv (.t 0), .none, 0⟩, ⟨(.some 7), .app 5 1 1 (.t 5) (.t 6), .none, 0⟩, ⟨(.some 2), .mv (.t 7), .none, 0⟩] []
/-- slices.Clone[[]byte,byte] -/
def d79 : Df := ⟨4, [.t 2], (.seq d79r0 (.seq (.seq d79r1 (.cond .none (.t 4) (.seq d79r2 .ret) .skip)) (.seq d79r3 .ret)))⟩
noncomputable def g79 (fx : Fx) (cl : Cl) (a0 : AV) (h0 : H) : R :=
  F.ob (pv (.eqv .sl false (.c a0) (.c (.s (.sl .none 0 0 true 1))))) fun v0 =>
  cnd v0 (
  out [(.s (.sl .none 0 0 true 1))] h0) (
  obh (mkv (.bslice 5 1 0 [] []) h0) fun v1 h1 =>
  obh (av (.app 5 1 1 (.c v1) (.c a0)) h1) fun v2 h2 =>
  out [v2] h2)
theorem e79 : (fun (fx : Fx) (cl : Cl) (a0 : AV) (h0 : H) => denF fx cl d79 [a0] h0) = g79 := by kernel_rfl
def d180r0 : D := .reg false [⟨(.some 4), .mv (.c (.s (.sl .none 0 0 true 1))), .none, 0⟩, ⟨(.some 5), .mv (.c (.s (.int .i64 0))), .none, 0⟩] []
def d180r1 : D := .reg false [⟨(.some 6), .mv (.t 0), .none, 0⟩, ⟨(.some 7), .eqv .ptr false (.t 6) (.c (.s (.ptr .none))), .none, 0⟩, ⟨(.some 8), .mv (.t 7), .none, 0⟩, ⟨(.some 9), .mv (.t 1), (.some (8, false)), 0⟩, ⟨(.some 10), .bin .lss (.t 9) (.c (.s (.int .i64 0))), (.some (8, false)), 0⟩, ⟨(.some 11), .pick (.t 8) (.c (.s (.bool true))) (.t 10), .none, 0⟩, ⟨(.some 12), .mv (.t 11), .none, 0⟩, ⟨(.some 13), .mv (.t 1), (.some (12, false)), 0⟩, ⟨(.some 14), .mv (.t 0), (.some (12, false)), 0⟩, ⟨(.some 15), .nilck (.t 14), (.some (12, false)), 0⟩, ⟨(.some 16), .fld 0 (.t 15), (.some (12, false)), 0⟩, ⟨(.some 17), .ld false 1 (.t 16), (.some (12, false)), 0⟩, ⟨(.some 18), .len (.sl 0) (.t 17), (.some (12, false)), 0⟩, ⟨(.some 19), .bin .geq (.t 13) (.t 18), (.some (12, false)), 0⟩, ⟨(.some 20), .pick (.t 12) (.c (.s (.bool true))) (.t 19), .none, 0⟩] []
def d180r2 : D := .reg false [⟨(.some 4), .mv (.c (.s (.sl .none 0 0 true 1))), .none, 0⟩, ⟨(.some 5), .mv (.c (.s (.int .i64 1))), .none, 0⟩] []
def d180r3 : D := .reg false [⟨(.some 21), .mv (.t 0), .none, 0⟩, ⟨(.some 22), .nilck (.t 21), .none, 0⟩, ⟨(.some 23), .fld 0 (.t 22), .none, 0⟩, ⟨(.some 24), .ld false 1 (.t 23), .none, 0⟩, ⟨(.some 25), .mv (.t 1), .none, 0⟩, ⟨(.some 26), .idxa (.sl 1) (.t 24) (.t 25), .none, 0⟩, ⟨(.some 27), .ld false 1 (.t 26), .none, 0⟩, ⟨(.some 28), .call 79 [(.t 27)], .none, 0⟩, ⟨(.some 4), .mv (.t 28), .none, 0⟩, ⟨(.some 5), .mv (.c (.s (.int .i64 0))), .none, 0⟩] []
/-- (*quorumite/sector.Disk).Read -/
def d180 : Df := ⟨5, [.t 4, .t 5], (.seq d180r0 (.seq (.seq d180r1 (.cond .none (.t 20) (.seq d180r2 .ret) .skip)) (.seq d180r3 .ret)))⟩
noncomputable def g180 (fx : Fx) (cl : Cl) (a0 a1 : AV) (h0 : H) : R :=
  F.ob (pv (.eqv .ptr false (.c a0) (.c (.s (.ptr .none))))) fun v0 =>
  F.ob (gd v0 false (some a1) (some nought)) fun v1 =>
  F.ob (gd v0 false (F.bin .lss v1 (.s (.int .i64 0))) (some nought)) fun v2 =>
  F.ob (pv (.pick (.c v0) (.c (.s (.bool true))) (.c v2))) fun v3 =>
  F.ob (gd v3 false (some a1) (some nought)) fun v4 =>
  F.ob (gd v3 false (some a0) (some nought)) fun v5 =>
  F.ob (gd v3 false (nilck v5) (some nought)) fun v6 =>
  F.ob (gd v3 false (fld 0 v6) (some nought)) fun v7 =>
  F.ob (gd v3 false (ld false 1 v7 h0) (some nought)) fun v8 =>
  F.ob (gd v3 false (pv (.len (.sl 0) (.c v8))) (some nought)) fun v9 =>
  F.ob (gd v3 false (F.bin .geq v4 v9) (some nought)) fun v10 =>
  F.ob (pv (.pick (.c v3) (.c (.s (.bool true))) (.c v10))) fun v11 =>
  cnd v11 (
  out [(.s (.sl .none 0 0 true 1)), (.s (.int .i64 1))] h0) (
  F.ob (nilck a0) fun v12 =>
  F.ob (fld 0 v12) fun v13 =>
  F.ob (ld false 1 v13 h0) fun v14 =>
  F.ob (idxa (.sl 1) v14 a1) fun v15 =>
  F.ob (ld false 1 v15 h0) fun v16 =>
  obh (cl 79 [v16] h0) fun v17 h1 =>
  out [v17, (.s (.int .i64 0))] h1)
theorem e180 : (fun (fx : Fx) (cl : Cl) (a0 a1 : AV) (h0 : H) => denF fx cl d180 [a0, a1] h0) = g180 := by kernel_rfl
def d171r0 : D := .reg false [⟨(.some 2), .box 27 (.t 0), .none, 0⟩, ⟨(.some 4), .mv (.c (.s (.int .i64 0))), .none, 0⟩] []
def d171r1 : D := .reg false [⟨(.some 5), .mv (.t 1), .none, 0⟩, ⟨(.some 6), .bin .rem (.t 5) (.c (.s (.int .u32 2))), .none, 0⟩, ⟨(.some 7), .bin .eql (.t 6) (.c (.s (.int .u32 0))), .none, 0⟩] []
def d171r2 : D := .reg false [⟨(.some 4), .mv (.c (.s (.int .i64 0))), .none, 0⟩] []
def d171r3 : D := .reg false [⟨(.some 8), .ld true 26 (.t 2), .none, 0⟩, ⟨(.some 9), .call 90 [(.t 8)], .none, 0⟩, ⟨(.some 4), .mv (.t 9), .none, 0⟩] []
/-- quorumite/store.from -/
def d171 : Df := ⟨4, [.t 4], (.seq d171r0 (.seq (.seq d171r1 (.cond .none (.t 7) (.seq d171r2 .ret) .skip)) (.seq d171r3 .ret)))⟩
noncomputable def g171 (fx : Fx) (cl : Cl) (a0 a1 : AV) (h0 : H) : R :=
  obh (mkv (.box 27 (.c a0)) h0) fun v0 h1 =>
  F.ob (F.bin .rem a1 (.s (.int .u32 2))) fun v1 =>
  F.ob (F.bin .eql v1 (.s (.int .u32 0))) fun v2 =>
  cnd v2 (
  out [(.s (.int .i64 0))] h1) (
  F.ob (ld true 26 v0 h1) fun v3 =>
  obh (cl 90 [v3] h1) fun v4 h2 =>
  out [v4] h2)
theorem e171 : (fun (fx : Fx) (cl : Cl) (a0 a1 : AV) (h0 : H) => denF fx cl d171 [a0, a1] h0) = g171 := by kernel_rfl
def d90r0 : D := .reg false [⟨(.some 1), .box 27 (.t 0), .none, 0⟩, ⟨(.some 2), .mv (.c (.s (.int .i64 0))), .none, 0⟩] []
def d90r1 : D := .reg false [⟨(.some 3), .fld 24 (.t 1), .none, 0⟩, ⟨(.some 4), .ld false 1 (.t 3), .none, 0⟩, ⟨(.some 5), .bin .quo (.t 4) (.c (.s (.int .i64 2))), .none, 0⟩, ⟨(.some 2), .mv (.t 5), .none, 0⟩] []
/-- quorumite/store.half -/
def d90 : Df := ⟨3, [.t 2], (.seq d90r0 (.seq d90r1 .ret))⟩
noncomputable def g90 (fx : Fx) (cl : Cl) (a0 : AV) (h0 : H) : R :=
  obh (mkv (.box 27 (.c a0)) h0) fun v0 h1 =>
  F.ob (fld 24 v0) fun v1 =>
  F.ob (ld false 1 v1 h1) fun v2 =>
  F.ob (F.bin .quo v2 (.s (.int .i64 2))) fun v3 =>
  out [v3] h1
theorem e90 : (fun (fx : Fx) (cl : Cl) (a0 : AV) (h0 : H) => denF fx cl d90 [a0] h0) = g90 := by kernel_rfl
def d157r0 : D := .reg false [⟨(.some 3), .box 27 (.t 0), .none, 0⟩, ⟨(.some 6), .mv (.c (.s (.ptr .none))), .none, 0⟩] []
def d157r1 : D := .reg false [⟨(.some 11), .ld true 26 (.t 3), .none, 0⟩, ⟨(.some 12), .build [(.int .i64 0), (.int .i64 0), (.int .i64 0), (.int .i64 0), (.int .i64 0), (.int .i64 0), (.int .i64 0), (.int .i64 0), (.int .i64 0), (.int .i64 0), (.int .i64 0), (.int .i64 0), (.int .i64 0), (.int .i64 0), (.int .i64 0), (.int .i64 0), (.int .i64 0), (.int .i64 0), (.int .i64 0), (.int .i64 0), (.int .i64 0), (.int .i64 0), (.int .i64 0), (.int .i64 0), (.int .i64 0), (.int .u64 0), (.sl .none 0 0 true 1), (.int .u32 0), (.sl .none 0 0 true 1), (.int .i64 0)] [(0, 26, (.t 11))], .none, 0⟩, ⟨(.some 13), .box 176 (.t 12), .none, 0⟩, ⟨(.some 7), .mv (.t 13), .none, 0⟩] []
def d157r2 : D := .reg false [⟨(.some 14), .ld true 26 (.t 3), .none, 0⟩, ⟨(.some 15), .call 90 [(.t 14)], .none, 0⟩, ⟨(.some 16), .mv (.c (.s (.int .i64 0))), .none, 0⟩] []
def d157r3 : D := .reg false [⟨(.some 17), .bin .lss (.t 16) (.t 15), .none, 0⟩] []
def d157r4 : D := .reg false [⟨(.some 18), .mv (.t 16), .none, 0⟩, ⟨(.some 8), .mv (.t 18), .none, 0⟩] []
def d157r5 : D := .reg false [⟨(.some 20), .mv (.t 1), .none, 0⟩, ⟨(.some 21), .ld true 26 (.t 3), .none, 0⟩, ⟨(.some 22), .mv (.t 2), .none, 0⟩, ⟨(.some 23), .call 171 [(.t 21), (.t 22)], .none, 0⟩, ⟨(.some 24), .mv (.t 8), .none, 0⟩, ⟨(.some 25), .bin .add (.t 23) (.t 24), .none, 0⟩, ⟨(.some 26), .call 180 [(.t 20), (.t 25)], .none, 0⟩, ⟨(.some 19), .mv (.t 26), .none, 0⟩, ⟨(.some 27), .ext (.t 19) 0, .none, 0⟩, ⟨(.some 28), .ext (.t 19) 1, .none, 0⟩, ⟨(.some 9), .mv (.t 27), .none, 0⟩, ⟨(.some 10), .mv (.t 28), .none, 0⟩] []
def d157r6 : D := .reg false [⟨(.some 29), .mv (.t 7), .none, 0⟩, ⟨(.some 30), .mv (.t 7), .none, 0⟩, ⟨(.some 31), .nilck (.t 30), .none, 0⟩, ⟨(.some 32), .fld 26 (.t 31), .none, 0⟩, ⟨(.some 33), .ld false 1 (.t 32), .none, 0⟩, ⟨(.some 34), .mv (.t 9), .none, 0⟩, ⟨(.some 35), .bslice 51 1 1 [(.sl .none 0 0 true 1)] [(0, 1, (.t 34))], .none, 0⟩, ⟨(.some 36), .app 51 1 24 (.t 33) (.t 35), .none, 0⟩, ⟨(.some 37), .nilck (.t 29), .none, 0⟩, ⟨(.some 38), .fld 26 (.t 37), .none, 0⟩, ⟨.none, .st 1 (.t 38) (.t 36), .none, 0⟩] []
def d157r7 : D := .reg false [⟨(.some 39), .bin .add (.t 16) (.c (.s (.int .i64 1))), .none, 0⟩, ⟨(.some 16), .mv (.t 39), .none, 0⟩] []
def d157r8 : D := .reg false [⟨(.some 40), .mv (.t 7), .none, 0⟩, ⟨(.some 6), .mv (.t 40), .none, 0⟩] []
/-- quorumite/store.read -/
def d157 : Df := ⟨6, [.t 6], (.seq d157r0 (.seq d157r1 (.seq (.seq d157r2 (.blk (.some []) 0 (.loop [16] (.seq d157r3 (.seq (.cond .none (.t 17) .skip (.exit 0)) (.seq (.blk .none 1 (.seq d157r4 (.seq d157r5 d157r6))) d157r7)))))) (.seq d157r8 .ret))))⟩
noncomputable def g157 (fx : Fx) (cl : Cl) (a0 a1 a2 : AV) (h0 : H) : R :=
  obh (mkv (.box 27 (.c a0)) h0) fun v0 h1 =>
  F.ob (ld true 26 v0 h1) fun v1 =>
  F.ob (pv (.build [(.int .i64 0), (.int .i64 0), (.int .i64 0), (.int .i64 0), (.int .i64 0), (.int .i64 0), (.int .i64 0), (.int .i64 0), (.int .i64 0), (.int .i64 0), (.int .i64 0), (.int .i64 0), (.int .i64 0), (.int .i64 0), (.int .i64 0), (.int .i64 0), (.int .i64 0), (.int .i64 0), (.int .i64 0), (.int .i64 0), (.int .i64 0), (.int .i64 0), (.int .i64 0), (.int .i64 0), (.int .i64 0), (.int .u64 0), (.sl .none 0 0 true 1), (.int .u32 0), (.sl .none 0 0 true 1), (.int .i64 0)] [(0, 26, .c v1)])) fun v2 =>
  obh (mkv (.box 176 (.c v2)) h1) fun v3 h2 =>
  F.ob (ld true 26 v0 h2) fun v4 =>
  obh (cl 90 [v4] h2) fun v5 h3 =>
  letJ (fun (p0 : Unit) h4 =>
  out [v3] h4) fun j0 =>
  fx AV (fun (r1 : AV → H → R) (p1 : AV) h5 =>
  F.ob (F.bin .lss p1 v5) fun v6 =>
  cnd v6 (
  F.ob (ld true 26 v0 h5) fun v7 =>
  obh (cl 171 [v7, a2] h5) fun v8 h6 =>
  F.ob (F.bin .add v8 p1) fun v9 =>
  obh (cl 180 [a1, v9] h6) fun v10 h7 =>
  F.ob (pv (.ext (.c v10) 0)) fun v11 =>
  F.ob (pv (.ext (.c v10) 1)) fun v12 =>
  F.ob (nilck v3) fun v13 =>
  F.ob (fld 26 v13) fun v14 =>
  F.ob (ld false 1 v14 h7) fun v15 =>
  obh (mkv (.bslice 51 1 1 [(.sl .none 0 0 true 1)] [(0, 1, .c v11)]) h7) fun v16 h8 =>
  obh (av (.app 51 1 24 (.c v15) (.c v16)) h8) fun v17 h9 =>
  F.ob (nilck v3) fun v18 =>
  F.ob (fld 26 v18) fun v19 =>
  F.ob (st 1 v19 v17 h9) fun h10 =>
  F.ob (F.bin .add p1 (.s (.int .i64 1))) fun v20 =>
  r1 v20 h10) (
  j0 () h5)) (.s (.int .i64 0)) h3
theorem e157 : (fun (fx : Fx) (cl : Cl) (a0 a1 a2 : AV) (h0 : H) => denF fx cl d157 [a0, a1, a2] h0) = g157 := by kernel_rfl
def d82r0 : D := .reg false [⟨(.some 2), .box 27 (.t 0), .none, 0⟩, ⟨(.some 4), .mv (.c (.s (.ptr .none))), .none, 0⟩, ⟨(.some 5), .mv (.c (.s (.int .i64 0))), .none, 0⟩] []
def d82r1 : D := .reg false [⟨(.some 6), .mv (.c (.s (.ptr .none))), .none, 0⟩] []
def d82r2 : D := .reg false [⟨(.some 12), .bslice 65 1 2 [(.int .u32 0), (.int .u32 0)] [(0, 1, (.c (.s (.int .u32 0)))), (1, 1, (.c (.s (.int .u32 1))))], .none, 0⟩, ⟨(.some 13), .len (.sl 0) (.t 12), .none, 0⟩, ⟨(.some 14), .mv (.c (.s (.int .i64 0))), .none, 0⟩] []
def d82r3 : D := .reg false [⟨(.some 15), .bin .lss (.t 14) (.t 13), .none, 0⟩] []
def d82r4 : D := .reg false [⟨(.some 16), .idxa (.sl 1) (.t 12) (.t 14), .none, 0⟩, ⟨(.some 17), .ld false 1 (.t 16), .none, 0⟩, ⟨(.some 8), .mv (.t 17), .none, 0⟩] []
def d82r5 : D := .reg false [⟨(.some 18), .ld true 26 (.t 2), .none, 0⟩, ⟨(.some 19), .mv (.t 1), .none, 0⟩, ⟨(.some 20), .mv (.t 8), .none, 0⟩, ⟨(.some 21), .call 157 [(.t 18), (.t 19), (.t 20)], .none, 0⟩, ⟨(.some 9), .mv (.t 21), .none, 0⟩] []
def d82r6 : D := .reg false [⟨(.some 23), .mv (.t 9), .none, 0⟩, ⟨(.some 24), .mv (.t 8), .none, 0⟩, ⟨(.some 25), .call 158 [(.t 23), (.t 24)], .none, 0⟩, ⟨(.some 22), .mv (.t 25), .none, 0⟩, ⟨(.some 26), .ext (.t 22) 0, .none, 0⟩, ⟨(.some 27), .ext (.t 22) 1, .none, 0⟩, ⟨(.some 10), .mv (.t 26), .none, 0⟩, ⟨(.some 11), .mv (.t 27), .none, 0⟩] []
def d82r7 : D := .reg false [⟨(.some 28), .mv (.t 11), .none, 0⟩, ⟨(.some 29), .bin .neq (.t 28) (.c (.s (.int .i64 0))), .none, 0⟩] []
def d82r8 : D := .reg false [⟨(.some 30), .mv (.t 11), .none, 0⟩, ⟨(.some 4), .mv (.c (.s (.ptr .none))), .none, 0⟩, ⟨(.some 5), .mv (.t 30), .none, 0⟩] []
def d82r9 : D := .reg true [⟨(.some 31), .mv (.t 10), .none, 0⟩, ⟨(.some 32), .mv (.t 31), .none, 1⟩, ⟨(.some 33), .mv (.t 6), (.some (32, true)), 3⟩, ⟨(.some 34), .eqv .ptr false (.t 33) (.c (.s (.ptr .none))), (.some (32, true)), 7⟩, ⟨(.some 35), .mv (.t 34), (.some (32, true)), 15⟩, ⟨(.some 36), .mv (.t 9), (.some (35, false)), 31⟩, ⟨(.some 37), .nilck (.t 36), (.some (35, false)), 63⟩, ⟨(.some 38), .fld 27 (.t 37), (.some (35, false)), 127⟩, ⟨(.some 39), .ld false 1 (.t 38), (.some (35, false)), 255⟩, ⟨(.some 40), .mv (.t 6), (.some (35, false)), 31⟩, ⟨(.some 41), .nilck (.t 40), (.some (35, false)), 543⟩, ⟨(.some 42), .fld 27 (.t 41), (.some (35, false)), 1567⟩, ⟨(.some 43), .ld false 1 (.t 42), (.some (35, false)), 3615⟩, ⟨(.some 44), .bin .gtr (.t 39) (.t 43), (.some (35, false)), 8191⟩, ⟨(.some 45), .pick (.t 35) (.c (.s (.bool true))) (.t 44), (.some (32, true)), 16383⟩, ⟨(.some 46), .pick (.t 32) (.t 45) (.c (.s (.bool false))), .none, 32767⟩] []
def d82r10 : D := .reg false [⟨(.some 47), .mv (.t 9), .none, 0⟩, ⟨(.some 6), .mv (.t 47), .none, 0⟩] []
def d82r11 : D := .reg false [⟨(.some 48), .bin .add (.t 14) (.c (.s (.int .i64 1))), .none, 0⟩, ⟨(.some 14), .mv (.t 48), .none, 0⟩] []
def d82r12 : D := .reg false [⟨(.some 49), .mv (.t 6), .none, 0⟩, ⟨(.some 4), .mv (.t 49), .none, 0⟩, ⟨(.some 5), .mv (.c (.s (.int .i64 0))), .none, 0⟩] []
/-- quorumite/store.found -/
def d82 : Df := ⟨6, [.t 4, .t 5], (.seq d82r0 (.seq d82r1 (.seq (.seq d82r2 (.blk (.some [6]) 0 (.loop [6, 14] (.seq d82r3 (.seq (.cond .none (.t 15) .skip (.exit 0)) (.seq (.blk .none 1 (.seq d82r4 (.seq d82r5 (.seq d82r6 (.seq (.seq d82r7 (.cond .none (.t 29) (.seq d82r8 .ret) .skip)) (.seq d82r9 (.cond (.some [6]) (.t 46) d82r10 .skip))))))) d82r11)))))) (.seq d82r12 .ret))))⟩
noncomputable def g82 (fx : Fx) (cl : Cl) (a0 a1 : AV) (h0 : H) : R :=
  obh (mkv (.box 27 (.c a0)) h0) fun v0 h1 =>
  obh (mkv (.bslice 65 1 2 [(.int .u32 0), (.int .u32 0)] [(0, 1, .c (.s (.int .u32 0))), (1, 1, .c (.s (.int .u32 1)))]) h1) fun v1 h2 =>
  F.ob (pv (.len (.sl 0) (.c v1))) fun v2 =>
  letJ (fun (p0 : AV) h3 =>
  out [p0, (.s (.int .i64 0))] h3) fun j0 =>
  fx (AV × AV) (fun (r1 : (AV × AV) → H → R) (p1 : AV × AV) h4 =>
  F.ob (F.bin .lss p1.2 v2) fun v3 =>
  cnd v3 (
  F.ob (idxa (.sl 1) v1 p1.2) fun v4 =>
  F.ob (ld false 1 v4 h4) fun v5 =>
  F.ob (ld true 26 v0 h4) fun v6 =>
  obh (cl 157 [v6, a1, v5] h4) fun v7 h5 =>
  obh (cl 158 [v7, v5] h5) fun v8 h6 =>
  F.ob (pv (.ext (.c v8) 0)) fun v9 =>
  F.ob (pv (.ext (.c v8) 1)) fun v10 =>
  F.ob (F.bin .neq v10 (.s (.int .i64 0))) fun v11 =>
  cnd v11 (
  out [(.s (.ptr .none)), v10] h6) (
  F.ob (gd v9 true (some p1.1) (some nought)) fun v12 =>
  F.ob (gd v9 true (pv (.eqv .ptr false (.c v12) (.c (.s (.ptr .none))))) (some nought)) fun v13 =>
  F.ob (gd v9 true (some v13) (some nought)) fun v14 =>
  F.ob (gd v14 false (some v7) (some nought)) fun v15 =>
  F.ob (gd v14 false (nilck v15) (some nought)) fun v16 =>
  F.ob (gd v14 false (fld 27 v16) (some nought)) fun v17 =>
  F.ob (gd v14 false (rdd (.ld false 1 (.c v17)) [] h6) (some nought)) fun v18 =>
  F.ob (gd v14 false (some p1.1) (some nought)) fun v19 =>
  F.ob (gd v14 false (nilck v19) (some nought)) fun v20 =>
  F.ob (gd v14 false (fld 27 v20) (some nought)) fun v21 =>
  F.ob (gd v14 false (rdd (.ld false 1 (.c v21)) [] h6) (some nought)) fun v22 =>
  F.ob (gd v14 false (F.bin .gtr v18 v22) (some nought)) fun v23 =>
  F.ob (gd v9 true (pv (.pick (.c v14) (.c (.s (.bool true))) (.c v23))) (some nought)) fun v24 =>
  F.ob (pv (.pick (.c v9) (.c v24) (.c (.s (.bool false))))) fun v25 =>
  letJ (fun (p2 : AV) h7 =>
  F.ob (F.bin .add p1.2 (.s (.int .i64 1))) fun v26 =>
  r1 (p2, v26) h7) fun j2 =>
  cnd v25 (
  j2 v7 h6) (
  j2 p1.1 h6))) (
  j0 p1.1 h4)) ((.s (.ptr .none)), (.s (.int .i64 0))) h2
theorem e82 : (fun (fx : Fx) (cl : Cl) (a0 a1 : AV) (h0 : H) => denF fx cl d82 [a0, a1] h0) = g82 := by kernel_rfl
def d81r0 : D := .reg false [⟨(.some 2), .mv (.c (.s (.int .i64 0))), .none, 0⟩] []
def d81r1 : D := .reg false [⟨(.some 3), .mv (.t 0), .none, 0⟩, ⟨(.some 4), .eqv .ptr false (.t 3) (.c (.s (.ptr .none))), .none, 0⟩] []
def d81r2 : D := .reg false [⟨(.some 2), .mv (.c (.s (.int .i64 0))), .none, 0⟩] []
def d81r3 : D := .reg false [⟨(.some 5), .mv (.t 0), .none, 0⟩, ⟨(.some 6), .nilck (.t 5), .none, 0⟩, ⟨(.some 7), .fld 0 (.t 6), .none, 0⟩, ⟨(.some 8), .ld false 1 (.t 7), .none, 0⟩, ⟨(.some 9), .len (.sl 0) (.t 8), .none, 0⟩, ⟨(.some 2), .mv (.t 9), .none, 0⟩] []
/-- (*quorumite/sector.Disk).Len -/
def d81 : Df := ⟨4, [.t 2], (.seq d81r0 (.seq (.seq d81r1 (.cond .none (.t 4) (.seq d81r2 .ret) .skip)) (.seq d81r3 .ret)))⟩
noncomputable def g81 (fx : Fx) (cl : Cl) (a0 : AV) (h0 : H) : R :=
  F.ob (pv (.eqv .ptr false (.c a0) (.c (.s (.ptr .none))))) fun v0 =>
  cnd v0 (
  out [(.s (.int .i64 0))] h0) (
  F.ob (nilck a0) fun v1 =>
  F.ob (fld 0 v1) fun v2 =>
  F.ob (ld false 1 v2 h0) fun v3 =>
  F.ob (pv (.len (.sl 0) (.c v3))) fun v4 =>
  out [v4] h0)
theorem e81 : (fun (fx : Fx) (cl : Cl) (a0 : AV) (h0 : H) => denF fx cl d81 [a0] h0) = g81 := by kernel_rfl
def d290r0 : D := .reg false [⟨(.some 1), .box 27 (.t 0), .none, 0⟩, ⟨(.some 2), .mv (.c (.s (.int .i64 0))), .none, 0⟩] []
def d290r1 : D := .reg false [⟨(.some 5), .fld 7 (.t 1), .none, 0⟩, ⟨(.some 6), .ld true 4 (.t 5), .none, 0⟩, ⟨(.some 7), .mv (.c (.s (.int .i64 0))), .none, 0⟩] []
def d290r2 : D := .reg false [⟨(.some 8), .bin .lss (.t 7) (.c (.s (.int .i64 4))), .none, 0⟩] []
def d290r3 : D := .reg false [⟨(.some 9), .mv (.t 7), .none, 0⟩, ⟨(.some 10), .idx (.arr 4 1) false (.t 6) (.t 7), .none, 0⟩, ⟨(.some 3), .mv (.t 9), .none, 0⟩, ⟨(.some 4), .mv (.t 10), .none, 0⟩] []
def d290r4 : D := .reg false [⟨(.some 11), .mv (.t 3), .none, 0⟩, ⟨(.some 12), .fld 2 (.t 1), .none, 0⟩, ⟨(.some 13), .ld false 1 (.t 12), .none, 0⟩, ⟨(.some 14), .bin .lss (.t 11) (.t 13), .none, 0⟩, ⟨(.some 15), .mv (.t 14), .none, 0⟩, ⟨(.some 16), .mv (.t 4), (.some (15, true)), 0⟩, ⟨(.some 17), .bin .lss (.t 16) (.c (.s (.int .i64 1))), (.some (15, true)), 0⟩, ⟨(.some 18), .mv (.t 17), (.some (15, true)), 0⟩, ⟨(.some 19), .mv (.t 4), (.some (18, false)), 0⟩, ⟨(.some 20), .bin .gtr (.t 19) (.c (.s (.int .i64 1099511627776))), (.some (18, false)), 0⟩, ⟨(.some 21), .pick (.t 18) (.c (.s (.bool true))) (.t 20), (.some (15, true)), 0⟩, ⟨(.some 22), .pick (.t 15) (.t 21) (.c (.s (.bool false))), .none, 0⟩, ⟨(.some 23), .mv (.t 22), .none, 0⟩, ⟨(.some 24), .mv (.t 3), (.some (23, false)), 0⟩, ⟨(.some 25), .fld 2 (.t 1), (.some (23, false)), 0⟩, ⟨(.some 26), .ld false 1 (.t 25), (.some (23, false)), 0⟩, ⟨(.some 27), .bin .geq (.t 24) (.t 26), (.some (23, false)), 0⟩, ⟨(.some 28), .mv (.t 27), (.some (23, false)), 0⟩, ⟨(.some 29), .mv (.t 4), (.some (28, true)), 0⟩, ⟨(.some 30), .bin .neq (.t 29) (.c (.s (.int .i64 0))), (.some (28, true)), 0⟩, ⟨(.some 31), .pick (.t 28) (.t 30) (.c (.s (.bool false))), (.some (23, false)), 0⟩, ⟨(.some 32), .pick (.t 23) (.c (.s (.bool true))) (.t 31), .none, 0⟩] []
def d290r5 : D := .reg false [⟨(.some 2), .mv (.c (.s (.int .i64 0))), .none, 0⟩] []
def d290r6 : D := .reg false [⟨(.some 33), .bin .add (.t 7) (.c (.s (.int .i64 1))), .none, 0⟩, ⟨(.some 7), .mv (.t 33), .none, 0⟩] []
def d290r7 : D := .reg false [⟨(.some 2), .mv (.c (.s (.int .i64 1))), .none, 0⟩] []
/-- quorumite/conf.targets -/
def d290 : Df := ⟨6, [.t 2], (.seq d290r0 (.seq (.seq d290r1 (.blk (.some []) 0 (.loop [7] (.seq d290r2 (.seq (.cond .none (.t 8) .skip (.exit 0)) (.seq (.blk .none 1 (.seq d290r3 (.seq d290r4 (.cond .none (.t 32) (.seq d290r5 .ret) .skip)))) d290r6)))))) (.seq d290r7 .ret)))⟩
noncomputable def g290 (fx : Fx) (cl : Cl) (a0 : AV) (h0 : H) : R :=
  obh (mkv (.box 27 (.c a0)) h0) fun v0 h1 =>
  F.ob (fld 7 v0) fun v1 =>
  F.ob (ld true 4 v1 h1) fun v2 =>
  letJ (fun (p0 : Unit) h2 =>
  out [(.s (.int .i64 1))] h2) fun j0 =>
  fx AV (fun (r1 : AV → H → R) (p1 : AV) h3 =>
  F.ob (F.bin .lss p1 (.s (.int .i64 4))) fun v3 =>
  cnd v3 (
  F.ob (pv (.idx (.arr 4 1) false (.c v2) (.c p1))) fun v4 =>
  F.ob (fld 2 v0) fun v5 =>
  F.ob (ld false 1 v5 h3) fun v6 =>
  F.ob (F.bin .lss p1 v6) fun v7 =>
  F.ob (gd v7 true (some v4) (some nought)) fun v8 =>
  F.ob (gd v7 true (F.bin .lss v8 (.s (.int .i64 1))) (some nought)) fun v9 =>
  F.ob (gd v7 true (some v9) (some nought)) fun v10 =>
  F.ob (gd v10 false (some v4) (some nought)) fun v11 =>
  F.ob (gd v10 false (F.bin .gtr v11 (.s (.int .i64 1099511627776))) (some nought)) fun v12 =>
  F.ob (gd v7 true (pv (.pick (.c v10) (.c (.s (.bool true))) (.c v12))) (some nought)) fun v13 =>
  F.ob (pv (.pick (.c v7) (.c v13) (.c (.s (.bool false))))) fun v14 =>
  F.ob (gd v14 false (some p1) (some nought)) fun v15 =>
  F.ob (gd v14 false (fld 2 v0) (some nought)) fun v16 =>
  F.ob (gd v14 false (ld false 1 v16 h3) (some nought)) fun v17 =>
  F.ob (gd v14 false (F.bin .geq v15 v17) (some nought)) fun v18 =>
  F.ob (gd v14 false (some v18) (some nought)) fun v19 =>
  F.ob (gd v19 true (some v4) (some nought)) fun v20 =>
  F.ob (gd v19 true (F.bin .neq v20 (.s (.int .i64 0))) (some nought)) fun v21 =>
  F.ob (gd v14 false (pv (.pick (.c v19) (.c v21) (.c (.s (.bool false))))) (some nought)) fun v22 =>
  F.ob (pv (.pick (.c v14) (.c (.s (.bool true))) (.c v22))) fun v23 =>
  cnd v23 (
  out [(.s (.int .i64 0))] h3) (
  F.ob (F.bin .add p1 (.s (.int .i64 1))) fun v24 =>
  r1 v24 h3)) (
  j0 () h3)) (.s (.int .i64 0)) h1
theorem e290 : (fun (fx : Fx) (cl : Cl) (a0 : AV) (h0 : H) => denF fx cl d290 [a0] h0) = g290 := by kernel_rfl
def d289r0 : D := .reg false [⟨(.some 2), .mv (.c (.s (.int .i64 0))), .none, 0⟩] []
def d289r1 : D := .reg false [⟨(.some 3), .mv (.t 0), .none, 0⟩, ⟨(.some 2), .mv (.t 3), .none, 0⟩] []
/-- quorumite/conf.parts$1 -/
def d289 : Df := ⟨3, [.t 2], (.seq d289r0 (.seq d289r1 .ret))⟩
noncomputable def g289 (fx : Fx) (cl : Cl) (a0 : AV) (h0 : H) : R :=
  out [a0] h0
theorem e289 : (fun (fx : Fx) (cl : Cl) (a0 : AV) (h0 : H) => denF fx cl d289 [a0] h0) = g289 := by kernel_rfl
def d208r0 : D := .reg false [⟨(.some 1), .box 27 (.t 0), .none, 0⟩, ⟨(.some 2), .mv (.c (.s (.sl .none 0 0 true 1))), .none, 0⟩] []
def d208r1 : D := .reg false [⟨(.some 3), .mv (.c (.s (.fn 289 [] []))), .none, 0⟩] []
def d208r2 : D := .reg false [⟨(.some 5), .mv (.t 3), .none, 0⟩, ⟨(.some 6), .fld 1 (.t 1), .none, 0⟩, ⟨(.some 7), .ld false 1 (.t 6), .none, 0⟩, ⟨(.some 8), .mx [(.t 7), (.c (.s (.int .i64 0)))], .none, 0⟩, ⟨(.some 9), .mn [(.t 8), (.c (.s (.int .i64 16)))], .none, 0⟩, ⟨(.some 10), .callv (.t 5) [(.t 9)], .none, 0⟩, ⟨(.some 4), .mv (.t 10), .none, 0⟩] []
def d208r3 : D := .reg true [⟨(.some 11), .mv (.t 3), .none, 0⟩, ⟨(.some 12), .fld 0 (.t 1), .none, 0⟩, ⟨(.some 13), .ld false 1 (.t 12), .none, 2⟩, ⟨(.some 14), .callv (.t 11) [(.t 13)], .none, 7⟩, ⟨(.some 15), .build [(.str []), (.int .i64 0), (.int .i64 0), (.int .i64 0)] [(0, 1, (.c (.s (.str [110])))), (1, 1, (.t 14)), (2, 1, (.c (.s (.int .i64 1)))), (3, 1, (.c (.s (.int .i64 16))))], .none, 15⟩, ⟨(.some 16), .mv (.t 3), .none, 0⟩, ⟨(.some 17), .fld 1 (.t 1), .none, 0⟩, ⟨(.some 18), .ld false 1 (.t 17), .none, 64⟩, ⟨(.some 19), .callv (.t 16) [(.t 18)], .none, 239⟩, ⟨(.some 20), .mv (.t 3), .none, 0⟩, ⟨(.some 21), .fld 0 (.t 1), .none, 0⟩, ⟨(.some 22), .ld false 1 (.t 21), .none, 1024⟩, ⟨(.some 23), .callv (.t 20) [(.t 22)], .none, 4079⟩, ⟨(.some 24), .bin .sub (.t 23) (.c (.s (.int .i64 1))), .none, 8175⟩, ⟨(.some 25), .bin .quo (.t 24) (.c (.s (.int .i64 3))), .none, 16367⟩, ⟨(.some 26), .build [(.str []), (.int .i64 0), (.int .i64 0), (.int .i64 0)] [(0, 1, (.c (.s (.str [102])))), (1, 1, (.t 19)), (2, 1, (.c (.s (.int .i64 0)))), (3, 1, (.t 25))], .none, 32751⟩, ⟨(.some 27), .mv (.t 3), .none, 0⟩, ⟨(.some 28), .fld 2 (.t 1), .none, 0⟩, ⟨(.some 29), .ld false 1 (.t 28), .none, 131072⟩, ⟨(.some 30), .callv (.t 27) [(.t 29)], .none, 466927⟩, ⟨(.some 31), .build [(.str []), (.int .i64 0), (.int .i64 0), (.int .i64 0)] [(0, 1, (.c (.s (.str [109])))), (1, 1, (.t 30)), (2, 1, (.c (.s (.int .i64 1)))), (3, 1, (.c (.s (.int .i64 4))))], .none, 991215⟩, ⟨(.some 32), .mv (.t 3), .none, 0⟩, ⟨(.some 33), .fld 3 (.t 1), .none, 0⟩, ⟨(.some 34), .ld false 1 (.t 33), .none, 4194304⟩, ⟨(.some 35), .callv (.t 32) [(.t 34)], .none, 15671279⟩, ⟨(.some 36), .mv (.t 4), .none, 0⟩, ⟨(.some 37), .bin .mul (.c (.s (.int .i64 2))) (.t 36), .none, 33554432⟩, ⟨(.some 38), .bin .add (.t 37) (.c (.s (.int .i64 1))), .none, 100663296⟩, ⟨(.some 39), .mv (.t 3), .none, 0⟩, ⟨(.some 40), .fld 0 (.t 1), .none, 0⟩, ⟨(.some 41), .ld false 1 (.t 40), .none, 536870912⟩, ⟨(.some 42), .callv (.t 39) [(.t 41)], .none, 1911496687⟩, ⟨(.some 43), .build [(.str []), (.int .i64 0), (.int .i64 0), (.int .i64 0)] [(0, 1, (.c (.s (.str [113, 117, 111, 114, 117, 109])))), (1, 1, (.t 35)), (2, 1, (.t 38)), (3, 1, (.t 42))], .none, 4293861359⟩, ⟨(.some 44), .mv (.t 3), .none, 0⟩, ⟨(.some 45), .fld 4 (.t 1), .none, 0⟩, ⟨(.some 46), .ld false 1 (.t 45), .none, 17179869184⟩, ⟨(.some 47), .callv (.t 44) [(.t 46)], .none, 64188522479⟩, ⟨(.some 48), .build [(.str []), (.int .i64 0), (.int .i64 0), (.int .i64 0)] [(0, 1, (.c (.s (.str [102, 114, 101, 115, 104])))), (1, 1, (.t 47)), (2, 1, (.c (.s (.int .i64 1)))), (3, 1, (.c (.s (.int .i64 8))))], .none, 132907999215⟩, ⟨(.some 49), .mv (.t 3), .none, 0⟩, ⟨(.some 50), .fld 5 (.t 1), .none, 0⟩, ⟨(.some 51), .ld false 1 (.t 50), .none, 549755813888⟩, ⟨(.some 52), .callv (.t 49) [(.t 51)], .none, 2057053347823⟩, ⟨(.some 53), .build [(.str []), (.int .i64 0), (.int .i64 0), (.int .i64 0)] [(0, 1, (.c (.s (.str [103, 114, 97, 99, 101])))), (1, 1, (.t 52)), (2, 1, (.c (.s (.int .i64 1)))), (3, 1, (.c (.s (.int .i64 100))))], .none, 4256076603375⟩, ⟨(.some 54), .mv (.t 3), .none, 0⟩, ⟨(.some 55), .fld 6 (.t 1), .none, 0⟩, ⟨(.some 56), .ld false 1 (.t 55), .none, 17592186044416⟩, ⟨(.some 57), .callv (.t 54) [(.t 56)], .none, 65828727758831⟩, ⟨(.some 58), .build [(.str []), (.int .i64 0), (.int .i64 0), (.int .i64 0)] [(0, 1, (.c (.s (.str [119, 105, 110, 100, 111, 119])))), (1, 1, (.t 57)), (2, 1, (.c (.s (.int .i64 1)))), (3, 1, (.c (.s (.int .i64 64))))], .none, 136197471936495⟩, ⟨(.some 59), .ld true 26 (.t 1), .none, 0⟩, ⟨(.some 60), .call 290 [(.t 59)], .none, 417672448647151⟩, ⟨(.some 61), .build [(.str []), (.int .i64 0), (.int .i64 0), (.int .i64 0)] [(0, 1, (.c (.s (.str [116, 97, 114, 103, 101, 116])))), (1, 1, (.t 60)), (2, 1, (.c (.s (.int .i64 1)))), (3, 1, (.c (.s (.int .i64 1))))], .none, 980622402068463⟩, ⟨(.some 62), .mv (.t 3), .none, 0⟩, ⟨(.some 63), .fld 11 (.t 1), .none, 0⟩, ⟨(.some 64), .ld false 1 (.t 63), .none, 4503599627370496⟩, ⟨(.some 65), .callv (.t 62) [(.t 64)], .none, 16743221097865199⟩, ⟨(.some 66), .build [(.str []), (.int .i64 0), (.int .i64 0), (.int .i64 0)] [(0, 1, (.c (.s (.str [116, 111, 108])))), (1, 1, (.t 65)), (2, 1, (.c (.s (.int .i64 0)))), (3, 1, (.c (.s (.int .i64 1000))))], .none, 34757619607347183⟩, ⟨(.some 67), .mv (.t 3), .none, 0⟩, ⟨(.some 68), .fld 12 (.t 1), .none, 0⟩, ⟨(.some 69), .ld false 1 (.t 68), .none, 144115188075855872⟩, ⟨(.some 70), .callv (.t 67) [(.t 69)], .none, 539160777872842735⟩, ⟨(.some 71), .build [(.str []), (.int .i64 0), (.int .i64 0), (.int .i64 0)] [(0, 1, (.c (.s (.str [109, 105, 110])))), (1, 1, (.t 70)), (2, 1, (.c (.s (.int .i64 1)))), (3, 1, (.c (.s (.int .i64 10000))))], .none, 1115621530176266223⟩, ⟨(.some 72), .mv (.t 3), .none, 0⟩, ⟨(.some 73), .fld 13 (.t 1), .none, 0⟩, ⟨(.some 74), .ld false 1 (.t 73), .none, 4611686018427387904⟩, ⟨(.some 75), .callv (.t 72) [(.t 74)], .none, 17256522594672123887⟩, ⟨(.some 76), .mv (.t 3), .none, 0⟩, ⟨(.some 77), .fld 12 (.t 1), .none, 0⟩, ⟨(.some 78), .ld false 1 (.t 77), .none, 73786976294838206464⟩, ⟨(.some 79), .callv (.t 76) [(.t 78)], .none, 293957683700315398127⟩, ⟨(.some 80), .build [(.str []), (.int .i64 0), (.int .i64 0), (.int .i64 0)] [(0, 1, (.c (.s (.str [109, 97, 120])))), (1, 1, (.t 75)), (2, 1, (.t 79)), (3, 1, (.c (.s (.int .i64 10000))))], .none, 589105588879668223983⟩, ⟨(.some 81), .mv (.t 3), .none, 0⟩, ⟨(.some 82), .fld 14 (.t 1), .none, 0⟩, ⟨(.some 83), .ld false 1 (.t 82), .none, 2361183241434822606848⟩, ⟨(.some 84), .callv (.t 81) [(.t 83)], .none, 8853246933901547347951⟩, ⟨(.some 85), .build [(.str []), (.int .i64 0), (.int .i64 0), (.int .i64 0)] [(0, 1, (.c (.s (.str [99, 97, 108, 109, 117, 112])))), (1, 1, (.t 84)), (2, 1, (.c (.s (.int .i64 0)))), (3, 1, (.c (.s (.int .i64 60))))], .none, 18297979899640837775343⟩, ⟨(.some 86), .mv (.t 3), .none, 0⟩, ⟨(.some 87), .fld 15 (.t 1), .none, 0⟩, ⟨(.some 88), .ld false 1 (.t 87), .none, 75557863725914323419136⟩, ⟨(.some 89), .callv (.t 86) [(.t 88)], .none, 282750502940340969742319⟩, ⟨(.some 90), .build [(.str []), (.int .i64 0), (.int .i64 0), (.int .i64 0)] [(0, 1, (.c (.s (.str [99, 97, 108, 109, 100, 111, 119, 110])))), (1, 1, (.t 89)), (2, 1, (.c (.s (.int .i64 0)))), (3, 1, (.c (.s (.int .i64 60))))], .none, 584981957843998263418863⟩, ⟨(.some 91), .mv (.t 3), .none, 0⟩, ⟨(.some 92), .fld 16 (.t 1), .none, 0⟩, ⟨(.some 93), .ld false 1 (.t 92), .none, 2417851639229258349412352⟩, ⟨(.some 94), .callv (.t 91) [(.t 93)], .none, 9047462695146402486362095⟩, ⟨(.some 95), .build [(.str []), (.int .i64 0), (.int .i64 0), (.int .i64 0)] [(0, 1, (.c (.s (.str [112, 111, 100, 115, 117, 112])))), (1, 1, (.t 94)), (2, 1, (.c (.s (.int .i64 1)))), (3, 1, (.c (.s (.int .i64 1000))))], .none, 18718869252063435884011503⟩, ⟨(.some 96), .mv (.t 3), .none, 0⟩, ⟨(.some 97), .fld 17 (.t 1), .none, 0⟩, ⟨(.some 98), .ld false 1 (.t 97), .none, 77371252455336267181195264⟩, ⟨(.some 99), .callv (.t 96) [(.t 98)], .none, 289518252845740371018194927⟩, ⟨(.some 100), .build [(.str []), (.int .i64 0), (.int .i64 0), (.int .i64 0)] [(0, 1, (.c (.s (.str [112, 99, 116, 117, 112])))), (1, 1, (.t 99)), (2, 1, (.c (.s (.int .i64 1)))), (3, 1, (.c (.s (.int .i64 1000))))], .none, 599003262667085439742975983⟩, ⟨(.some 101), .mv (.t 3), .none, 0⟩, ⟨(.some 102), .fld 18 (.t 1), .none, 0⟩, ⟨(.some 103), .ld false 1 (.t 102), .none, 2475880078570760549798248448⟩, ⟨(.some 104), .callv (.t 101) [(.t 103)], .none, 9264583537664747364036845551⟩, ⟨(.some 105), .build [(.str []), (.int .i64 0), (.int .i64 0), (.int .i64 0)] [(0, 1, (.c (.s (.str [112, 111, 100, 115, 100, 111, 119, 110])))), (1, 1, (.t 104)), (2, 1, (.c (.s (.int .i64 1)))), (3, 1, (.c (.s (.int .i64 1000))))], .none, 19168103851947789563229839343⟩, ⟨(.some 106), .mv (.t 3), .none, 0⟩, ⟨(.some 107), .fld 19 (.t 1), .none, 0⟩, ⟨(.some 108), .ld false 1 (.t 107), .none, 79228162514264337593543950336⟩, ⟨(.some 109), .callv (.t 106) [(.t 108)], .none, 296466672651872971140633665519⟩, ⟨(.some 110), .build [(.str []), (.int .i64 0), (.int .i64 0), (.int .i64 0)] [(0, 1, (.c (.s (.str [112, 99, 116, 100, 111, 119, 110])))), (1, 1, (.t 109)), (2, 1, (.c (.s (.int .i64 1)))), (3, 1, (.c (.s (.int .i64 100))))], .none, 613379322708930321514809466863⟩, ⟨(.some 111), .mv (.t 3), .none, 0⟩, ⟨(.some 112), .fld 20 (.t 1), .none, 0⟩, ⟨(.some 113), .ld false 1 (.t 112), .none, 2535301200456458802993406410752⟩, ⟨(.some 114), .callv (.t 111) [(.t 113)], .none, 9486933524306536131991731904495⟩, ⟨(.some 115), .build [(.str []), (.int .i64 0), (.int .i64 0), (.int .i64 0)] [(0, 1, (.c (.s (.str [112, 101, 114, 105, 111, 100])))), (1, 1, (.t 114)), (2, 1, (.c (.s (.int .i64 1)))), (3, 1, (.c (.s (.int .i64 60))))], .none, 19628138326132371343965357547503⟩, ⟨(.some 116), .fld 21 (.t 1), .none, 0⟩, ⟨(.some 117), .ld false 1 (.t 116), .none, 40564819207303340847894502572032⟩, ⟨(.some 118), .build [(.str []), (.int .i64 0), (.int .i64 0), (.int .i64 0)] [(0, 1, (.c (.s (.str [102, 97, 114])))), (1, 1, (.t 117)), (2, 1, (.c (.s (.int .i64 0)))), (3, 1, (.c (.s (.int .i64 1099511627776))))], .none, 121694457621910022543683507716096⟩, ⟨(.some 119), .mv (.t 3), .none, 0⟩, ⟨(.some 120), .fld 22 (.t 1), .none, 0⟩, ⟨(.some 121), .ld false 1 (.t 120), .none, 649037107316853453566312041152512⟩, ⟨(.some 122), .callv (.t 119) [(.t 121)], .none, 2291258013935119458826057501581295⟩, ⟨(.some 123), .build [(.str []), (.int .i64 0), (.int .i64 0), (.int .i64 0)] [(0, 1, (.c (.s (.str [115, 116, 114, 105, 107, 101, 115])))), (1, 1, (.t 122)), (2, 1, (.c (.s (.int .i64 1)))), (3, 1, (.c (.s (.int .i64 100))))], .none, 4887406443202533273091305666191343⟩, ⟨(.some 124), .mv (.t 3), .none, 0⟩, ⟨(.some 125), .fld 23 (.t 1), .none, 0⟩, ⟨(.some 126), .ld false 1 (.t 125), .none, 20769187434139310514121985316880384⟩, ⟨(.some 127), .callv (.t 124) [(.t 126)], .none, 77579562462690120072518254275272687⟩, ⟨(.some 128), .build [(.str []), (.int .i64 0), (.int .i64 0), (.int .i64 0)] [(0, 1, (.c (.s (.str [112, 114, 111, 98, 101])))), (1, 1, (.t 127)), (2, 1, (.c (.s (.int .i64 1)))), (3, 1, (.c (.s (.int .i64 100))))], .none, 160656312199247362129006195542794223⟩, ⟨(.some 129), .mv (.t 3), .none, 0⟩, ⟨(.some 130), .fld 24 (.t 1), .none, 0⟩, ⟨(.some 131), .ld false 1 (.t 130), .none, 664613997892457936451903530140172288⟩, ⟨(.some 132), .callv (.t 129) [(.t 131)], .none, 2486805304822850139710668551033397231⟩, ⟨(.some 133), .build [(.str []), (.int .i64 0), (.int .i64 0), (.int .i64 0)] [(0, 1, (.c (.s (.str [115, 101, 99, 116, 111, 114, 115])))), (1, 1, (.t 132)), (2, 1, (.c (.s (.int .i64 64)))), (3, 1, (.c (.s (.int .i64 4096))))], .none, 5145261296392681885518282671594086383⟩, ⟨(.some 134), .bslice 340 4 22 [(.str []), (.int .i64 0), (.int .i64 0), (.int .i64 0), (.str []), (.int .i64 0), (.int .i64 0), (.int .i64 0), (.str []), (.int .i64 0), (.int .i64 0), (.int .i64 0), (.str []), (.int .i64 0), (.int .i64 0), (.int .i64 0), (.str []), (.int .i64 0), (.int .i64 0), (.int .i64 0), (.str []), (.int .i64 0), (.int .i64 0), (.int .i64 0), (.str []), (.int .i64 0), (.int .i64 0), (.int .i64 0), (.str []), (.int .i64 0), (.int .i64 0), (.int .i64 0), (.str []), (.int .i64 0), (.int .i64 0), (.int .i64 0), (.str []), (.int .i64 0), (.int .i64 0), (.int .i64 0), (.str []), (.int .i64 0), (.int .i64 0), (.int .i64 0), (.str []), (.int .i64 0), (.int .i64 0), (.int .i64 0), (.str []), (.int .i64 0), (.int .i64 0), (.int .i64 0), (.str []), (.int .i64 0), (.int .i64 0), (.int .i64 0), (.str []), (.int .i64 0), (.int .i64 0), (.int .i64 0), (.str []), (.int .i64 0), (.int .i64 0), (.int .i64 0), (.str []), (.int .i64 0), (.int .i64 0), (.int .i64 0), (.str []), (.int .i64 0), (.int .i64 0), (.int .i64 0), (.str []), (.int .i64 0), (.int .i64 0), (.int .i64 0), (.str []), (.int .i64 0), (.int .i64 0), (.int .i64 0), (.str []), (.int .i64 0), (.int .i64 0), (.int .i64 0), (.str []), (.int .i64 0), (.int .i64 0), (.int .i64 0)] [(0, 4, (.t 15)), (4, 4, (.t 26)), (8, 4, (.t 31)), (12, 4, (.t 43)), (16, 4, (.t 48)), (20, 4, (.t 53)), (24, 4, (.t 58)), (28, 4, (.t 61)), (32, 4, (.t 66)), (36, 4, (.t 71)), (40, 4, (.t 80)), (44, 4, (.t 85)), (48, 4, (.t 90)), (52, 4, (.t 95)), (56, 4, (.t 100)), (60, 4, (.t 105)), (64, 4, (.t 110)), (68, 4, (.t 115)), (72, 4, (.t 118)), (76, 4, (.t 123)), (80, 4, (.t 128)), (84, 4, (.t 133))], .none, 10633823966279326983230456482242756607⟩, ⟨(.some 2), .mv (.t 134), .none, 21267647932558653966460912964485513215⟩] []
/-- quorumite/conf.parts -/
def d208 : Df := ⟨8, [.t 2], (.seq d208r0 (.seq d208r1 (.seq d208r2 (.seq d208r3 .ret))))⟩
noncomputable def g208 (fx : Fx) (cl : Cl) (a0 : AV) (h0 : H) : R :=
  obh (mkv (.box 27 (.c a0)) h0) fun v0 h1 =>
  F.ob (fld 1 v0) fun v1 =>
  F.ob (ld false 1 v1 h1) fun v2 =>
  F.ob (pv (.mx [.c v2, .c (.s (.int .i64 0))])) fun v3 =>
  F.ob (pv (.mn [.c v3, .c (.s (.int .i64 16))])) fun v4 =>
  obh (callv cl (.s (.fn 289 [] [])) [v4] h1) fun v5 h2 =>
  F.ob (fld 0 v0) fun v6 =>
  F.ob (rdd (.ld false 1 (.c v6)) [] h2) fun v7 =>
  obh (callv cl (.s (.fn 289 [] [])) [v7] h2) fun v8 h3 =>
  F.ob (pv (.build [(.str []), (.int .i64 0), (.int .i64 0), (.int .i64 0)] [(0, 1, .c (.s (.str [110]))), (1, 1, .c v8), (2, 1, .c (.s (.int .i64 1))), (3, 1, .c (.s (.int .i64 16)))])) fun v9 =>
  F.ob (fld 1 v0) fun v10 =>
  F.ob (rdd (.ld false 1 (.c v10)) [(3, h2)] h3) fun v11 =>
  obh (callv cl (.s (.fn 289 [] [])) [v11] h3) fun v12 h4 =>
  F.ob (fld 0 v0) fun v13 =>
  F.ob (rdd (.ld false 1 (.c v13)) [(8, h3), (3, h2)] h4) fun v14 =>
  obh (callv cl (.s (.fn 289 [] [])) [v14] h4) fun v15 h5 =>
  F.ob (F.bin .sub v15 (.s (.int .i64 1))) fun v16 =>
  F.ob (F.bin .quo v16 (.s (.int .i64 3))) fun v17 =>
  F.ob (pv (.build [(.str []), (.int .i64 0), (.int .i64 0), (.int .i64 0)] [(0, 1, .c (.s (.str [102]))), (1, 1, .c v12), (2, 1, .c (.s (.int .i64 0))), (3, 1, .c v17)])) fun v18 =>
  F.ob (fld 2 v0) fun v19 =>
  F.ob (rdd (.ld false 1 (.c v19)) [(12, h4), (8, h3), (3, h2)] h5) fun v20 =>
  obh (callv cl (.s (.fn 289 [] [])) [v20] h5) fun v21 h6 =>
  F.ob (pv (.build [(.str []), (.int .i64 0), (.int .i64 0), (.int .i64 0)] [(0, 1, .c (.s (.str [109]))), (1, 1, .c v21), (2, 1, .c (.s (.int .i64 1))), (3, 1, .c (.s (.int .i64 4)))])) fun v22 =>
  F.ob (fld 3 v0) fun v23 =>
  F.ob (rdd (.ld false 1 (.c v23)) [(19, h5), (12, h4), (8, h3), (3, h2)] h6) fun v24 =>
  obh (callv cl (.s (.fn 289 [] [])) [v24] h6) fun v25 h7 =>
  F.ob (F.bin .mul (.s (.int .i64 2)) v5) fun v26 =>
  F.ob (F.bin .add v26 (.s (.int .i64 1))) fun v27 =>
  F.ob (fld 0 v0) fun v28 =>
  F.ob (rdd (.ld false 1 (.c v28)) [(24, h6), (19, h5), (12, h4), (8, h3), (3, h2)] h7) fun v29 =>
  obh (callv cl (.s (.fn 289 [] [])) [v29] h7) fun v30 h8 =>
  F.ob (pv (.build [(.str []), (.int .i64 0), (.int .i64 0), (.int .i64 0)] [(0, 1, .c (.s (.str [113, 117, 111, 114, 117, 109]))), (1, 1, .c v25), (2, 1, .c v27), (3, 1, .c v30)])) fun v31 =>
  F.ob (fld 4 v0) fun v32 =>
  F.ob (rdd (.ld false 1 (.c v32)) [(31, h7), (24, h6), (19, h5), (12, h4), (8, h3), (3, h2)] h8) fun v33 =>
  obh (callv cl (.s (.fn 289 [] [])) [v33] h8) fun v34 h9 =>
  F.ob (pv (.build [(.str []), (.int .i64 0), (.int .i64 0), (.int .i64 0)] [(0, 1, .c (.s (.str [102, 114, 101, 115, 104]))), (1, 1, .c v34), (2, 1, .c (.s (.int .i64 1))), (3, 1, .c (.s (.int .i64 8)))])) fun v35 =>
  F.ob (fld 5 v0) fun v36 =>
  F.ob (rdd (.ld false 1 (.c v36)) [(36, h8), (31, h7), (24, h6), (19, h5), (12, h4), (8, h3), (3, h2)] h9) fun v37 =>
  obh (callv cl (.s (.fn 289 [] [])) [v37] h9) fun v38 h10 =>
  F.ob (pv (.build [(.str []), (.int .i64 0), (.int .i64 0), (.int .i64 0)] [(0, 1, .c (.s (.str [103, 114, 97, 99, 101]))), (1, 1, .c v38), (2, 1, .c (.s (.int .i64 1))), (3, 1, .c (.s (.int .i64 100)))])) fun v39 =>
  F.ob (fld 6 v0) fun v40 =>
  F.ob (rdd (.ld false 1 (.c v40)) [(41, h9), (36, h8), (31, h7), (24, h6), (19, h5), (12, h4), (8, h3), (3, h2)] h10) fun v41 =>
  obh (callv cl (.s (.fn 289 [] [])) [v41] h10) fun v42 h11 =>
  F.ob (pv (.build [(.str []), (.int .i64 0), (.int .i64 0), (.int .i64 0)] [(0, 1, .c (.s (.str [119, 105, 110, 100, 111, 119]))), (1, 1, .c v42), (2, 1, .c (.s (.int .i64 1))), (3, 1, .c (.s (.int .i64 64)))])) fun v43 =>
  F.ob (rdd (.ld true 26 (.c v0)) [(46, h10), (41, h9), (36, h8), (31, h7), (24, h6), (19, h5), (12, h4), (8, h3), (3, h2)] h11) fun v44 =>
  obh (cl 290 [v44] h11) fun v45 h12 =>
  F.ob (pv (.build [(.str []), (.int .i64 0), (.int .i64 0), (.int .i64 0)] [(0, 1, .c (.s (.str [116, 97, 114, 103, 101, 116]))), (1, 1, .c v45), (2, 1, .c (.s (.int .i64 1))), (3, 1, .c (.s (.int .i64 1)))])) fun v46 =>
  F.ob (fld 11 v0) fun v47 =>
  F.ob (rdd (.ld false 1 (.c v47)) [(49, h11), (46, h10), (41, h9), (36, h8), (31, h7), (24, h6), (19, h5), (12, h4), (8, h3), (3, h2)] h12) fun v48 =>
  obh (callv cl (.s (.fn 289 [] [])) [v48] h12) fun v49 h13 =>
  F.ob (pv (.build [(.str []), (.int .i64 0), (.int .i64 0), (.int .i64 0)] [(0, 1, .c (.s (.str [116, 111, 108]))), (1, 1, .c v49), (2, 1, .c (.s (.int .i64 0))), (3, 1, .c (.s (.int .i64 1000)))])) fun v50 =>
  F.ob (fld 12 v0) fun v51 =>
  F.ob (rdd (.ld false 1 (.c v51)) [(54, h12), (49, h11), (46, h10), (41, h9), (36, h8), (31, h7), (24, h6), (19, h5), (12, h4), (8, h3), (3, h2)] h13) fun v52 =>
  obh (callv cl (.s (.fn 289 [] [])) [v52] h13) fun v53 h14 =>
  F.ob (pv (.build [(.str []), (.int .i64 0), (.int .i64 0), (.int .i64 0)] [(0, 1, .c (.s (.str [109, 105, 110]))), (1, 1, .c v53), (2, 1, .c (.s (.int .i64 1))), (3, 1, .c (.s (.int .i64 10000)))])) fun v54 =>
  F.ob (fld 13 v0) fun v55 =>
  F.ob (rdd (.ld false 1 (.c v55)) [(59, h13), (54, h12), (49, h11), (46, h10), (41, h9), (36, h8), (31, h7), (24, h6), (19, h5), (12, h4), (8, h3), (3, h2)] h14) fun v56 =>
  obh (callv cl (.s (.fn 289 [] [])) [v56] h14) fun v57 h15 =>
  F.ob (fld 12 v0) fun v58 =>
  F.ob (rdd (.ld false 1 (.c v58)) [(64, h14), (59, h13), (54, h12), (49, h11), (46, h10), (41, h9), (36, h8), (31, h7), (24, h6), (19, h5), (12, h4), (8, h3), (3, h2)] h15) fun v59 =>
  obh (callv cl (.s (.fn 289 [] [])) [v59] h15) fun v60 h16 =>
  F.ob (pv (.build [(.str []), (.int .i64 0), (.int .i64 0), (.int .i64 0)] [(0, 1, .c (.s (.str [109, 97, 120]))), (1, 1, .c v57), (2, 1, .c v60), (3, 1, .c (.s (.int .i64 10000)))])) fun v61 =>
  F.ob (fld 14 v0) fun v62 =>
  F.ob (rdd (.ld false 1 (.c v62)) [(68, h15), (64, h14), (59, h13), (54, h12), (49, h11), (46, h10), (41, h9), (36, h8), (31, h7), (24, h6), (19, h5), (12, h4), (8, h3), (3, h2)] h16) fun v63 =>
  obh (callv cl (.s (.fn 289 [] [])) [v63] h16) fun v64 h17 =>
  F.ob (pv (.build [(.str []), (.int .i64 0), (.int .i64 0), (.int .i64 0)] [(0, 1, .c (.s (.str [99, 97, 108, 109, 117, 112]))), (1, 1, .c v64), (2, 1, .c (.s (.int .i64 0))), (3, 1, .c (.s (.int .i64 60)))])) fun v65 =>
  F.ob (fld 15 v0) fun v66 =>
  F.ob (rdd (.ld false 1 (.c v66)) [(73, h16), (68, h15), (64, h14), (59, h13), (54, h12), (49, h11), (46, h10), (41, h9), (36, h8), (31, h7), (24, h6), (19, h5), (12, h4), (8, h3), (3, h2)] h17) fun v67 =>
  obh (callv cl (.s (.fn 289 [] [])) [v67] h17) fun v68 h18 =>
  F.ob (pv (.build [(.str []), (.int .i64 0), (.int .i64 0), (.int .i64 0)] [(0, 1, .c (.s (.str [99, 97, 108, 109, 100, 111, 119, 110]))), (1, 1, .c v68), (2, 1, .c (.s (.int .i64 0))), (3, 1, .c (.s (.int .i64 60)))])) fun v69 =>
  F.ob (fld 16 v0) fun v70 =>
  F.ob (rdd (.ld false 1 (.c v70)) [(78, h17), (73, h16), (68, h15), (64, h14), (59, h13), (54, h12), (49, h11), (46, h10), (41, h9), (36, h8), (31, h7), (24, h6), (19, h5), (12, h4), (8, h3), (3, h2)] h18) fun v71 =>
  obh (callv cl (.s (.fn 289 [] [])) [v71] h18) fun v72 h19 =>
  F.ob (pv (.build [(.str []), (.int .i64 0), (.int .i64 0), (.int .i64 0)] [(0, 1, .c (.s (.str [112, 111, 100, 115, 117, 112]))), (1, 1, .c v72), (2, 1, .c (.s (.int .i64 1))), (3, 1, .c (.s (.int .i64 1000)))])) fun v73 =>
  F.ob (fld 17 v0) fun v74 =>
  F.ob (rdd (.ld false 1 (.c v74)) [(83, h18), (78, h17), (73, h16), (68, h15), (64, h14), (59, h13), (54, h12), (49, h11), (46, h10), (41, h9), (36, h8), (31, h7), (24, h6), (19, h5), (12, h4), (8, h3), (3, h2)] h19) fun v75 =>
  obh (callv cl (.s (.fn 289 [] [])) [v75] h19) fun v76 h20 =>
  F.ob (pv (.build [(.str []), (.int .i64 0), (.int .i64 0), (.int .i64 0)] [(0, 1, .c (.s (.str [112, 99, 116, 117, 112]))), (1, 1, .c v76), (2, 1, .c (.s (.int .i64 1))), (3, 1, .c (.s (.int .i64 1000)))])) fun v77 =>
  F.ob (fld 18 v0) fun v78 =>
  F.ob (rdd (.ld false 1 (.c v78)) [(88, h19), (83, h18), (78, h17), (73, h16), (68, h15), (64, h14), (59, h13), (54, h12), (49, h11), (46, h10), (41, h9), (36, h8), (31, h7), (24, h6), (19, h5), (12, h4), (8, h3), (3, h2)] h20) fun v79 =>
  obh (callv cl (.s (.fn 289 [] [])) [v79] h20) fun v80 h21 =>
  F.ob (pv (.build [(.str []), (.int .i64 0), (.int .i64 0), (.int .i64 0)] [(0, 1, .c (.s (.str [112, 111, 100, 115, 100, 111, 119, 110]))), (1, 1, .c v80), (2, 1, .c (.s (.int .i64 1))), (3, 1, .c (.s (.int .i64 1000)))])) fun v81 =>
  F.ob (fld 19 v0) fun v82 =>
  F.ob (rdd (.ld false 1 (.c v82)) [(93, h20), (88, h19), (83, h18), (78, h17), (73, h16), (68, h15), (64, h14), (59, h13), (54, h12), (49, h11), (46, h10), (41, h9), (36, h8), (31, h7), (24, h6), (19, h5), (12, h4), (8, h3), (3, h2)] h21) fun v83 =>
  obh (callv cl (.s (.fn 289 [] [])) [v83] h21) fun v84 h22 =>
  F.ob (pv (.build [(.str []), (.int .i64 0), (.int .i64 0), (.int .i64 0)] [(0, 1, .c (.s (.str [112, 99, 116, 100, 111, 119, 110]))), (1, 1, .c v84), (2, 1, .c (.s (.int .i64 1))), (3, 1, .c (.s (.int .i64 100)))])) fun v85 =>
  F.ob (fld 20 v0) fun v86 =>
  F.ob (rdd (.ld false 1 (.c v86)) [(98, h21), (93, h20), (88, h19), (83, h18), (78, h17), (73, h16), (68, h15), (64, h14), (59, h13), (54, h12), (49, h11), (46, h10), (41, h9), (36, h8), (31, h7), (24, h6), (19, h5), (12, h4), (8, h3), (3, h2)] h22) fun v87 =>
  obh (callv cl (.s (.fn 289 [] [])) [v87] h22) fun v88 h23 =>
  F.ob (pv (.build [(.str []), (.int .i64 0), (.int .i64 0), (.int .i64 0)] [(0, 1, .c (.s (.str [112, 101, 114, 105, 111, 100]))), (1, 1, .c v88), (2, 1, .c (.s (.int .i64 1))), (3, 1, .c (.s (.int .i64 60)))])) fun v89 =>
  F.ob (fld 21 v0) fun v90 =>
  F.ob (rdd (.ld false 1 (.c v90)) [(103, h22), (98, h21), (93, h20), (88, h19), (83, h18), (78, h17), (73, h16), (68, h15), (64, h14), (59, h13), (54, h12), (49, h11), (46, h10), (41, h9), (36, h8), (31, h7), (24, h6), (19, h5), (12, h4), (8, h3), (3, h2)] h23) fun v91 =>
  F.ob (pv (.build [(.str []), (.int .i64 0), (.int .i64 0), (.int .i64 0)] [(0, 1, .c (.s (.str [102, 97, 114]))), (1, 1, .c v91), (2, 1, .c (.s (.int .i64 0))), (3, 1, .c (.s (.int .i64 1099511627776)))])) fun v92 =>
  F.ob (fld 22 v0) fun v93 =>
  F.ob (rdd (.ld false 1 (.c v93)) [(103, h22), (98, h21), (93, h20), (88, h19), (83, h18), (78, h17), (73, h16), (68, h15), (64, h14), (59, h13), (54, h12), (49, h11), (46, h10), (41, h9), (36, h8), (31, h7), (24, h6), (19, h5), (12, h4), (8, h3), (3, h2)] h23) fun v94 =>
  obh (chk Prod.snd [⟨none, .ld false 1 (.c v90), v91, 106⟩] (callv cl (.s (.fn 289 [] [])) [v94] h23)) fun v95 h24 =>
  F.ob (pv (.build [(.str []), (.int .i64 0), (.int .i64 0), (.int .i64 0)] [(0, 1, .c (.s (.str [115, 116, 114, 105, 107, 101, 115]))), (1, 1, .c v95), (2, 1, .c (.s (.int .i64 1))), (3, 1, .c (.s (.int .i64 100)))])) fun v96 =>
  F.ob (fld 23 v0) fun v97 =>
  F.ob (rdd (.ld false 1 (.c v97)) [(111, h23), (103, h22), (98, h21), (93, h20), (88, h19), (83, h18), (78, h17), (73, h16), (68, h15), (64, h14), (59, h13), (54, h12), (49, h11), (46, h10), (41, h9), (36, h8), (31, h7), (24, h6), (19, h5), (12, h4), (8, h3), (3, h2)] h24) fun v98 =>
  obh (chk Prod.snd [⟨none, .ld false 1 (.c v90), v91, 106⟩] (callv cl (.s (.fn 289 [] [])) [v98] h24)) fun v99 h25 =>
  F.ob (pv (.build [(.str []), (.int .i64 0), (.int .i64 0), (.int .i64 0)] [(0, 1, .c (.s (.str [112, 114, 111, 98, 101]))), (1, 1, .c v99), (2, 1, .c (.s (.int .i64 1))), (3, 1, .c (.s (.int .i64 100)))])) fun v100 =>
  F.ob (fld 24 v0) fun v101 =>
  F.ob (rdd (.ld false 1 (.c v101)) [(116, h24), (111, h23), (103, h22), (98, h21), (93, h20), (88, h19), (83, h18), (78, h17), (73, h16), (68, h15), (64, h14), (59, h13), (54, h12), (49, h11), (46, h10), (41, h9), (36, h8), (31, h7), (24, h6), (19, h5), (12, h4), (8, h3), (3, h2)] h25) fun v102 =>
  obh (chk Prod.snd [⟨none, .ld false 1 (.c v90), v91, 106⟩] (callv cl (.s (.fn 289 [] [])) [v102] h25)) fun v103 h26 =>
  F.ob (pv (.build [(.str []), (.int .i64 0), (.int .i64 0), (.int .i64 0)] [(0, 1, .c (.s (.str [115, 101, 99, 116, 111, 114, 115]))), (1, 1, .c v103), (2, 1, .c (.s (.int .i64 64))), (3, 1, .c (.s (.int .i64 4096)))])) fun v104 =>
  obh (mkv (.bslice 340 4 22 [(.str []), (.int .i64 0), (.int .i64 0), (.int .i64 0), (.str []), (.int .i64 0), (.int .i64 0), (.int .i64 0), (.str []), (.int .i64 0), (.int .i64 0), (.int .i64 0), (.str []), (.int .i64 0), (.int .i64 0), (.int .i64 0), (.str []), (.int .i64 0), (.int .i64 0), (.int .i64 0), (.str []), (.int .i64 0), (.int .i64 0), (.int .i64 0), (.str []), (.int .i64 0), (.int .i64 0), (.int .i64 0), (.str []), (.int .i64 0), (.int .i64 0), (.int .i64 0), (.str []), (.int .i64 0), (.int .i64 0), (.int .i64 0), (.str []), (.int .i64 0), (.int .i64 0), (.int .i64 0), (.str []), (.int .i64 0), (.int .i64 0), (.int .i64 0), (.str []), (.int .i64 0), (.int .i64 0), (.int .i64 0), (.str []), (.int .i64 0), (.int .i64 0), (.int .i64 0), (.str []), (.int .i64 0), (.int .i64 0), (.int .i64 0), (.str []), (.int .i64 0), (.int .i64 0), (.int .i64 0), (.str []), (.int .i64 0), (.int .i64 0), (.int .i64 0), (.str []), (.int .i64 0), (.int .i64 0), (.int .i64 0), (.str []), (.int .i64 0), (.int .i64 0), (.int .i64 0), (.str []), (.int .i64 0), (.int .i64 0), (.int .i64 0), (.str []), (.int .i64 0), (.int .i64 0), (.int .i64 0), (.str []), (.int .i64 0), (.int .i64 0), (.int .i64 0), (.str []), (.int .i64 0), (.int .i64 0), (.int .i64 0)] [(0, 4, .c v9), (4, 4, .c v18), (8, 4, .c v22), (12, 4, .c v31), (16, 4, .c v35), (20, 4, .c v39), (24, 4, .c v43), (28, 4, .c v46), (32, 4, .c v50), (36, 4, .c v54), (40, 4, .c v61), (44, 4, .c v65), (48, 4, .c v69), (52, 4, .c v73), (56, 4, .c v77), (60, 4, .c v81), (64, 4, .c v85), (68, 4, .c v89), (72, 4, .c v92), (76, 4, .c v96), (80, 4, .c v100), (84, 4, .c v104)]) h26) fun v105 h27 =>
  out [v105] h27
theorem e208 : (fun (fx : Fx) (cl : Cl) (a0 : AV) (h0 : H) => denF fx cl d208 [a0] h0) = g208 := by kernel_rfl
def d126r0 : D := .reg false [⟨(.some 1), .box 27 (.t 0), .none, 0⟩, ⟨(.some 2), .mv (.c (.s (.str []))), .none, 0⟩] []
def d126r1 : D := .reg false [⟨(.some 5), .ld true 26 (.t 1), .none, 0⟩, ⟨(.some 6), .call 208 [(.t 5)], .none, 0⟩, ⟨(.some 7), .len (.sl 0) (.t 6), .none, 0⟩, ⟨(.some 8), .mv (.c (.s (.int .i64 0))), .none, 0⟩] []
def d126r2 : D := .reg false [⟨(.some 9), .bin .lss (.t 8) (.t 7), .none, 0⟩] []
def d126r3 : D := .reg false [⟨(.some 10), .idxa (.sl 4) (.t 6) (.t 8), .none, 0⟩, ⟨(.some 11), .ld true 4 (.t 10), .none, 0⟩, ⟨(.some 4), .alloc 340 [(.str []), (.int .i64 0), (.int .i64 0), (.int .i64 0)], .none, 0⟩, ⟨.none, .st 4 (.t 4) (.t 11), .none, 0⟩] []
def d126r4 : D := .reg false [⟨(.some 12), .fld 1 (.t 4), .none, 0⟩, ⟨(.some 13), .ld false 1 (.t 12), .none, 0⟩, ⟨(.some 14), .fld 2 (.t 4), .none, 0⟩, ⟨(.some 15), .ld false 1 (.t 14), .none, 0⟩, ⟨(.some 16), .bin .lss (.t 13) (.t 15), .none, 0⟩, ⟨(.some 17), .mv (.t 16), .none, 0⟩, ⟨(.some 18), .fld 1 (.t 4), (.some (17, false)), 0⟩, ⟨(.some 19), .ld false 1 (.t 18), (.some (17, false)), 0⟩, ⟨(.some 20), .fld 3 (.t 4), (.some (17, false)), 0⟩, ⟨(.some 21), .ld false 1 (.t 20), (.some (17, false)), 0⟩, ⟨(.some 22), .bin .gtr (.t 19) (.t 21), (.some (17, false)), 0⟩, ⟨(.some 23), .pick (.t 17) (.c (.s (.bool true))) (.t 22), .none, 0⟩] []
def d126r5 : D := .reg false [⟨(.some 24), .fld 0 (.t 4), .none, 0⟩, ⟨(.some 25), .ld false 1 (.t 24), .none, 0⟩, ⟨(.some 2), .mv (.t 25), .none, 0⟩] []
def d126r6 : D := .reg false [⟨(.some 26), .bin .add (.t 8) (.c (.s (.int .i64 1))), .none, 0⟩, ⟨(.some 8), .mv (.t 26), .none, 0⟩] []
def d126r7 : D := .reg false [⟨(.some 2), .mv (.c (.s (.str []))), .none, 0⟩] []
/-- quorumite/conf.Wrong -/
def d126 : Df := ⟨5, [.t 2], (.seq d126r0 (.seq (.seq d126r1 (.blk (.some []) 0 (.loop [8] (.seq d126r2 (.seq (.cond .none (.t 9) .skip (.exit 0)) (.seq (.blk .none 1 (.seq d126r3 (.seq d126r4 (.cond .none (.t 23) (.seq d126r5 .ret) .skip)))) d126r6)))))) (.seq d126r7 .ret)))⟩
noncomputable def g126 (fx : Fx) (cl : Cl) (a0 : AV) (h0 : H) : R :=
  obh (mkv (.box 27 (.c a0)) h0) fun v0 h1 =>
  F.ob (ld true 26 v0 h1) fun v1 =>
  obh (cl 208 [v1] h1) fun v2 h2 =>
  F.ob (pv (.len (.sl 0) (.c v2))) fun v3 =>
  letJ (fun (p0 : Unit) h3 =>
  out [(.s (.str []))] h3) fun j0 =>
  fx AV (fun (r1 : AV → H → R) (p1 : AV) h4 =>
  F.ob (F.bin .lss p1 v3) fun v4 =>
  cnd v4 (
  F.ob (idxa (.sl 4) v2 p1) fun v5 =>
  F.ob (ld true 4 v5 h4) fun v6 =>
  obh (mkv (.alloc 340 [(.str []), (.int .i64 0), (.int .i64 0), (.int .i64 0)]) h4) fun v7 h5 =>
  F.ob (st 4 v7 v6 h5) fun h6 =>
  F.ob (fld 1 v7) fun v8 =>
  F.ob (ld false 1 v8 h6) fun v9 =>
  F.ob (fld 2 v7) fun v10 =>
  F.ob (ld false 1 v10 h6) fun v11 =>
  F.ob (F.bin .lss v9 v11) fun v12 =>
  F.ob (gd v12 false (fld 1 v7) (some nought)) fun v13 =>
  F.ob (gd v12 false (ld false 1 v13 h6) (some nought)) fun v14 =>
  F.ob (gd v12 false (fld 3 v7) (some nought)) fun v15 =>
  F.ob (gd v12 false (ld false 1 v15 h6) (some nought)) fun v16 =>
  F.ob (gd v12 false (F.bin .gtr v14 v16) (some nought)) fun v17 =>
  F.ob (pv (.pick (.c v12) (.c (.s (.bool true))) (.c v17))) fun v18 =>
  cnd v18 (
  F.ob (fld 0 v7) fun v19 =>
  F.ob (ld false 1 v19 h6) fun v20 =>
  out [v20] h6) (
  F.ob (F.bin .add p1 (.s (.int .i64 1))) fun v21 =>
  r1 v21 h6)) (
  j0 () h4)) (.s (.int .i64 0)) h2
theorem e126 : (fun (fx : Fx) (cl : Cl) (a0 : AV) (h0 : H) => denF fx cl d126 [a0] h0) = g126 := by kernel_rfl
def d52r0 : D := .reg false [⟨(.some 1), .box 27 (.t 0), .none, 0⟩, ⟨(.some 2), .mv (.c (.s (.bool false))), .none, 0⟩] []
def d52r1 : D := .reg false [⟨(.some 3), .ld true 26 (.t 1), .none, 0⟩, ⟨(.some 4), .call 126 [(.t 3)], .none, 0⟩, ⟨(.some 5), .bin .eql (.t 4) (.c (.s (.str []))), .none, 0⟩, ⟨(.some 2), .mv (.t 5), .none, 0⟩] []
/-- quorumite/conf.May -/
def d52 : Df := ⟨3, [.t 2], (.seq d52r0 (.seq d52r1 .ret))⟩
noncomputable def g52 (fx : Fx) (cl : Cl) (a0 : AV) (h0 : H) : R :=
  obh (mkv (.box 27 (.c a0)) h0) fun v0 h1 =>
  F.ob (ld true 26 v0 h1) fun v1 =>
  obh (cl 126 [v1] h1) fun v2 h2 =>
  F.ob (F.bin .eql v2 (.s (.str []))) fun v3 =>
  out [v3] h2
theorem e52 : (fun (fx : Fx) (cl : Cl) (a0 : AV) (h0 : H) => denF fx cl d52 [a0] h0) = g52 := by kernel_rfl
def d34r0 : D := .reg false [⟨(.some 2), .box 27 (.t 0), .none, 0⟩, ⟨(.some 4), .mv (.c (.s (.ptr .none))), .none, 0⟩, ⟨(.some 5), .mv (.c (.s (.int .i64 0))), .none, 0⟩] []
def d34r1 : D := .reg true [⟨(.some 11), .ld true 26 (.t 2), .none, 0⟩, ⟨(.some 12), .call 52 [(.t 11)], .none, 1⟩, ⟨(.some 13), .un .not (.t 12), .none, 3⟩, ⟨(.some 14), .mv (.t 13), .none, 7⟩, ⟨(.some 15), .mv (.t 1), (.some (14, false)), 15⟩, ⟨(.some 16), .call 81 [(.t 15)], (.some (14, false)), 31⟩, ⟨(.some 17), .fld 24 (.t 2), (.some (14, false)), 15⟩, ⟨(.some 18), .ld false 1 (.t 17), (.some (14, false)), 79⟩, ⟨(.some 19), .bin .neq (.t 16) (.t 18), (.some (14, false)), 255⟩, ⟨(.some 20), .pick (.t 14) (.c (.s (.bool true))) (.t 19), .none, 511⟩] []
def d34r2 : D := .reg false [⟨(.some 4), .mv (.c (.s (.ptr .none))), .none, 0⟩, ⟨(.some 5), .mv (.c (.s (.int .i64 1))), .none, 0⟩] []
def d34r3 : D := .reg false [⟨(.some 22), .ld true 26 (.t 2), .none, 0⟩, ⟨(.some 23), .mv (.t 1), .none, 0⟩, ⟨(.some 24), .call 82 [(.t 22), (.t 23)], .none, 0⟩, ⟨(.some 21), .mv (.t 24), .none, 0⟩, ⟨(.some 25), .ext (.t 21) 0, .none, 0⟩, ⟨(.some 26), .ext (.t 21) 1, .none, 0⟩, ⟨(.some 6), .mv (.t 25), .none, 0⟩, ⟨(.some 7), .mv (.t 26), .none, 0⟩] []
def d34r4 : D := .reg false [⟨(.some 27), .mv (.t 7), .none, 0⟩, ⟨(.some 28), .bin .neq (.t 27) (.c (.s (.int .i64 0))), .none, 0⟩] []
def d34r5 : D := .reg false [⟨(.some 29), .mv (.t 7), .none, 0⟩, ⟨(.some 4), .mv (.c (.s (.ptr .none))), .none, 0⟩, ⟨(.some 5), .mv (.t 29), .none, 0⟩] []
def d34r6 : D := .reg false [⟨(.some 30), .ld true 26 (.t 2), .none, 0⟩, ⟨(.some 31), .mv (.t 1), .none, 0⟩, ⟨(.some 32), .build [(.int .i64 0), (.int .i64 0), (.int .i64 0), (.int .i64 0), (.int .i64 0), (.int .i64 0), (.int .i64 0), (.int .i64 0), (.int .i64 0), (.int .i64 0), (.int .i64 0), (.int .i64 0), (.int .i64 0), (.int .i64 0), (.int .i64 0), (.int .i64 0), (.int .i64 0), (.int .i64 0), (.int .i64 0), (.int .i64 0), (.int .i64 0), (.int .i64 0), (.int .i64 0), (.int .i64 0), (.int .i64 0), (.int .u64 0), (.ptr .none), (.ptr .none), (.int .u32 0), (.int .i64 0), (.bool false), (.int .i64 0)] [(0, 26, (.t 30)), (26, 1, (.t 31))], .none, 0⟩, ⟨(.some 33), .box 173 (.t 32), .none, 0⟩, ⟨(.some 8), .mv (.t 33), .none, 0⟩] []
def d34r7 : D := .reg false [⟨(.some 34), .mv (.t 6), .none, 0⟩, ⟨(.some 35), .eqv .ptr false (.t 34) (.c (.s (.ptr .none))), .none, 0⟩] []
def d34r8 : D := .reg false [⟨(.some 36), .mv (.t 8), .none, 0⟩, ⟨(.some 37), .ld true 26 (.t 2), .none, 0⟩, ⟨(.some 38), .call 83 [(.t 37)], .none, 0⟩, ⟨(.some 39), .nilck (.t 36), .none, 0⟩, ⟨(.some 40), .fld 27 (.t 39), .none, 0⟩, ⟨.none, .st 1 (.t 40) (.t 38), .none, 0⟩] []
def d34r9 : D := .reg false [⟨(.some 41), .mv (.t 8), .none, 0⟩, ⟨(.some 42), .call 84 [(.t 41)], .none, 0⟩, ⟨(.some 9), .mv (.t 42), .none, 0⟩] []
def d34r10 : D := .reg false [⟨(.some 43), .mv (.t 9), .none, 0⟩, ⟨(.some 44), .bin .neq (.t 43) (.c (.s (.int .i64 0))), .none, 0⟩] []
def d34r11 : D := .reg false [⟨(.some 45), .mv (.t 9), .none, 0⟩, ⟨(.some 4), .mv (.c (.s (.ptr .none))), .none, 0⟩, ⟨(.some 5), .mv (.t 45), .none, 0⟩] []
def d34r12 : D := .reg false [⟨(.some 46), .mv (.t 8), .none, 0⟩, ⟨(.some 4), .mv (.t 46), .none, 0⟩, ⟨(.some 5), .mv (.c (.s (.int .i64 0))), .none, 0⟩] []
def d34r13 : D := .reg true [⟨(.some 48), .mv (.t 8), .none, 0⟩, ⟨(.some 49), .ld true 26 (.t 2), .none, 0⟩, ⟨(.some 50), .mv (.t 6), .none, 0⟩, ⟨(.some 51), .nilck (.t 50), .none, 4⟩, ⟨(.some 52), .fld 28 (.t 51), .none, 12⟩, ⟨(.some 53), .ld false 1 (.t 52), .none, 28⟩, ⟨(.some 54), .call 49 [(.t 49), (.t 53)], .none, 62⟩, ⟨(.some 47), .mv (.t 54), .none, 126⟩, ⟨(.some 55), .ext (.t 47) 0, .none, 254⟩, ⟨(.some 56), .ext (.t 47) 1, .none, 254⟩, ⟨(.some 57), .nilck (.t 48), .none, 511⟩, ⟨(.some 58), .fld 27 (.t 57), .none, 1535⟩, ⟨.none, .st 1 (.t 58) (.t 55), .none, 3583⟩, ⟨(.some 7), .mv (.t 56), .none, 8191⟩] []
def d34r14 : D := .reg false [⟨(.some 59), .mv (.t 7), .none, 0⟩, ⟨(.some 60), .bin .neq (.t 59) (.c (.s (.int .i64 0))), .none, 0⟩] []
def d34r15 : D := .reg false [⟨(.some 4), .mv (.c (.s (.ptr .none))), .none, 0⟩, ⟨(.some 5), .mv (.c (.s (.int .i64 12))), .none, 0⟩] []
def d34r16 : D := .reg false [⟨(.some 61), .mv (.t 6), .none, 0⟩, ⟨(.some 62), .mv (.t 8), .none, 0⟩, ⟨(.some 63), .nilck (.t 62), .none, 0⟩, ⟨(.some 64), .fld 27 (.t 63), .none, 0⟩, ⟨(.some 65), .ld false 1 (.t 64), .none, 0⟩, ⟨(.some 66), .call 85 [(.t 61), (.t 65)], .none, 0⟩, ⟨(.some 10), .mv (.t 66), .none, 0⟩] []
def d34r17 : D := .reg false [⟨(.some 67), .mv (.t 10), .none, 0⟩, ⟨(.some 68), .bin .neq (.t 67) (.c (.s (.int .i64 0))), .none, 0⟩] []
def d34r18 : D := .reg false [⟨(.some 69), .mv (.t 10), .none, 0⟩, ⟨(.some 4), .mv (.c (.s (.ptr .none))), .none, 0⟩, ⟨(.some 5), .mv (.t 69), .none, 0⟩] []
def d34r19 : D := .reg true [⟨(.some 70), .mv (.t 8), .none, 0⟩, ⟨(.some 71), .mv (.t 8), .none, 0⟩, ⟨(.some 72), .mv (.t 6), .none, 0⟩, ⟨(.some 73), .nilck (.t 72), .none, 4⟩, ⟨(.some 74), .fld 27 (.t 73), .none, 12⟩, ⟨(.some 75), .ld false 1 (.t 74), .none, 28⟩, ⟨(.some 76), .mv (.t 6), .none, 0⟩, ⟨(.some 77), .nilck (.t 76), .none, 64⟩, ⟨(.some 78), .fld 29 (.t 77), .none, 192⟩, ⟨(.some 79), .ld false 1 (.t 78), .none, 448⟩, ⟨(.some 80), .nilck (.t 70), .none, 1021⟩, ⟨(.some 81), .fld 28 (.t 80), .none, 2045⟩, ⟨.none, .st 1 (.t 81) (.t 75), .none, 4093⟩, ⟨(.some 82), .nilck (.t 71), .none, 8191⟩, ⟨(.some 83), .fld 29 (.t 82), .none, 16383⟩, ⟨.none, .st 1 (.t 83) (.t 79), .none, 32767⟩] []
def d34r20 : D := .reg false [⟨(.some 84), .mv (.t 8), .none, 0⟩, ⟨(.some 4), .mv (.t 84), .none, 0⟩, ⟨(.some 5), .mv (.c (.s (.int .i64 0))), .none, 0⟩] []
/-- quorumite/store.Open -/
def d34 : Df := ⟨7, [.t 4, .t 5], (.seq d34r0 (.seq (.seq d34r1 (.cond .none (.t 20) (.seq d34r2 .ret) .skip)) (.seq d34r3 (.seq (.seq d34r4 (.cond .none (.t 28) (.seq d34r5 .ret) .skip)) (.seq d34r6 (.seq (.seq d34r7 (.cond .none (.t 35) (.seq d34r8 (.seq (.seq d34r9 (.seq d34r10 (.cond .none (.t 44) (.seq d34r11 .ret) .skip))) (.seq d34r12 .ret))) .skip)) (.seq d34r13 (.seq (.seq d34r14 (.cond .none (.t 60) (.seq d34r15 .ret) .skip)) (.seq (.seq d34r16 (.seq d34r17 (.cond .none (.t 68) (.seq d34r18 .ret) .skip))) (.seq d34r19 (.seq d34r20 .ret)))))))))))⟩
noncomputable def g34 (fx : Fx) (cl : Cl) (a0 a1 : AV) (h0 : H) : R :=
  obh (mkv (.box 27 (.c a0)) h0) fun v0 h1 =>
  F.ob (rdd (.ld true 26 (.c v0)) [] h1) fun v1 =>
  obh (cl 52 [v1] h1) fun v2 h2 =>
  F.ob (pv (.un .not (.c v2))) fun v3 =>
  F.ob (gd v3 false (some a1) (some nought)) fun v4 =>
  obh (gd v3 false (cl 81 [v4] h2) (some (nought, h2))) fun v5 h3 =>
  F.ob (gd v3 false (fld 24 v0) (some nought)) fun v6 =>
  F.ob (gd v3 false (rdd (.ld false 1 (.c v6)) [(5, h2)] h3) (some nought)) fun v7 =>
  F.ob (gd v3 false (F.bin .neq v5 v7) (some nought)) fun v8 =>
  F.ob (pv (.pick (.c v3) (.c (.s (.bool true))) (.c v8))) fun v9 =>
  cnd v9 (
  out [(.s (.ptr .none)), (.s (.int .i64 1))] h3) (
  F.ob (ld true 26 v0 h3) fun v10 =>
  obh (cl 82 [v10, a1] h3) fun v11 h4 =>
  F.ob (pv (.ext (.c v11) 0)) fun v12 =>
  F.ob (pv (.ext (.c v11) 1)) fun v13 =>
  F.ob (F.bin .neq v13 (.s (.int .i64 0))) fun v14 =>
  cnd v14 (
  out [(.s (.ptr .none)), v13] h4) (
  F.ob (ld true 26 v0 h4) fun v15 =>
  F.ob (pv (.build [(.int .i64 0), (.int .i64 0), (.int .i64 0), (.int .i64 0), (.int .i64 0), (.int .i64 0), (.int .i64 0), (.int .i64 0), (.int .i64 0), (.int .i64 0), (.int .i64 0), (.int .i64 0), (.int .i64 0), (.int .i64 0), (.int .i64 0), (.int .i64 0), (.int .i64 0), (.int .i64 0), (.int .i64 0), (.int .i64 0), (.int .i64 0), (.int .i64 0), (.int .i64 0), (.int .i64 0), (.int .i64 0), (.int .u64 0), (.ptr .none), (.ptr .none), (.int .u32 0), (.int .i64 0), (.bool false), (.int .i64 0)] [(0, 26, .c v15), (26, 1, .c a1)])) fun v16 =>
  obh (mkv (.box 173 (.c v16)) h4) fun v17 h5 =>
  F.ob (pv (.eqv .ptr false (.c v12) (.c (.s (.ptr .none))))) fun v18 =>
  cnd v18 (
  F.ob (ld true 26 v0 h5) fun v19 =>
  obh (cl 83 [v19] h5) fun v20 h6 =>
  F.ob (nilck v17) fun v21 =>
  F.ob (fld 27 v21) fun v22 =>
  F.ob (st 1 v22 v20 h6) fun h7 =>
  obh (cl 84 [v17] h7) fun v23 h8 =>
  F.ob (F.bin .neq v23 (.s (.int .i64 0))) fun v24 =>
  cnd v24 (
  out [(.s (.ptr .none)), v23] h8) (
  out [v17, (.s (.int .i64 0))] h8)) (
  F.ob (rdd (.ld true 26 (.c v0)) [] h5) fun v25 =>
  F.ob (nilck v12) fun v26 =>
  F.ob (fld 28 v26) fun v27 =>
  F.ob (rdd (.ld false 1 (.c v27)) [] h5) fun v28 =>
  obh (cl 49 [v25, v28] h5) fun v29 h9 =>
  F.ob (pv (.ext (.c v29) 0)) fun v30 =>
  F.ob (pv (.ext (.c v29) 1)) fun v31 =>
  F.ob (nilck v17) fun v32 =>
  F.ob (fld 27 v32) fun v33 =>
  F.ob (st 1 v33 v30 h9) fun h10 =>
  F.ob (F.bin .neq v31 (.s (.int .i64 0))) fun v34 =>
  cnd v34 (
  out [(.s (.ptr .none)), (.s (.int .i64 12))] h10) (
  F.ob (nilck v17) fun v35 =>
  F.ob (fld 27 v35) fun v36 =>
  F.ob (ld false 1 v36 h10) fun v37 =>
  obh (cl 85 [v12, v37] h10) fun v38 h11 =>
  F.ob (F.bin .neq v38 (.s (.int .i64 0))) fun v39 =>
  cnd v39 (
  out [(.s (.ptr .none)), v38] h11) (
  F.ob (nilck v12) fun v40 =>
  F.ob (fld 27 v40) fun v41 =>
  F.ob (rdd (.ld false 1 (.c v41)) [] h11) fun v42 =>
  F.ob (nilck v12) fun v43 =>
  F.ob (fld 29 v43) fun v44 =>
  F.ob (rdd (.ld false 1 (.c v44)) [] h11) fun v45 =>
  F.ob (nilck v17) fun v46 =>
  F.ob (fld 28 v46) fun v47 =>
  F.ob (st 1 v47 v42 h11) fun h12 =>
  F.ob (nilck v17) fun v48 =>
  F.ob (fld 29 v48) fun v49 =>
  F.ob (st 1 v49 v45 h12) fun h13 =>
  out [v17, (.s (.int .i64 0))] h13)))))
theorem e34 : (fun (fx : Fx) (cl : Cl) (a0 a1 : AV) (h0 : H) => denF fx cl d34 [a0, a1] h0) = g34 := by kernel_rfl
def d33r0 : D := .reg false [⟨(.some 2), .mv (.c (.s (.ptr .none))), .none, 0⟩] []
def d33r1 : D := .reg false [⟨(.some 4), .mv (.t 0), .none, 0⟩, ⟨(.some 5), .bin .lss (.t 4) (.c (.s (.int .i64 1))), .none, 0⟩, ⟨(.some 6), .mv (.t 5), .none, 0⟩, ⟨(.some 7), .mv (.t 0), (.some (6, false)), 0⟩, ⟨(.some 8), .bin .gtr (.t 7) (.c (.s (.int .i64 4096))), (.some (6, false)), 0⟩, ⟨(.some 9), .pick (.t 6) (.c (.s (.bool true))) (.t 8), .none, 0⟩] []
def d33r2 : D := .reg false [⟨(.some 2), .mv (.c (.s (.ptr .none))), .none, 0⟩] []
def d33r3 : D := .reg false [⟨(.some 10), .build [(.sl .none 0 0 true 1), (.int .i64 0), (.bool false), (.int .i64 0)] [(1, 1, (.c (.s (.int .i64 (-1)))))], .none, 0⟩, ⟨(.some 11), .box 168 (.t 10), .none, 0⟩, ⟨(.some 3), .mv (.t 11), .none, 0⟩] []
def d33r4 : D := .reg false [⟨(.some 12), .mv (.t 0), .none, 0⟩, ⟨(.some 13), .mv (.c (.s (.int .i64 0))), .none, 0⟩] []
def d33r5 : D := .reg false [⟨(.some 14), .bin .lss (.t 13) (.t 12), .none, 0⟩] []
def d33r6 : D := .reg true [⟨(.some 15), .mv (.t 3), .none, 0⟩, ⟨(.some 16), .mv (.t 3), .none, 0⟩, ⟨(.some 17), .nilck (.t 16), .none, 2⟩, ⟨(.some 18), .fld 0 (.t 17), .none, 6⟩, ⟨(.some 19), .ld false 1 (.t 18), .none, 14⟩, ⟨(.some 20), .mkslice 5 [(.int .u8 0)] 1 (.c (.s (.int .i64 64))) (.c (.s (.int .i64 64))), .none, 0⟩, ⟨(.some 21), .bslice 51 1 1 [(.sl .none 0 0 true 1)] [(0, 1, (.t 20))], .none, 32⟩, ⟨(.some 22), .app 51 1 24 (.t 19) (.t 21), .none, 126⟩, ⟨(.some 23), .nilck (.t 15), .none, 255⟩, ⟨(.some 24), .fld 0 (.t 23), .none, 511⟩, ⟨.none, .st 1 (.t 24) (.t 22), .none, 1023⟩] []
def d33r7 : D := .reg false [⟨(.some 25), .bin .add (.t 13) (.c (.s (.int .i64 1))), .none, 0⟩, ⟨(.some 13), .mv (.t 25), .none, 0⟩] []
def d33r8 : D := .reg false [⟨(.some 26), .mv (.t 3), .none, 0⟩, ⟨(.some 2), .mv (.t 26), .none, 0⟩] []
/-- quorumite/sector.New -/
def d33 : Df := ⟨5, [.t 2], (.seq d33r0 (.seq (.seq d33r1 (.cond .none (.t 9) (.seq d33r2 .ret) .skip)) (.seq d33r3 (.seq (.seq d33r4 (.blk (.some []) 0 (.loop [13] (.seq d33r5 (.seq (.cond .none (.t 14) .skip (.exit 0)) (.seq (.blk .none 1 d33r6) d33r7)))))) (.seq d33r8 .ret)))))⟩
noncomputable def g33 (fx : Fx) (cl : Cl) (a0 : AV) (h0 : H) : R :=
  F.ob (F.bin .lss a0 (.s (.int .i64 1))) fun v0 =>
  F.ob (gd v0 false (some a0) (some nought)) fun v1 =>
  F.ob (gd v0 false (F.bin .gtr v1 (.s (.int .i64 4096))) (some nought)) fun v2 =>
  F.ob (pv (.pick (.c v0) (.c (.s (.bool true))) (.c v2))) fun v3 =>
  cnd v3 (
  out [(.s (.ptr .none))] h0) (
  F.ob (pv (.build [(.sl .none 0 0 true 1), (.int .i64 0), (.bool false), (.int .i64 0)] [(1, 1, .c (.s (.int .i64 (-1))))])) fun v4 =>
  obh (mkv (.box 168 (.c v4)) h0) fun v5 h1 =>
  letJ (fun (p0 : Unit) h2 =>
  out [v5] h2) fun j0 =>
  fx AV (fun (r1 : AV → H → R) (p1 : AV) h3 =>
  F.ob (F.bin .lss p1 a0) fun v6 =>
  cnd v6 (
  F.ob (nilck v5) fun v7 =>
  F.ob (fld 0 v7) fun v8 =>
  F.ob (rdd (.ld false 1 (.c v8)) [] h3) fun v9 =>
  obh (mkv (.mkslice 5 [(.int .u8 0)] 1 (.c (.s (.int .i64 64))) (.c (.s (.int .i64 64)))) h3) fun v10 h4 =>
  obh (mkv (.bslice 51 1 1 [(.sl .none 0 0 true 1)] [(0, 1, .c v10)]) h4) fun v11 h5 =>
  obh (av (.app 51 1 24 (.c v9) (.c v11)) h5) fun v12 h6 =>
  F.ob (nilck v5) fun v13 =>
  F.ob (fld 0 v13) fun v14 =>
  F.ob (st 1 v14 v12 h6) fun h7 =>
  F.ob (F.bin .add p1 (.s (.int .i64 1))) fun v15 =>
  r1 v15 h7) (
  j0 () h3)) (.s (.int .i64 0)) h1)
theorem e33 : (fun (fx : Fx) (cl : Cl) (a0 : AV) (h0 : H) => denF fx cl d33 [a0] h0) = g33 := by kernel_rfl
def d31r0 : D := .reg false [⟨(.some 0), .alloc 27 [(.int .i64 0), (.int .i64 0), (.int .i64 0), (.int .i64 0), (.int .i64 0), (.int .i64 0), (.int .i64 0), (.int .i64 0), (.int .i64 0), (.int .i64 0), (.int .i64 0), (.int .i64 0), (.int .i64 0), (.int .i64 0), (.int .i64 0), (.int .i64 0), (.int .i64 0), (.int .i64 0), (.int .i64 0), (.int .i64 0), (.int .i64 0), (.int .i64 0), (.int .i64 0), (.int .i64 0), (.int .i64 0), (.int .u64 0)], .none, 0⟩] []
def d31r1 : D := .reg false [⟨(.some 1), .build [(.int .i64 0), (.int .i64 0), (.int .i64 0), (.int .i64 0)] [(0, 1, (.c (.s (.int .i64 1000))))], .none, 0⟩, ⟨(.some 2), .build [(.int .i64 0), (.int .i64 0), (.int .i64 0), (.int .i64 0), (.int .i64 0), (.int .i64 0), (.int .i64 0), (.int .i64 0), (.int .i64 0), (.int .i64 0), (.int .i64 0), (.int .i64 0), (.int .i64 0), (.int .i64 0), (.int .i64 0), (.int .i64 0), (.int .i64 0), (.int .i64 0), (.int .i64 0), (.int .i64 0), (.int .i64 0), (.int .i64 0), (.int .i64 0), (.int .i64 0), (.int .i64 0), (.int .u64 0)] [(0, 1, (.c (.s (.int .i64 4)))), (1, 1, (.c (.s (.int .i64 1)))), (2, 1, (.c (.s (.int .i64 1)))), (3, 1, (.c (.s (.int .i64 3)))), (4, 1, (.c (.s (.int .i64 2)))), (5, 1, (.c (.s (.int .i64 2)))), (6, 1, (.c (.s (.int .i64 32)))), (7, 4, (.t 1)), (11, 1, (.c (.s (.int .i64 100)))), (12, 1, (.c (.s (.int .i64 1)))), (13, 1, (.c (.s (.int .i64 100)))), (15, 1, (.c (.s (.int .i64 3)))), (16, 1, (.c (.s (.int .i64 4)))), (17, 1, (.c (.s (.int .i64 100)))), (18, 1, (.c (.s (.int .i64 4)))), (19, 1, (.c (.s (.int .i64 50)))), (20, 1, (.c (.s (.int .i64 2)))), (21, 1, (.c (.s (.int .i64 100)))), (22, 1, (.c (.s (.int .i64 3)))), (23, 1, (.c (.s (.int .i64 4)))), (24, 1, (.c (.s (.int .i64 256)))), (25, 1, (.c (.s (.int .u64 1))))], .none, 0⟩, ⟨.none, .st 26 (.t 0) (.t 2), .none, 0⟩] []
/-- quorumite/conf.Default -/
def d31 : Df := ⟨2, [.cell 0 true 26], (.seq d31r0 (.seq d31r1 .ret))⟩
noncomputable def g31 (fx : Fx) (cl : Cl) (h0 : H) : R :=
  obh (mkv (.alloc 27 [(.int .i64 0), (.int .i64 0), (.int .i64 0), (.int .i64 0), (.int .i64 0), (.int .i64 0), (.int .i64 0), (.int .i64 0), (.int .i64 0), (.int .i64 0), (.int .i64 0), (.int .i64 0), (.int .i64 0), (.int .i64 0), (.int .i64 0), (.int .i64 0), (.int .i64 0), (.int .i64 0), (.int .i64 0), (.int .i64 0), (.int .i64 0), (.int .i64 0), (.int .i64 0), (.int .i64 0), (.int .i64 0), (.int .u64 0)]) h0) fun v0 h1 =>
  F.ob (pv (.build [(.int .i64 0), (.int .i64 0), (.int .i64 0), (.int .i64 0)] [(0, 1, .c (.s (.int .i64 1000)))])) fun v1 =>
  F.ob (pv (.build [(.int .i64 0), (.int .i64 0), (.int .i64 0), (.int .i64 0), (.int .i64 0), (.int .i64 0), (.int .i64 0), (.int .i64 0), (.int .i64 0), (.int .i64 0), (.int .i64 0), (.int .i64 0), (.int .i64 0), (.int .i64 0), (.int .i64 0), (.int .i64 0), (.int .i64 0), (.int .i64 0), (.int .i64 0), (.int .i64 0), (.int .i64 0), (.int .i64 0), (.int .i64 0), (.int .i64 0), (.int .i64 0), (.int .u64 0)] [(0, 1, .c (.s (.int .i64 4))), (1, 1, .c (.s (.int .i64 1))), (2, 1, .c (.s (.int .i64 1))), (3, 1, .c (.s (.int .i64 3))), (4, 1, .c (.s (.int .i64 2))), (5, 1, .c (.s (.int .i64 2))), (6, 1, .c (.s (.int .i64 32))), (7, 4, .c v1), (11, 1, .c (.s (.int .i64 100))), (12, 1, .c (.s (.int .i64 1))), (13, 1, .c (.s (.int .i64 100))), (15, 1, .c (.s (.int .i64 3))), (16, 1, .c (.s (.int .i64 4))), (17, 1, .c (.s (.int .i64 100))), (18, 1, .c (.s (.int .i64 4))), (19, 1, .c (.s (.int .i64 50))), (20, 1, .c (.s (.int .i64 2))), (21, 1, .c (.s (.int .i64 100))), (22, 1, .c (.s (.int .i64 3))), (23, 1, .c (.s (.int .i64 4))), (24, 1, .c (.s (.int .i64 256))), (25, 1, .c (.s (.int .u64 1)))])) fun v2 =>
  F.ob (st 26 v0 v2 h1) fun h2 =>
  F.ob (ld true 26 v0 h2) fun v3 =>
  out [v3] h2
theorem e31 : (fun (fx : Fx) (cl : Cl) (h0 : H) => denF fx cl d31 [] h0) = g31 := by kernel_rfl
def d5r0 : D := .reg false [⟨(.some 4), .mv (.c (.s (.bool false))), .none, 0⟩] []
def d5r1 : D := .reg false [⟨(.some 9), .mv (.t 0), .none, 0⟩, ⟨(.some 10), .len (.sl 0) (.t 9), .none, 0⟩, ⟨(.some 11), .bin .gtr (.t 10) (.c (.s (.int .i64 400))), .none, 0⟩] []
def d5r2 : D := .reg false [⟨(.some 12), .call 29 [], .none, 0⟩, ⟨(.some 4), .mv (.t 12), .none, 0⟩] []
def d5r3 : D := .reg false [⟨(.some 13), .call 31 [], .none, 0⟩, ⟨(.some 14), .mv (.t 0), .none, 0⟩, ⟨(.some 15), .mv (.t 1), .none, 0⟩, ⟨(.some 16), .call 30 [(.t 13), (.t 14), (.t 15)], .none, 0⟩, ⟨(.some 5), .mv (.t 16), .none, 0⟩] []
def d5r4 : D := .reg false [⟨(.some 6), .mv (.c (.s (.str []))), .none, 0⟩] []
def d5r5 : D := .reg false [⟨(.some 7), .mv (.c (.s (.int .i64 0))), .none, 0⟩] []
def d5r6 : D := .reg false [⟨(.some 17), .mv (.t 7), .none, 0⟩, ⟨(.some 18), .mv (.t 5), .none, 0⟩, ⟨(.some 19), .len (.sl 0) (.t 18), .none, 0⟩, ⟨(.some 20), .bin .lss (.t 17) (.t 19), .none, 0⟩] []
def d5r7 : D := .reg false [⟨(.some 8), .mv (.c (.s (.int .i64 1))), .none, 0⟩] []
def d5r8 : D := .reg false [⟨(.some 23), .mv (.t 7), .none, 0⟩, ⟨(.some 24), .mv (.t 5), .none, 0⟩, ⟨(.some 25), .len (.sl 0) (.t 24), .none, 0⟩, ⟨(.some 26), .bin .sub (.t 25) (.c (.s (.int .i64 1))), .none, 0⟩, ⟨(.some 27), .bin .eql (.t 23) (.t 26), .none, 0⟩] []
def d5r9 : D := .reg false [⟨(.some 8), .mv (.c (.s (.int .i64 2))), .none, 0⟩] []
def d5r10 : D := .reg false [⟨(.some 28), .mv (.t 5), .none, 0⟩, ⟨(.some 29), .mv (.t 7), .none, 0⟩, ⟨(.some 30), .idxa (.sl 4) (.t 28) (.t 29), .none, 0⟩, ⟨(.some 31), .fld 1 (.t 30), .none, 0⟩, ⟨(.some 32), .ld false 1 (.t 31), .none, 0⟩, ⟨(.some 33), .mv (.t 7), .none, 0⟩, ⟨(.some 34), .bin .neq (.t 32) (.t 33), .none, 0⟩, ⟨(.some 35), .mv (.t 34), .none, 0⟩, ⟨(.some 36), .mv (.t 5), (.some (35, false)), 0⟩, ⟨(.some 37), .mv (.t 7), (.some (35, false)), 0⟩, ⟨(.some 38), .idxa (.sl 4) (.t 36) (.t 37), (.some (35, false)), 0⟩, ⟨(.some 39), .fld 2 (.t 38), (.some (35, false)), 0⟩, ⟨(.some 40), .ld false 1 (.t 39), (.some (35, false)), 0⟩, ⟨(.some 41), .mv (.t 8), (.some (35, false)), 0⟩, ⟨(.some 42), .bin .neq (.t 40) (.t 41), (.some (35, false)), 0⟩, ⟨(.some 43), .pick (.t 35) (.c (.s (.bool true))) (.t 42), .none, 0⟩, ⟨(.some 44), .mv (.t 43), .none, 0⟩, ⟨(.some 45), .mv (.t 5), (.some (44, false)), 0⟩, ⟨(.some 46), .mv (.t 7), (.some (44, false)), 0⟩, ⟨(.some 47), .idxa (.sl 4) (.t 45) (.t 46), (.some (44, false)), 0⟩, ⟨(.some 48), .fld 0 (.t 47), (.some (44, false)), 0⟩, ⟨(.some 49), .ld false 1 (.t 48), (.some (44, false)), 0⟩, ⟨(.some 50), .mv (.t 1), (.some (44, false)), 0⟩, ⟨(.some 51), .bin .neq (.t 49) (.t 50), (.some (44, false)), 0⟩, ⟨(.some 52), .pick (.t 44) (.c (.s (.bool true))) (.t 51), .none, 0⟩, ⟨(.some 53), .mv (.t 52), .none, 0⟩, ⟨(.some 54), .mv (.t 5), (.some (53, false)), 0⟩, ⟨(.some 55), .mv (.t 7), (.some (53, false)), 0⟩, ⟨(.some 56), .idxa (.sl 4) (.t 54) (.t 55), (.some (53, false)), 0⟩, ⟨(.some 57), .fld 3 (.t 56), (.some (53, false)), 0⟩, ⟨(.some 58), .ld false 1 (.t 57), (.some (53, false)), 0⟩, ⟨(.some 59), .len (.sl 0) (.t 58), (.some (53, false)), 0⟩, ⟨(.some 60), .bin .gtr (.t 59) (.c (.s (.int .i64 48))), (.some (53, false)), 0⟩, ⟨(.some 61), .pick (.t 53) (.c (.s (.bool true))) (.t 60), .none, 0⟩, ⟨(.some 62), .mv (.t 61), .none, 0⟩, ⟨(.some 63), .mv (.t 7), (.some (62, false)), 0⟩, ⟨(.some 64), .mv (.t 5), (.some (62, false)), 0⟩, ⟨(.some 65), .len (.sl 0) (.t 64), (.some (62, false)), 0⟩, ⟨(.some 66), .bin .sub (.t 65) (.c (.s (.int .i64 1))), (.some (62, false)), 0⟩, ⟨(.some 67), .bin .lss (.t 63) (.t 66), (.some (62, false)), 0⟩, ⟨(.some 68), .mv (.t 67), (.some (62, false)), 0⟩, ⟨(.some 69), .mv (.t 5), (.some (68, true)), 0⟩, ⟨(.some 70), .mv (.t 7), (.some (68, true)), 0⟩, ⟨(.some 71), .idxa (.sl 4) (.t 69) (.t 70), (.some (68, true)), 0⟩, ⟨(.some 72), .fld 3 (.t 71), (.some (68, true)), 0⟩, ⟨(.some 73), .ld false 1 (.t 72), (.some (68, true)), 0⟩, ⟨(.some 74), .len (.sl 0) (.t 73), (.some (68, true)), 0⟩, ⟨(.some 75), .bin .neq (.t 74) (.c (.s (.int .i64 48))), (.some (68, true)), 0⟩, ⟨(.some 76), .pick (.t 68) (.t 75) (.c (.s (.bool false))), (.some (62, false)), 0⟩, ⟨(.some 77), .pick (.t 62) (.c (.s (.bool true))) (.t 76), .none, 0⟩] []
def d5r11 : D := .reg false [⟨(.some 4), .mv (.c (.s (.bool false))), .none, 0⟩] []
def d5r12 : D := .reg false [⟨(.some 78), .mv (.t 6), .none, 0⟩, ⟨(.some 79), .mv (.t 5), .none, 0⟩, ⟨(.some 80), .mv (.t 7), .none, 0⟩, ⟨(.some 81), .idxa (.sl 4) (.t 79) (.t 80), .none, 0⟩, ⟨(.some 82), .fld 3 (.t 81), .none, 0⟩, ⟨(.some 83), .ld false 1 (.t 82), .none, 0⟩, ⟨(.some 84), .b2s (.t 83), .none, 0⟩, ⟨(.some 85), .bin .add (.t 78) (.t 84), .none, 0⟩, ⟨(.some 6), .mv (.t 85), .none, 0⟩] []
def d5r13 : D := .reg false [⟨(.some 21), .mv (.t 7), .none, 0⟩, ⟨(.some 22), .bin .add (.t 21) (.c (.s (.int .i64 1))), .none, 0⟩, ⟨(.some 7), .mv (.t 22), .none, 0⟩] []
def d5r14 : D := .reg false [⟨(.some 86), .call 29 [], .none, 0⟩, ⟨(.some 87), .mv (.t 86), .none, 0⟩, ⟨(.some 88), .mv (.t 6), (.some (87, true)), 0⟩, ⟨(.some 89), .mv (.t 0), (.some (87, true)), 0⟩, ⟨(.some 90), .b2s (.t 89), (.some (87, true)), 0⟩, ⟨(.some 91), .bin .eql (.t 88) (.t 90), (.some (87, true)), 0⟩, ⟨(.some 92), .pick (.t 87) (.t 91) (.c (.s (.bool false))), .none, 0⟩, ⟨(.some 93), .mv (.t 92), .none, 0⟩, ⟨(.some 94), .mv (.t 5), (.some (93, true)), 0⟩, ⟨(.some 95), .len (.sl 0) (.t 94), (.some (93, true)), 0⟩, ⟨(.some 96), .mv (.t 0), (.some (93, true)), 0⟩, ⟨(.some 97), .len (.sl 0) (.t 96), (.some (93, true)), 0⟩, ⟨(.some 98), .bin .add (.t 97) (.c (.s (.int .i64 47))), (.some (93, true)), 0⟩, ⟨(.some 99), .bin .quo (.t 98) (.c (.s (.int .i64 48))), (.some (93, true)), 0⟩, ⟨(.some 100), .mx [(.c (.s (.int .i64 1))), (.t 99)], (.some (93, true)), 0⟩, ⟨(.some 101), .bin .eql (.t 95) (.t 100), (.some (93, true)), 0⟩, ⟨(.some 102), .pick (.t 93) (.t 101) (.c (.s (.bool false))), .none, 0⟩, ⟨(.some 103), .mv (.t 102), .none, 0⟩, ⟨(.some 104), .call 31 [], (.some (103, true)), 0⟩, ⟨(.some 105), .call 32 [(.t 104)], (.some (103, true)), 0⟩, ⟨(.some 106), .pick (.t 103) (.t 105) (.c (.s (.bool false))), .none, 0⟩, ⟨(.some 4), .mv (.t 106), .none, 0⟩] []
/-- quorumite/quorumitelaw20.StoreCells -/
def d5 : Df := ⟨7, [.t 4], (.seq d5r0 (.seq (.seq d5r1 (.cond .none (.t 11) (.seq d5r2 .ret) .skip)) (.seq d5r3 (.seq d5r4 (.seq (.seq d5r5 (.blk (.some [6]) 0 (.loop [6, 7] (.seq (.seq d5r6 (.cond .none (.t 20) .skip (.exit 0))) (.seq (.blk .none 1 (.seq d5r7 (.seq (.seq d5r8 (.cond (.some [8]) (.t 27) d5r9 .skip)) (.seq (.seq d5r10 (.cond .none (.t 77) (.seq d5r11 .ret) .skip)) d5r12)))) d5r13))))) (.seq d5r14 .ret))))))⟩
noncomputable def g5 (fx : Fx) (cl : Cl) (a0 a1 : AV) (h0 : H) : R :=
  F.ob (pv (.len (.sl 0) (.c a0))) fun v0 =>
  F.ob (F.bin .gtr v0 (.s (.int .i64 400))) fun v1 =>
  cnd v1 (
  obh (cl 29 [] h0) fun v2 h1 =>
  out [v2] h1) (
  obh (cl 31 [] h0) fun v3 h2 =>
  obh (cl 30 [v3, a0, a1] h2) fun v4 h3 =>
  letJ (fun (p0 : AV) h4 =>
  obh (cl 29 [] h4) fun v5 h5 =>
  F.ob (gd v5 true (some p0) (some nought)) fun v6 =>
  F.ob (gd v5 true (some a0) (some nought)) fun v7 =>
  F.ob (gd v5 true (rv (.b2s (.c v7)) h5) (some nought)) fun v8 =>
  F.ob (gd v5 true (F.bin .eql v6 v8) (some nought)) fun v9 =>
  F.ob (pv (.pick (.c v5) (.c v9) (.c (.s (.bool false))))) fun v10 =>
  F.ob (gd v10 true (some v4) (some nought)) fun v11 =>
  F.ob (gd v10 true (pv (.len (.sl 0) (.c v11))) (some nought)) fun v12 =>
  F.ob (gd v10 true (some a0) (some nought)) fun v13 =>
  F.ob (gd v10 true (pv (.len (.sl 0) (.c v13))) (some nought)) fun v14 =>
  F.ob (gd v10 true (F.bin .add v14 (.s (.int .i64 47))) (some nought)) fun v15 =>
  F.ob (gd v10 true (F.bin .quo v15 (.s (.int .i64 48))) (some nought)) fun v16 =>
  F.ob (gd v10 true (pv (.mx [.c (.s (.int .i64 1)), .c v16])) (some nought)) fun v17 =>
  F.ob (gd v10 true (F.bin .eql v12 v17) (some nought)) fun v18 =>
  F.ob (pv (.pick (.c v10) (.c v18) (.c (.s (.bool false))))) fun v19 =>
  obh (gd v19 true (cl 31 [] h5) (some (nought, h5))) fun v20 h6 =>
  obh (gd v19 true (cl 32 [v20] h6) (some (nought, h6))) fun v21 h7 =>
  F.ob (pv (.pick (.c v19) (.c v21) (.c (.s (.bool false))))) fun v22 =>
  out [v22] h7) fun j0 =>
  fx (AV × AV) (fun (r1 : (AV × AV) → H → R) (p1 : AV × AV) h8 =>
  F.ob (pv (.len (.sl 0) (.c v4))) fun v23 =>
  F.ob (F.bin .lss p1.2 v23) fun v24 =>
  cnd v24 (
  F.ob (pv (.len (.sl 0) (.c v4))) fun v25 =>
  F.ob (F.bin .sub v25 (.s (.int .i64 1))) fun v26 =>
  F.ob (F.bin .eql p1.2 v26) fun v27 =>
  letJ (fun (p2 : AV) h9 =>
  F.ob (idxa (.sl 4) v4 p1.2) fun v28 =>
  F.ob (fld 1 v28) fun v29 =>
  F.ob (ld false 1 v29 h9) fun v30 =>
  F.ob (F.bin .neq v30 p1.2) fun v31 =>
  F.ob (gd v31 false (some v4) (some nought)) fun v32 =>
  F.ob (gd v31 false (some p1.2) (some nought)) fun v33 =>
  F.ob (gd v31 false (idxa (.sl 4) v32 v33) (some nought)) fun v34 =>
  F.ob (gd v31 false (fld 2 v34) (some nought)) fun v35 =>
  F.ob (gd v31 false (ld false 1 v35 h9) (some nought)) fun v36 =>
  F.ob (gd v31 false (some p2) (some nought)) fun v37 =>
  F.ob (gd v31 false (F.bin .neq v36 v37) (some nought)) fun v38 =>
  F.ob (pv (.pick (.c v31) (.c (.s (.bool true))) (.c v38))) fun v39 =>
  F.ob (gd v39 false (some v4) (some nought)) fun v40 =>
  F.ob (gd v39 false (some p1.2) (some nought)) fun v41 =>
  F.ob (gd v39 false (idxa (.sl 4) v40 v41) (some nought)) fun v42 =>
  F.ob (gd v39 false (fld 0 v42) (some nought)) fun v43 =>
  F.ob (gd v39 false (ld false 1 v43 h9) (some nought)) fun v44 =>
  F.ob (gd v39 false (some a1) (some nought)) fun v45 =>
  F.ob (gd v39 false (F.bin .neq v44 v45) (some nought)) fun v46 =>
  F.ob (pv (.pick (.c v39) (.c (.s (.bool true))) (.c v46))) fun v47 =>
  F.ob (gd v47 false (some v4) (some nought)) fun v48 =>
  F.ob (gd v47 false (some p1.2) (some nought)) fun v49 =>
  F.ob (gd v47 false (idxa (.sl 4) v48 v49) (some nought)) fun v50 =>
  F.ob (gd v47 false (fld 3 v50) (some nought)) fun v51 =>
  F.ob (gd v47 false (ld false 1 v51 h9) (some nought)) fun v52 =>
  F.ob (gd v47 false (pv (.len (.sl 0) (.c v52))) (some nought)) fun v53 =>
  F.ob (gd v47 false (F.bin .gtr v53 (.s (.int .i64 48))) (some nought)) fun v54 =>
  F.ob (pv (.pick (.c v47) (.c (.s (.bool true))) (.c v54))) fun v55 =>
  F.ob (gd v55 false (some p1.2) (some nought)) fun v56 =>
  F.ob (gd v55 false (some v4) (some nought)) fun v57 =>
  F.ob (gd v55 false (pv (.len (.sl 0) (.c v57))) (some nought)) fun v58 =>
  F.ob (gd v55 false (F.bin .sub v58 (.s (.int .i64 1))) (some nought)) fun v59 =>
  F.ob (gd v55 false (F.bin .lss v56 v59) (some nought)) fun v60 =>
  F.ob (gd v55 false (some v60) (some nought)) fun v61 =>
  F.ob (gd v61 true (some v4) (some nought)) fun v62 =>
  F.ob (gd v61 true (some p1.2) (some nought)) fun v63 =>
  F.ob (gd v61 true (idxa (.sl 4) v62 v63) (some nought)) fun v64 =>
  F.ob (gd v61 true (fld 3 v64) (some nought)) fun v65 =>
  F.ob (gd v61 true (ld false 1 v65 h9) (some nought)) fun v66 =>
  F.ob (gd v61 true (pv (.len (.sl 0) (.c v66))) (some nought)) fun v67 =>
  F.ob (gd v61 true (F.bin .neq v67 (.s (.int .i64 48))) (some nought)) fun v68 =>
  F.ob (gd v55 false (pv (.pick (.c v61) (.c v68) (.c (.s (.bool false))))) (some nought)) fun v69 =>
  F.ob (pv (.pick (.c v55) (.c (.s (.bool true))) (.c v69))) fun v70 =>
  cnd v70 (
  out [(.s (.bool false))] h9) (
  F.ob (idxa (.sl 4) v4 p1.2) fun v71 =>
  F.ob (fld 3 v71) fun v72 =>
  F.ob (ld false 1 v72 h9) fun v73 =>
  F.ob (rv (.b2s (.c v73)) h9) fun v74 =>
  F.ob (F.bin .add p1.1 v74) fun v75 =>
  F.ob (F.bin .add p1.2 (.s (.int .i64 1))) fun v76 =>
  r1 (v75, v76) h9)) fun j2 =>
  cnd v27 (
  j2 (.s (.int .i64 2)) h8) (
  j2 (.s (.int .i64 1)) h8)) (
  j0 p1.1 h8)) ((.s (.str [])), (.s (.int .i64 0))) h3)
theorem e5 : (fun (fx : Fx) (cl : Cl) (a0 a1 : AV) (h0 : H) => denF fx cl d5 [a0, a1] h0) = g5 := by kernel_rfl
def d156r0 : D := .reg false [⟨(.some 1), .box 27 (.t 0), .none, 0⟩, ⟨(.some 2), .mv (.c (.s (.bool false))), .none, 0⟩] []
def d156r1 : D := .reg false [⟨(.some 3), .mv (.c (.s (.int .i64 0))), .none, 0⟩] []
def d156r2 : D := .reg false [⟨(.some 4), .mv (.t 3), .none, 0⟩, ⟨(.some 5), .bin .lss (.t 4) (.c (.s (.int .i64 4))), .none, 0⟩] []
def d156r3 : D := .reg false [⟨(.some 8), .mv (.t 3), .none, 0⟩, ⟨(.some 9), .fld 2 (.t 1), .none, 0⟩, ⟨(.some 10), .ld false 1 (.t 9), .none, 0⟩, ⟨(.some 11), .bin .lss (.t 8) (.t 10), .none, 0⟩, ⟨(.some 12), .mv (.t 11), .none, 0⟩, ⟨(.some 13), .mv (.t 3), (.some (12, true)), 0⟩, ⟨(.some 14), .fld 7 (.t 1), (.some (12, true)), 0⟩, ⟨(.some 15), .idxa (.arr 4 1) (.t 14) (.t 13), (.some (12, true)), 0⟩, ⟨(.some 16), .ld false 1 (.t 15), (.some (12, true)), 0⟩, ⟨(.some 17), .bin .lss (.t 16) (.c (.s (.int .i64 1))), (.some (12, true)), 0⟩, ⟨(.some 18), .mv (.t 17), (.some (12, true)), 0⟩, ⟨(.some 19), .mv (.t 3), (.some (18, false)), 0⟩, ⟨(.some 20), .fld 7 (.t 1), (.some (18, false)), 0⟩, ⟨(.some 21), .idxa (.arr 4 1) (.t 20) (.t 19), (.some (18, false)), 0⟩, ⟨(.some 22), .ld false 1 (.t 21), (.some (18, false)), 0⟩, ⟨(.some 23), .bin .gtr (.t 22) (.c (.s (.int .i64 1099511627776))), (.some (18, false)), 0⟩, ⟨(.some 24), .pick (.t 18) (.c (.s (.bool true))) (.t 23), (.some (12, true)), 0⟩, ⟨(.some 25), .pick (.t 12) (.t 24) (.c (.s (.bool false))), .none, 0⟩, ⟨(.some 26), .mv (.t 25), .none, 0⟩, ⟨(.some 27), .mv (.t 3), (.some (26, false)), 0⟩, ⟨(.some 28), .fld 2 (.t 1), (.some (26, false)), 0⟩, ⟨(.some 29), .ld false 1 (.t 28), (.some (26, false)), 0⟩, ⟨(.some 30), .bin .geq (.t 27) (.t 29), (.some (26, false)), 0⟩, ⟨(.some 31), .mv (.t 30), (.some (26, false)), 0⟩, ⟨(.some 32), .mv (.t 3), (.some (31, true)), 0⟩, ⟨(.some 33), .fld 7 (.t 1), (.some (31, true)), 0⟩, ⟨(.some 34), .idxa (.arr 4 1) (.t 33) (.t 32), (.some (31, true)), 0⟩, ⟨(.some 35), .ld false 1 (.t 34), (.some (31, true)), 0⟩, ⟨(.some 36), .bin .neq (.t 35) (.c (.s (.int .i64 0))), (.some (31, true)), 0⟩, ⟨(.some 37), .pick (.t 31) (.t 36) (.c (.s (.bool false))), (.some (26, false)), 0⟩, ⟨(.some 38), .pick (.t 26) (.c (.s (.bool true))) (.t 37), .none, 0⟩] []
def d156r4 : D := .reg false [⟨(.some 2), .mv (.c (.s (.bool false))), .none, 0⟩] []
def d156r5 : D := .reg false [⟨(.some 6), .mv (.t 3), .none, 0⟩, ⟨(.some 7), .bin .add (.t 6) (.c (.s (.int .i64 1))), .none, 0⟩, ⟨(.some 3), .mv (.t 7), .none, 0⟩] []
def d156r6 : D := .reg false [⟨(.some 2), .mv (.c (.s (.bool true))), .none, 0⟩] []
/-- quorumite/quorumiteref1.targets -/
def d156 : Df := ⟨6, [.t 2], (.seq d156r0 (.seq (.seq d156r1 (.blk (.some []) 0 (.loop [3] (.seq (.seq d156r2 (.cond .none (.t 5) .skip (.exit 0))) (.seq (.blk .none 1 (.seq d156r3 (.cond .none (.t 38) (.seq d156r4 .ret) .skip))) d156r5))))) (.seq d156r6 .ret)))⟩
noncomputable def g156 (fx : Fx) (cl : Cl) (a0 : AV) (h0 : H) : R :=
  obh (mkv (.box 27 (.c a0)) h0) fun v0 h1 =>
  letJ (fun (p0 : Unit) h2 =>
  out [(.s (.bool true))] h2) fun j0 =>
  fx AV (fun (r1 : AV → H → R) (p1 : AV) h3 =>
  F.ob (F.bin .lss p1 (.s (.int .i64 4))) fun v1 =>
  cnd v1 (
  F.ob (fld 2 v0) fun v2 =>
  F.ob (ld false 1 v2 h3) fun v3 =>
  F.ob (F.bin .lss p1 v3) fun v4 =>
  F.ob (gd v4 true (some p1) (some nought)) fun v5 =>
  F.ob (gd v4 true (fld 7 v0) (some nought)) fun v6 =>
  F.ob (gd v4 true (idxa (.arr 4 1) v6 v5) (some nought)) fun v7 =>
  F.ob (gd v4 true (ld false 1 v7 h3) (some nought)) fun v8 =>
  F.ob (gd v4 true (F.bin .lss v8 (.s (.int .i64 1))) (some nought)) fun v9 =>
  F.ob (gd v4 true (some v9) (some nought)) fun v10 =>
  F.ob (gd v10 false (some p1) (some nought)) fun v11 =>
  F.ob (gd v10 false (fld 7 v0) (some nought)) fun v12 =>
  F.ob (gd v10 false (idxa (.arr 4 1) v12 v11) (some nought)) fun v13 =>
  F.ob (gd v10 false (ld false 1 v13 h3) (some nought)) fun v14 =>
  F.ob (gd v10 false (F.bin .gtr v14 (.s (.int .i64 1099511627776))) (some nought)) fun v15 =>
  F.ob (gd v4 true (pv (.pick (.c v10) (.c (.s (.bool true))) (.c v15))) (some nought)) fun v16 =>
  F.ob (pv (.pick (.c v4) (.c v16) (.c (.s (.bool false))))) fun v17 =>
  F.ob (gd v17 false (some p1) (some nought)) fun v18 =>
  F.ob (gd v17 false (fld 2 v0) (some nought)) fun v19 =>
  F.ob (gd v17 false (ld false 1 v19 h3) (some nought)) fun v20 =>
  F.ob (gd v17 false (F.bin .geq v18 v20) (some nought)) fun v21 =>
  F.ob (gd v17 false (some v21) (some nought)) fun v22 =>
  F.ob (gd v22 true (some p1) (some nought)) fun v23 =>
  F.ob (gd v22 true (fld 7 v0) (some nought)) fun v24 =>
  F.ob (gd v22 true (idxa (.arr 4 1) v24 v23) (some nought)) fun v25 =>
  F.ob (gd v22 true (ld false 1 v25 h3) (some nought)) fun v26 =>
  F.ob (gd v22 true (F.bin .neq v26 (.s (.int .i64 0))) (some nought)) fun v27 =>
  F.ob (gd v17 false (pv (.pick (.c v22) (.c v27) (.c (.s (.bool false))))) (some nought)) fun v28 =>
  F.ob (pv (.pick (.c v17) (.c (.s (.bool true))) (.c v28))) fun v29 =>
  cnd v29 (
  out [(.s (.bool false))] h3) (
  F.ob (F.bin .add p1 (.s (.int .i64 1))) fun v30 =>
  r1 v30 h3)) (
  j0 () h3)) (.s (.int .i64 0)) h1
theorem e156 : (fun (fx : Fx) (cl : Cl) (a0 : AV) (h0 : H) => denF fx cl d156 [a0] h0) = g156 := by kernel_rfl
def d155r0 : D := .reg false [⟨(.some 6), .mv (.c (.s (.bool false))), .none, 0⟩] []
def d155r1 : D := .reg false [⟨(.some 7), .mv (.t 0), .none, 0⟩, ⟨(.some 8), .mv (.t 1), .none, 0⟩, ⟨(.some 9), .bin .geq (.t 7) (.t 8), .none, 0⟩, ⟨(.some 10), .mv (.t 9), .none, 0⟩, ⟨(.some 11), .mv (.t 0), (.some (10, true)), 0⟩, ⟨(.some 12), .mv (.t 2), (.some (10, true)), 0⟩, ⟨(.some 13), .bin .leq (.t 11) (.t 12), (.some (10, true)), 0⟩, ⟨(.some 14), .pick (.t 10) (.t 13) (.c (.s (.bool false))), .none, 0⟩, ⟨(.some 6), .mv (.t 14), .none, 0⟩] []
/-- quorumite/quorumiteref1.in -/
def d155 : Df := ⟨4, [.t 6], (.seq d155r0 (.seq d155r1 .ret))⟩
noncomputable def g155 (fx : Fx) (cl : Cl) (a0 a1 a2 : AV) (h0 : H) : R :=
  F.ob (F.bin .geq a0 a1) fun v0 =>
  F.ob (gd v0 true (some a0) (some nought)) fun v1 =>
  F.ob (gd v0 true (some a2) (some nought)) fun v2 =>
  F.ob (gd v0 true (F.bin .leq v1 v2) (some nought)) fun v3 =>
  F.ob (pv (.pick (.c v0) (.c v3) (.c (.s (.bool false))))) fun v4 =>
  out [v4] h0
theorem e155 : (fun (fx : Fx) (cl : Cl) (a0 a1 a2 : AV) (h0 : H) => denF fx cl d155 [a0, a1, a2] h0) = g155 := by kernel_rfl
def d80r0 : D := .reg false [⟨(.some 1), .box 27 (.t 0), .none, 0⟩, ⟨(.some 2), .mv (.c (.s (.str []))), .none, 0⟩] []
def d80r1 : D := .reg false [⟨(.some 4), .fld 0 (.t 1), .none, 0⟩, ⟨(.some 5), .ld false 1 (.t 4), .none, 0⟩, ⟨(.some 6), .call 155 [(.t 5), (.c (.s (.int .i64 1))), (.c (.s (.int .i64 16)))], .none, 0⟩, ⟨(.some 7), .un .not (.t 6), .none, 0⟩, ⟨(.some 3), .mv (.t 7), .none, 0⟩] []
def d80r2 : D := .reg false [⟨(.some 2), .mv (.c (.s (.str [110]))), .none, 0⟩] []
def d80r3 : D := .reg false [⟨(.some 9), .fld 1 (.t 1), .none, 0⟩, ⟨(.some 10), .ld false 1 (.t 9), .none, 0⟩, ⟨(.some 11), .bin .lss (.t 10) (.c (.s (.int .i64 0))), .none, 0⟩, ⟨(.some 12), .mv (.t 11), .none, 0⟩, ⟨(.some 13), .fld 1 (.t 1), (.some (12, false)), 0⟩, ⟨(.some 14), .ld false 1 (.t 13), (.some (12, false)), 0⟩, ⟨(.some 15), .bin .gtr (.t 14) (.c (.s (.int .i64 5))), (.some (12, false)), 0⟩, ⟨(.some 16), .pick (.t 12) (.c (.s (.bool true))) (.t 15), .none, 0⟩, ⟨(.some 17), .mv (.t 16), .none, 0⟩, ⟨(.some 18), .fld 0 (.t 1), (.some (17, false)), 0⟩, ⟨(.some 19), .ld false 1 (.t 18), (.some (17, false)), 0⟩, ⟨(.some 20), .fld 1 (.t 1), (.some (17, false)), 0⟩, ⟨(.some 21), .ld false 1 (.t 20), (.some (17, false)), 0⟩, ⟨(.some 22), .bin .mul (.c (.s (.int .i64 3))) (.t 21), (.some (17, false)), 0⟩, ⟨(.some 23), .bin .add (.t 22) (.c (.s (.int .i64 1))), (.some (17, false)), 0⟩, ⟨(.some 24), .bin .lss (.t 19) (.t 23), (.some (17, false)), 0⟩, ⟨(.some 25), .pick (.t 17) (.c (.s (.bool true))) (.t 24), .none, 0⟩, ⟨(.some 8), .mv (.t 25), .none, 0⟩] []
def d80r4 : D := .reg false [⟨(.some 2), .mv (.c (.s (.str [102]))), .none, 0⟩] []
def d80r5 : D := .reg false [⟨(.some 27), .fld 2 (.t 1), .none, 0⟩, ⟨(.some 28), .ld false 1 (.t 27), .none, 0⟩, ⟨(.some 29), .call 155 [(.t 28), (.c (.s (.int .i64 1))), (.c (.s (.int .i64 4)))], .none, 0⟩, ⟨(.some 30), .un .not (.t 29), .none, 0⟩, ⟨(.some 26), .mv (.t 30), .none, 0⟩] []
def d80r6 : D := .reg false [⟨(.some 2), .mv (.c (.s (.str [109]))), .none, 0⟩] []
def d80r7 : D := .reg false [⟨(.some 32), .fld 3 (.t 1), .none, 0⟩, ⟨(.some 33), .ld false 1 (.t 32), .none, 0⟩, ⟨(.some 34), .fld 1 (.t 1), .none, 0⟩, ⟨(.some 35), .ld false 1 (.t 34), .none, 0⟩, ⟨(.some 36), .bin .mul (.c (.s (.int .i64 2))) (.t 35), .none, 0⟩, ⟨(.some 37), .bin .add (.t 36) (.c (.s (.int .i64 1))), .none, 0⟩, ⟨(.some 38), .fld 0 (.t 1), .none, 0⟩, ⟨(.some 39), .ld false 1 (.t 38), .none, 0⟩, ⟨(.some 40), .call 155 [(.t 33), (.t 37), (.t 39)], .none, 0⟩, ⟨(.some 41), .un .not (.t 40), .none, 0⟩, ⟨(.some 31), .mv (.t 41), .none, 0⟩] []
def d80r8 : D := .reg false [⟨(.some 2), .mv (.c (.s (.str [113, 117, 111, 114, 117, 109]))), .none, 0⟩] []
def d80r9 : D := .reg false [⟨(.some 43), .fld 4 (.t 1), .none, 0⟩, ⟨(.some 44), .ld false 1 (.t 43), .none, 0⟩, ⟨(.some 45), .call 155 [(.t 44), (.c (.s (.int .i64 1))), (.c (.s (.int .i64 8)))], .none, 0⟩, ⟨(.some 46), .un .not (.t 45), .none, 0⟩, ⟨(.some 42), .mv (.t 46), .none, 0⟩] []
def d80r10 : D := .reg false [⟨(.some 2), .mv (.c (.s (.str [102, 114, 101, 115, 104]))), .none, 0⟩] []
def d80r11 : D := .reg false [⟨(.some 48), .fld 5 (.t 1), .none, 0⟩, ⟨(.some 49), .ld false 1 (.t 48), .none, 0⟩, ⟨(.some 50), .call 155 [(.t 49), (.c (.s (.int .i64 1))), (.c (.s (.int .i64 100)))], .none, 0⟩, ⟨(.some 51), .un .not (.t 50), .none, 0⟩, ⟨(.some 47), .mv (.t 51), .none, 0⟩] []
def d80r12 : D := .reg false [⟨(.some 2), .mv (.c (.s (.str [103, 114, 97, 99, 101]))), .none, 0⟩] []
def d80r13 : D := .reg false [⟨(.some 53), .fld 6 (.t 1), .none, 0⟩, ⟨(.some 54), .ld false 1 (.t 53), .none, 0⟩, ⟨(.some 55), .call 155 [(.t 54), (.c (.s (.int .i64 1))), (.c (.s (.int .i64 64)))], .none, 0⟩, ⟨(.some 56), .un .not (.t 55), .none, 0⟩, ⟨(.some 52), .mv (.t 56), .none, 0⟩] []
def d80r14 : D := .reg false [⟨(.some 2), .mv (.c (.s (.str [119, 105, 110, 100, 111, 119]))), .none, 0⟩] []
def d80r15 : D := .reg false [⟨(.some 58), .ld true 26 (.t 1), .none, 0⟩, ⟨(.some 59), .call 156 [(.t 58)], .none, 0⟩, ⟨(.some 60), .un .not (.t 59), .none, 0⟩, ⟨(.some 57), .mv (.t 60), .none, 0⟩] []
def d80r16 : D := .reg false [⟨(.some 2), .mv (.c (.s (.str [116, 97, 114, 103, 101, 116]))), .none, 0⟩] []
def d80r17 : D := .reg false [⟨(.some 62), .fld 11 (.t 1), .none, 0⟩, ⟨(.some 63), .ld false 1 (.t 62), .none, 0⟩, ⟨(.some 64), .call 155 [(.t 63), (.c (.s (.int .i64 0))), (.c (.s (.int .i64 1000)))], .none, 0⟩, ⟨(.some 65), .un .not (.t 64), .none, 0⟩, ⟨(.some 61), .mv (.t 65), .none, 0⟩] []
def d80r18 : D := .reg false [⟨(.some 2), .mv (.c (.s (.str [116, 111, 108]))), .none, 0⟩] []
def d80r19 : D := .reg false [⟨(.some 67), .fld 12 (.t 1), .none, 0⟩, ⟨(.some 68), .ld false 1 (.t 67), .none, 0⟩, ⟨(.some 69), .call 155 [(.t 68), (.c (.s (.int .i64 1))), (.c (.s (.int .i64 10000)))], .none, 0⟩, ⟨(.some 70), .un .not (.t 69), .none, 0⟩, ⟨(.some 66), .mv (.t 70), .none, 0⟩] []
def d80r20 : D := .reg false [⟨(.some 2), .mv (.c (.s (.str [109, 105, 110]))), .none, 0⟩] []
def d80r21 : D := .reg false [⟨(.some 72), .fld 13 (.t 1), .none, 0⟩, ⟨(.some 73), .ld false 1 (.t 72), .none, 0⟩, ⟨(.some 74), .fld 12 (.t 1), .none, 0⟩, ⟨(.some 75), .ld false 1 (.t 74), .none, 0⟩, ⟨(.some 76), .call 155 [(.t 73), (.t 75), (.c (.s (.int .i64 10000)))], .none, 0⟩, ⟨(.some 77), .un .not (.t 76), .none, 0⟩, ⟨(.some 71), .mv (.t 77), .none, 0⟩] []
def d80r22 : D := .reg false [⟨(.some 2), .mv (.c (.s (.str [109, 97, 120]))), .none, 0⟩] []
def d80r23 : D := .reg false [⟨(.some 79), .fld 14 (.t 1), .none, 0⟩, ⟨(.some 80), .ld false 1 (.t 79), .none, 0⟩, ⟨(.some 81), .call 155 [(.t 80), (.c (.s (.int .i64 0))), (.c (.s (.int .i64 60)))], .none, 0⟩, ⟨(.some 82), .un .not (.t 81), .none, 0⟩, ⟨(.some 78), .mv (.t 82), .none, 0⟩] []
def d80r24 : D := .reg false [⟨(.some 2), .mv (.c (.s (.str [99, 97, 108, 109, 117, 112]))), .none, 0⟩] []
def d80r25 : D := .reg false [⟨(.some 84), .fld 15 (.t 1), .none, 0⟩, ⟨(.some 85), .ld false 1 (.t 84), .none, 0⟩, ⟨(.some 86), .call 155 [(.t 85), (.c (.s (.int .i64 0))), (.c (.s (.int .i64 60)))], .none, 0⟩, ⟨(.some 87), .un .not (.t 86), .none, 0⟩, ⟨(.some 83), .mv (.t 87), .none, 0⟩] []
def d80r26 : D := .reg false [⟨(.some 2), .mv (.c (.s (.str [99, 97, 108, 109, 100, 111, 119, 110]))), .none, 0⟩] []
def d80r27 : D := .reg false [⟨(.some 89), .fld 16 (.t 1), .none, 0⟩, ⟨(.some 90), .ld false 1 (.t 89), .none, 0⟩, ⟨(.some 91), .call 155 [(.t 90), (.c (.s (.int .i64 1))), (.c (.s (.int .i64 1000)))], .none, 0⟩, ⟨(.some 92), .un .not (.t 91), .none, 0⟩, ⟨(.some 88), .mv (.t 92), .none, 0⟩] []
def d80r28 : D := .reg false [⟨(.some 2), .mv (.c (.s (.str [112, 111, 100, 115, 117, 112]))), .none, 0⟩] []
def d80r29 : D := .reg false [⟨(.some 94), .fld 17 (.t 1), .none, 0⟩, ⟨(.some 95), .ld false 1 (.t 94), .none, 0⟩, ⟨(.some 96), .call 155 [(.t 95), (.c (.s (.int .i64 1))), (.c (.s (.int .i64 1000)))], .none, 0⟩, ⟨(.some 97), .un .not (.t 96), .none, 0⟩, ⟨(.some 93), .mv (.t 97), .none, 0⟩] []
def d80r30 : D := .reg false [⟨(.some 2), .mv (.c (.s (.str [112, 99, 116, 117, 112]))), .none, 0⟩] []
def d80r31 : D := .reg false [⟨(.some 99), .fld 18 (.t 1), .none, 0⟩, ⟨(.some 100), .ld false 1 (.t 99), .none, 0⟩, ⟨(.some 101), .call 155 [(.t 100), (.c (.s (.int .i64 1))), (.c (.s (.int .i64 1000)))], .none, 0⟩, ⟨(.some 102), .un .not (.t 101), .none, 0⟩, ⟨(.some 98), .mv (.t 102), .none, 0⟩] []
def d80r32 : D := .reg false [⟨(.some 2), .mv (.c (.s (.str [112, 111, 100, 115, 100, 111, 119, 110]))), .none, 0⟩] []
def d80r33 : D := .reg false [⟨(.some 104), .fld 19 (.t 1), .none, 0⟩, ⟨(.some 105), .ld false 1 (.t 104), .none, 0⟩, ⟨(.some 106), .call 155 [(.t 105), (.c (.s (.int .i64 1))), (.c (.s (.int .i64 100)))], .none, 0⟩, ⟨(.some 107), .un .not (.t 106), .none, 0⟩, ⟨(.some 103), .mv (.t 107), .none, 0⟩] []
def d80r34 : D := .reg false [⟨(.some 2), .mv (.c (.s (.str [112, 99, 116, 100, 111, 119, 110]))), .none, 0⟩] []
def d80r35 : D := .reg false [⟨(.some 109), .fld 20 (.t 1), .none, 0⟩, ⟨(.some 110), .ld false 1 (.t 109), .none, 0⟩, ⟨(.some 111), .call 155 [(.t 110), (.c (.s (.int .i64 1))), (.c (.s (.int .i64 60)))], .none, 0⟩, ⟨(.some 112), .un .not (.t 111), .none, 0⟩, ⟨(.some 108), .mv (.t 112), .none, 0⟩] []
def d80r36 : D := .reg false [⟨(.some 2), .mv (.c (.s (.str [112, 101, 114, 105, 111, 100]))), .none, 0⟩] []
def d80r37 : D := .reg false [⟨(.some 114), .fld 21 (.t 1), .none, 0⟩, ⟨(.some 115), .ld false 1 (.t 114), .none, 0⟩, ⟨(.some 116), .bin .lss (.t 115) (.c (.s (.int .i64 0))), .none, 0⟩, ⟨(.some 117), .mv (.t 116), .none, 0⟩, ⟨(.some 118), .fld 21 (.t 1), (.some (117, false)), 0⟩, ⟨(.some 119), .ld false 1 (.t 118), (.some (117, false)), 0⟩, ⟨(.some 120), .bin .gtr (.t 119) (.c (.s (.int .i64 1099511627776))), (.some (117, false)), 0⟩, ⟨(.some 121), .pick (.t 117) (.c (.s (.bool true))) (.t 120), .none, 0⟩, ⟨(.some 113), .mv (.t 121), .none, 0⟩] []
def d80r38 : D := .reg false [⟨(.some 2), .mv (.c (.s (.str [102, 97, 114]))), .none, 0⟩] []
def d80r39 : D := .reg false [⟨(.some 123), .fld 22 (.t 1), .none, 0⟩, ⟨(.some 124), .ld false 1 (.t 123), .none, 0⟩, ⟨(.some 125), .call 155 [(.t 124), (.c (.s (.int .i64 1))), (.c (.s (.int .i64 100)))], .none, 0⟩, ⟨(.some 126), .un .not (.t 125), .none, 0⟩, ⟨(.some 122), .mv (.t 126), .none, 0⟩] []
def d80r40 : D := .reg false [⟨(.some 2), .mv (.c (.s (.str [115, 116, 114, 105, 107, 101, 115]))), .none, 0⟩] []
def d80r41 : D := .reg false [⟨(.some 128), .fld 23 (.t 1), .none, 0⟩, ⟨(.some 129), .ld false 1 (.t 128), .none, 0⟩, ⟨(.some 130), .call 155 [(.t 129), (.c (.s (.int .i64 1))), (.c (.s (.int .i64 100)))], .none, 0⟩, ⟨(.some 131), .un .not (.t 130), .none, 0⟩, ⟨(.some 127), .mv (.t 131), .none, 0⟩] []
def d80r42 : D := .reg false [⟨(.some 2), .mv (.c (.s (.str [112, 114, 111, 98, 101]))), .none, 0⟩] []
def d80r43 : D := .reg false [⟨(.some 133), .fld 24 (.t 1), .none, 0⟩, ⟨(.some 134), .ld false 1 (.t 133), .none, 0⟩, ⟨(.some 135), .call 155 [(.t 134), (.c (.s (.int .i64 64))), (.c (.s (.int .i64 4096)))], .none, 0⟩, ⟨(.some 136), .un .not (.t 135), .none, 0⟩, ⟨(.some 132), .mv (.t 136), .none, 0⟩] []
def d80r44 : D := .reg false [⟨(.some 2), .mv (.c (.s (.str [115, 101, 99, 116, 111, 114, 115]))), .none, 0⟩] []
def d80r45 : D := .reg false [⟨(.some 2), .mv (.c (.s (.str []))), .none, 0⟩] []
/-- quorumite/quorumiteref1.Wrong -/
def d80 : Df := ⟨8, [.t 2], (.seq d80r0 (.seq (.blk .none 0 (.seq d80r1 (.cond .none (.t 3) (.seq d80r2 .ret) (.seq d80r3 (.cond .none (.t 8) (.seq d80r4 .ret) (.seq d80r5 (.cond .none (.t 26) (.seq d80r6 .ret) (.seq d80r7 (.cond .none (.t 31) (.seq d80r8 .ret) (.seq d80r9 (.cond .none (.t 42) (.seq d80r10 .ret) (.seq d80r11 (.cond .none (.t 47) (.seq d80r12 .ret) (.seq d80r13 (.cond .none (.t 52) (.seq d80r14 .ret) (.seq d80r15 (.cond .none (.t 57) (.seq d80r16 .ret) (.seq d80r17 (.cond .none (.t 61) (.seq d80r18 .ret) (.seq d80r19 (.cond .none (.t 66) (.seq d80r20 .ret) (.seq d80r21 (.cond .none (.t 71) (.seq d80r22 .ret) (.seq d80r23 (.cond .none (.t 78) (.seq d80r24 .ret) (.seq d80r25 (.cond .none (.t 83) (.seq d80r26 .ret) (.seq d80r27 (.cond .none (.t 88) (.seq d80r28 .ret) (.seq d80r29 (.cond .none (.t 93) (.seq d80r30 .ret) (.seq d80r31 (.cond .none (.t 98) (.seq d80r32 .ret) (.seq d80r33 (.cond .none (.t 103) (.seq d80r34 .ret) (.seq d80r35 (.cond .none (.t 108) (.seq d80r36 .ret) (.seq d80r37 (.cond .none (.t 113) (.seq d80r38 .ret) (.seq d80r39 (.cond .none (.t 122) (.seq d80r40 .ret) (.seq d80r41 (.cond .none (.t 127) (.seq d80r42 .ret) (.seq d80r43 (.cond .none (.t 132) (.seq d80r44 .ret) .skip))))))))))))))))))))))))))))))))))))))))))))) (.seq d80r45 .ret)))⟩
noncomputable def g80 (fx : Fx) (cl : Cl) (a0 : AV) (h0 : H) : R :=
  obh (mkv (.box 27 (.c a0)) h0) fun v0 h1 =>
  F.ob (fld 0 v0) fun v1 =>
  F.ob (ld false 1 v1 h1) fun v2 =>
  obh (cl 155 [v2, (.s (.int .i64 1)), (.s (.int .i64 16))] h1) fun v3 h2 =>
  F.ob (pv (.un .not (.c v3))) fun v4 =>
  cnd v4 (
  out [(.s (.str [110]))] h2) (
  F.ob (fld 1 v0) fun v5 =>
  F.ob (ld false 1 v5 h2) fun v6 =>
  F.ob (F.bin .lss v6 (.s (.int .i64 0))) fun v7 =>
  F.ob (gd v7 false (fld 1 v0) (some nought)) fun v8 =>
  F.ob (gd v7 false (ld false 1 v8 h2) (some nought)) fun v9 =>
  F.ob (gd v7 false (F.bin .gtr v9 (.s (.int .i64 5))) (some nought)) fun v10 =>
  F.ob (pv (.pick (.c v7) (.c (.s (.bool true))) (.c v10))) fun v11 =>
  F.ob (gd v11 false (fld 0 v0) (some nought)) fun v12 =>
  F.ob (gd v11 false (ld false 1 v12 h2) (some nought)) fun v13 =>
  F.ob (gd v11 false (fld 1 v0) (some nought)) fun v14 =>
  F.ob (gd v11 false (ld false 1 v14 h2) (some nought)) fun v15 =>
  F.ob (gd v11 false (F.bin .mul (.s (.int .i64 3)) v15) (some nought)) fun v16 =>
  F.ob (gd v11 false (F.bin .add v16 (.s (.int .i64 1))) (some nought)) fun v17 =>
  F.ob (gd v11 false (F.bin .lss v13 v17) (some nought)) fun v18 =>
  F.ob (pv (.pick (.c v11) (.c (.s (.bool true))) (.c v18))) fun v19 =>
  cnd v19 (
  out [(.s (.str [102]))] h2) (
  F.ob (fld 2 v0) fun v20 =>
  F.ob (ld false 1 v20 h2) fun v21 =>
  obh (cl 155 [v21, (.s (.int .i64 1)), (.s (.int .i64 4))] h2) fun v22 h3 =>
  F.ob (pv (.un .not (.c v22))) fun v23 =>
  cnd v23 (
  out [(.s (.str [109]))] h3) (
  F.ob (fld 3 v0) fun v24 =>
  F.ob (ld false 1 v24 h3) fun v25 =>
  F.ob (fld 1 v0) fun v26 =>
  F.ob (ld false 1 v26 h3) fun v27 =>
  F.ob (F.bin .mul (.s (.int .i64 2)) v27) fun v28 =>
  F.ob (F.bin .add v28 (.s (.int .i64 1))) fun v29 =>
  F.ob (fld 0 v0) fun v30 =>
  F.ob (ld false 1 v30 h3) fun v31 =>
  obh (cl 155 [v25, v29, v31] h3) fun v32 h4 =>
  F.ob (pv (.un .not (.c v32))) fun v33 =>
  cnd v33 (
  out [(.s (.str [113, 117, 111, 114, 117, 109]))] h4) (
  F.ob (fld 4 v0) fun v34 =>
  F.ob (ld false 1 v34 h4) fun v35 =>
  obh (cl 155 [v35, (.s (.int .i64 1)), (.s (.int .i64 8))] h4) fun v36 h5 =>
  F.ob (pv (.un .not (.c v36))) fun v37 =>
  cnd v37 (
  out [(.s (.str [102, 114, 101, 115, 104]))] h5) (
  F.ob (fld 5 v0) fun v38 =>
  F.ob (ld false 1 v38 h5) fun v39 =>
  obh (cl 155 [v39, (.s (.int .i64 1)), (.s (.int .i64 100))] h5) fun v40 h6 =>
  F.ob (pv (.un .not (.c v40))) fun v41 =>
  cnd v41 (
  out [(.s (.str [103, 114, 97, 99, 101]))] h6) (
  F.ob (fld 6 v0) fun v42 =>
  F.ob (ld false 1 v42 h6) fun v43 =>
  obh (cl 155 [v43, (.s (.int .i64 1)), (.s (.int .i64 64))] h6) fun v44 h7 =>
  F.ob (pv (.un .not (.c v44))) fun v45 =>
  cnd v45 (
  out [(.s (.str [119, 105, 110, 100, 111, 119]))] h7) (
  F.ob (ld true 26 v0 h7) fun v46 =>
  obh (cl 156 [v46] h7) fun v47 h8 =>
  F.ob (pv (.un .not (.c v47))) fun v48 =>
  cnd v48 (
  out [(.s (.str [116, 97, 114, 103, 101, 116]))] h8) (
  F.ob (fld 11 v0) fun v49 =>
  F.ob (ld false 1 v49 h8) fun v50 =>
  obh (cl 155 [v50, (.s (.int .i64 0)), (.s (.int .i64 1000))] h8) fun v51 h9 =>
  F.ob (pv (.un .not (.c v51))) fun v52 =>
  cnd v52 (
  out [(.s (.str [116, 111, 108]))] h9) (
  F.ob (fld 12 v0) fun v53 =>
  F.ob (ld false 1 v53 h9) fun v54 =>
  obh (cl 155 [v54, (.s (.int .i64 1)), (.s (.int .i64 10000))] h9) fun v55 h10 =>
  F.ob (pv (.un .not (.c v55))) fun v56 =>
  cnd v56 (
  out [(.s (.str [109, 105, 110]))] h10) (
  F.ob (fld 13 v0) fun v57 =>
  F.ob (ld false 1 v57 h10) fun v58 =>
  F.ob (fld 12 v0) fun v59 =>
  F.ob (ld false 1 v59 h10) fun v60 =>
  obh (cl 155 [v58, v60, (.s (.int .i64 10000))] h10) fun v61 h11 =>
  F.ob (pv (.un .not (.c v61))) fun v62 =>
  cnd v62 (
  out [(.s (.str [109, 97, 120]))] h11) (
  F.ob (fld 14 v0) fun v63 =>
  F.ob (ld false 1 v63 h11) fun v64 =>
  obh (cl 155 [v64, (.s (.int .i64 0)), (.s (.int .i64 60))] h11) fun v65 h12 =>
  F.ob (pv (.un .not (.c v65))) fun v66 =>
  cnd v66 (
  out [(.s (.str [99, 97, 108, 109, 117, 112]))] h12) (
  F.ob (fld 15 v0) fun v67 =>
  F.ob (ld false 1 v67 h12) fun v68 =>
  obh (cl 155 [v68, (.s (.int .i64 0)), (.s (.int .i64 60))] h12) fun v69 h13 =>
  F.ob (pv (.un .not (.c v69))) fun v70 =>
  cnd v70 (
  out [(.s (.str [99, 97, 108, 109, 100, 111, 119, 110]))] h13) (
  F.ob (fld 16 v0) fun v71 =>
  F.ob (ld false 1 v71 h13) fun v72 =>
  obh (cl 155 [v72, (.s (.int .i64 1)), (.s (.int .i64 1000))] h13) fun v73 h14 =>
  F.ob (pv (.un .not (.c v73))) fun v74 =>
  cnd v74 (
  out [(.s (.str [112, 111, 100, 115, 117, 112]))] h14) (
  F.ob (fld 17 v0) fun v75 =>
  F.ob (ld false 1 v75 h14) fun v76 =>
  obh (cl 155 [v76, (.s (.int .i64 1)), (.s (.int .i64 1000))] h14) fun v77 h15 =>
  F.ob (pv (.un .not (.c v77))) fun v78 =>
  cnd v78 (
  out [(.s (.str [112, 99, 116, 117, 112]))] h15) (
  F.ob (fld 18 v0) fun v79 =>
  F.ob (ld false 1 v79 h15) fun v80 =>
  obh (cl 155 [v80, (.s (.int .i64 1)), (.s (.int .i64 1000))] h15) fun v81 h16 =>
  F.ob (pv (.un .not (.c v81))) fun v82 =>
  cnd v82 (
  out [(.s (.str [112, 111, 100, 115, 100, 111, 119, 110]))] h16) (
  F.ob (fld 19 v0) fun v83 =>
  F.ob (ld false 1 v83 h16) fun v84 =>
  obh (cl 155 [v84, (.s (.int .i64 1)), (.s (.int .i64 100))] h16) fun v85 h17 =>
  F.ob (pv (.un .not (.c v85))) fun v86 =>
  cnd v86 (
  out [(.s (.str [112, 99, 116, 100, 111, 119, 110]))] h17) (
  F.ob (fld 20 v0) fun v87 =>
  F.ob (ld false 1 v87 h17) fun v88 =>
  obh (cl 155 [v88, (.s (.int .i64 1)), (.s (.int .i64 60))] h17) fun v89 h18 =>
  F.ob (pv (.un .not (.c v89))) fun v90 =>
  cnd v90 (
  out [(.s (.str [112, 101, 114, 105, 111, 100]))] h18) (
  F.ob (fld 21 v0) fun v91 =>
  F.ob (ld false 1 v91 h18) fun v92 =>
  F.ob (F.bin .lss v92 (.s (.int .i64 0))) fun v93 =>
  F.ob (gd v93 false (fld 21 v0) (some nought)) fun v94 =>
  F.ob (gd v93 false (ld false 1 v94 h18) (some nought)) fun v95 =>
  F.ob (gd v93 false (F.bin .gtr v95 (.s (.int .i64 1099511627776))) (some nought)) fun v96 =>
  F.ob (pv (.pick (.c v93) (.c (.s (.bool true))) (.c v96))) fun v97 =>
  cnd v97 (
  out [(.s (.str [102, 97, 114]))] h18) (
  F.ob (fld 22 v0) fun v98 =>
  F.ob (ld false 1 v98 h18) fun v99 =>
  obh (cl 155 [v99, (.s (.int .i64 1)), (.s (.int .i64 100))] h18) fun v100 h19 =>
  F.ob (pv (.un .not (.c v100))) fun v101 =>
  cnd v101 (
  out [(.s (.str [115, 116, 114, 105, 107, 101, 115]))] h19) (
  F.ob (fld 23 v0) fun v102 =>
  F.ob (ld false 1 v102 h19) fun v103 =>
  obh (cl 155 [v103, (.s (.int .i64 1)), (.s (.int .i64 100))] h19) fun v104 h20 =>
  F.ob (pv (.un .not (.c v104))) fun v105 =>
  cnd v105 (
  out [(.s (.str [112, 114, 111, 98, 101]))] h20) (
  F.ob (fld 24 v0) fun v106 =>
  F.ob (ld false 1 v106 h20) fun v107 =>
  obh (cl 155 [v107, (.s (.int .i64 64)), (.s (.int .i64 4096))] h20) fun v108 h21 =>
  F.ob (pv (.un .not (.c v108))) fun v109 =>
  cnd v109 (
  out [(.s (.str [115, 101, 99, 116, 111, 114, 115]))] h21) (
  out [(.s (.str []))] h21))))))))))))))))))))))
theorem e80 : (fun (fx : Fx) (cl : Cl) (a0 : AV) (h0 : H) => denF fx cl d80 [a0] h0) = g80 := by kernel_rfl
def d32r0 : D := .reg false [⟨(.some 1), .box 27 (.t 0), .none, 0⟩, ⟨(.some 2), .mv (.c (.s (.bool false))), .none, 0⟩] []
def d32r1 : D := .reg false [⟨(.some 3), .ld true 26 (.t 1), .none, 0⟩, ⟨(.some 4), .call 80 [(.t 3)], .none, 0⟩, ⟨(.some 5), .bin .eql (.t 4) (.c (.s (.str []))), .none, 0⟩, ⟨(.some 2), .mv (.t 5), .none, 0⟩] []
/-- quorumite/quorumiteref1.MayConf -/
def d32 : Df := ⟨3, [.t 2], (.seq d32r0 (.seq d32r1 .ret))⟩
noncomputable def g32 (fx : Fx) (cl : Cl) (a0 : AV) (h0 : H) : R :=
  obh (mkv (.box 27 (.c a0)) h0) fun v0 h1 =>
  F.ob (ld true 26 v0 h1) fun v1 =>
  obh (cl 80 [v1] h1) fun v2 h2 =>
  F.ob (F.bin .eql v2 (.s (.str []))) fun v3 =>
  out [v3] h2
theorem e32 : (fun (fx : Fx) (cl : Cl) (a0 : AV) (h0 : H) => denF fx cl d32 [a0] h0) = g32 := by kernel_rfl
end Go.AM.T20
