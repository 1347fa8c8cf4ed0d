/- The text, piece by piece, by program. -/
import Derived.Test.YthakgknamfopcaaChecked
import Derived.Test.YthakgknamfopcaaTypes
namespace Go.Proofs.Ythakgknamfopcaa
open Go Go.Lv
set_option linter.unusedVariables false
set_option maxRecDepth 100000
/-! gosem.cut.init -/
noncomputable def r2_0 : Code := subC (bodyC Try.f2) []
instance : RegOps r2_0 1 [⟨.call ⟨(.value (.func 1)), #[], #[]⟩, (some 0), none⟩] := ⟨0, opsC r2_0, by kernel_rfl, by kernel_rfl, by kernel_rfl⟩
noncomputable def c2 : Code := r2_0
theorem en2 {args : List LV} {H : LH} {R : LOut → LH → Prop} (hn : args.length ≤ 1) (h : WP Try.prog ⟨2, 1, 0, [], none, none⟩ [.code c2] (argsK 0 args) H (Fin Try.prog R)) : CallP Try.prog 2 args H R :=
  CallP.enter (fn := Try.f2) (c := c2) (by kernel_rfl) (by kernel_rfl) (by kernel_rfl) hn h
instance : FnRes Try.prog 2 [] := ⟨Try.f2, by kernel_rfl, by kernel_rfl⟩
/-! seepage/seepagelaw44.JournalAppends -/
noncomputable def r3_0 : Code := subC (bodyC Try.f3) [0]
instance : RegOps r3_0 49 [⟨.box 28 (.tmp 1), (some 3), none⟩,
    ⟨.assign (.const (.bool false)), (some 4), none⟩] := ⟨0, opsC r3_0, by kernel_rfl, by kernel_rfl, by kernel_rfl⟩
noncomputable def r3_1 : Code := subC (bodyC Try.f3) [1, 0, 0]
instance : RegOps r3_1 49 [⟨.move (.tmp 0), (some 9), none⟩,
    ⟨.call ⟨(.builtin .len), #[(.tmp 9)], #[22]⟩, (some 10), none⟩,
    ⟨.binOp .gtr 3 (.tmp 10) (.const (.int .i64 2000)) 3, (some 11), none⟩,
    ⟨.move (.tmp 11), (some 12), none⟩,
    ⟨.load 28 (.tmp 3), (some 13), (some (12, false))⟩,
    ⟨.buildSlice 30 1 #[(0, (.tmp 13))], (some 14), (some (12, false))⟩,
    ⟨.call ⟨(.value (.func 8)), #[(.tmp 14), (.const (.int .i64 1))], #[30, 3]⟩, (some 15), (some (12, false))⟩,
    ⟨.unOp .not 4 (.tmp 15), (some 16), (some (12, false))⟩,
    ⟨.pick (.tmp 12) (.const (.bool true)) (.tmp 16), (some 17), none⟩] := ⟨1, opsC r3_1, by kernel_rfl, by kernel_rfl, by kernel_rfl⟩
noncomputable def r3_2 : Code := subC (bodyC Try.f3) [1, 0, 1, 0, 0]
instance : RegOps r3_2 49 [⟨.call ⟨(.value (.func 9)), #[], #[]⟩, (some 18), none⟩,
    ⟨.assign (.tmp 18), (some 4), none⟩] := ⟨2, opsC r3_2, by kernel_rfl, by kernel_rfl, by kernel_rfl⟩
noncomputable def r3_3 : Code := subC (bodyC Try.f3) [1, 1, 0]
instance : RegOps r3_3 49 [⟨.move (.tmp 0), (some 20), none⟩,
    ⟨.load 28 (.tmp 3), (some 21), none⟩,
    ⟨.call ⟨(.value (.func 10)), #[(.tmp 20), (.tmp 21)], #[22, 28]⟩, (some 22), none⟩,
    ⟨.move (.tmp 22), (some 19), none⟩,
    ⟨.extract (.tmp 19) 0, (some 23), none⟩,
    ⟨.extract (.tmp 19) 1, (some 24), none⟩,
    ⟨.assign (.tmp 23), (some 5), none⟩,
    ⟨.assign (.tmp 24), (some 6), none⟩] := ⟨3, opsC r3_3, by kernel_rfl, by kernel_rfl, by kernel_rfl⟩
noncomputable def r3_4 : Code := subC (bodyC Try.f3) [1, 1, 1, 0]
instance : RegOps r3_4 49 [⟨.move (.tmp 0), (some 26), none⟩,
    ⟨.load 28 (.tmp 3), (some 27), none⟩,
    ⟨.call ⟨(.value (.func 11)), #[(.tmp 26), (.tmp 27)], #[22, 28]⟩, (some 28), none⟩,
    ⟨.move (.tmp 28), (some 25), none⟩,
    ⟨.extract (.tmp 25) 0, (some 29), none⟩,
    ⟨.extract (.tmp 25) 1, (some 30), none⟩,
    ⟨.assign (.tmp 29), (some 7), none⟩,
    ⟨.assign (.tmp 30), (some 8), none⟩] := ⟨4, opsC r3_4, by kernel_rfl, by kernel_rfl, by kernel_rfl⟩
noncomputable def r3_5 : Code := subC (bodyC Try.f3) [1, 1, 1, 1, 0]
instance : RegConf Try.prog r3_5 49 true [(2, 9), (2, 11), (9, 10), (9, 12), (9, 16), (11, 12), (11, 16)] [⟨.move (.tmp 5), (some 31), none⟩,
    ⟨.move (.tmp 7), (some 32), none⟩,
    ⟨.call ⟨(.value (.func 12)), #[(.tmp 31), (.tmp 32)], #[22, 22]⟩, (some 33), none⟩,
    ⟨.move (.tmp 33), (some 34), none⟩,
    ⟨.move (.tmp 6), (some 35), (some (34, true))⟩,
    ⟨.move (.tmp 8), (some 36), (some (34, true))⟩,
    ⟨.binOp .eql 32 (.tmp 35) (.tmp 36) 32, (some 37), (some (34, true))⟩,
    ⟨.pick (.tmp 34) (.tmp 37) (.const (.bool false)), (some 38), none⟩,
    ⟨.move (.tmp 38), (some 39), none⟩,
    ⟨.load 28 (.tmp 3), (some 40), (some (39, true))⟩,
    ⟨.call ⟨(.value (.func 13)), #[(.tmp 40)], #[28]⟩, (some 41), (some (39, true))⟩,
    ⟨.load 28 (.tmp 3), (some 42), (some (39, true))⟩,
    ⟨.call ⟨(.value (.func 14)), #[(.tmp 42)], #[28]⟩, (some 43), (some (39, true))⟩,
    ⟨.binOp .eql 4 (.tmp 41) (.tmp 43) 4, (some 44), (some (39, true))⟩,
    ⟨.pick (.tmp 39) (.tmp 44) (.const (.bool false)), (some 45), none⟩,
    ⟨.move (.tmp 45), (some 46), none⟩,
    ⟨.call ⟨(.value (.func 9)), #[], #[]⟩, (some 47), (some (46, true))⟩,
    ⟨.pick (.tmp 46) (.tmp 47) (.const (.bool false)), (some 48), none⟩,
    ⟨.assign (.tmp 48), (some 4), none⟩] := ⟨5, opsC r3_5, by kernel_rfl, by kernel_rfl, by kernel_rfl, by kernel_rfl, by kernel_rfl, by kernel_rfl, by kernel_rfl⟩
noncomputable def c3 : Code := (.seq r3_0 (.seq (.seq r3_1 (.cond (.tmp 17) (.seq r3_2 .ret) .skip)) (.seq r3_3 (.seq r3_4 (.seq r3_5 .ret)))))
theorem en3 {args : List LV} {H : LH} {R : LOut → LH → Prop} (hn : args.length ≤ 49) (h : WP Try.prog ⟨3, 49, 0, [], none, none⟩ [.code c3] (argsK 0 args) H (Fin Try.prog R)) : CallP Try.prog 3 args H R :=
  CallP.enter (fn := Try.f3) (c := c3) (by kernel_rfl) (by kernel_rfl) (by kernel_rfl) hn h
instance : FnRes Try.prog 3 [.tmp 4] := ⟨Try.f3, by kernel_rfl, by kernel_rfl⟩
/-! seepage/seepagelaw44.JournalCuts -/
noncomputable def r4_0 : Code := subC (bodyC Try.f4) [0]
instance : RegOps r4_0 71 [⟨.assign (.const (.bool false)), (some 2), none⟩] := ⟨0, opsC r4_0, by kernel_rfl, by kernel_rfl, by kernel_rfl⟩
noncomputable def r4_1 : Code := subC (bodyC Try.f4) [1, 0, 0]
instance : RegOps r4_1 71 [⟨.move (.tmp 0), (some 11), none⟩,
    ⟨.call ⟨(.value (.func 8)), #[(.tmp 11), (.const (.int .i64 20))], #[30, 3]⟩, (some 12), none⟩,
    ⟨.unOp .not 4 (.tmp 12), (some 13), none⟩] := ⟨1, opsC r4_1, by kernel_rfl, by kernel_rfl, by kernel_rfl⟩
noncomputable def r4_2 : Code := subC (bodyC Try.f4) [1, 0, 1, 0, 0]
instance : RegOps r4_2 71 [⟨.call ⟨(.value (.func 9)), #[], #[]⟩, (some 14), none⟩,
    ⟨.assign (.tmp 14), (some 2), none⟩] := ⟨2, opsC r4_2, by kernel_rfl, by kernel_rfl, by kernel_rfl⟩
noncomputable def r4_3 : Code := subC (bodyC Try.f4) [1, 1, 0]
instance : RegOps r4_3 71 [⟨.move (.tmp 0), (some 16), none⟩,
    ⟨.call ⟨(.value (.func 15)), #[(.tmp 16)], #[30]⟩, (some 17), none⟩,
    ⟨.move (.tmp 17), (some 15), none⟩,
    ⟨.extract (.tmp 15) 0, (some 18), none⟩,
    ⟨.extract (.tmp 15) 1, (some 19), none⟩,
    ⟨.extract (.tmp 15) 2, (some 20), none⟩,
    ⟨.assign (.tmp 18), (some 3), none⟩,
    ⟨.assign (.tmp 19), (some 4), none⟩,
    ⟨.assign (.tmp 20), (some 5), none⟩] := ⟨3, opsC r4_3, by kernel_rfl, by kernel_rfl, by kernel_rfl⟩
noncomputable def r4_4 : Code := subC (bodyC Try.f4) [1, 1, 1, 0, 0]
instance : RegOps r4_4 71 [⟨.move (.tmp 3), (some 21), none⟩,
    ⟨.call ⟨(.builtin .len), #[(.tmp 21)], #[22]⟩, (some 22), none⟩,
    ⟨.binOp .gtr 3 (.tmp 22) (.const (.int .i64 1500)) 3, (some 23), none⟩] := ⟨4, opsC r4_4, by kernel_rfl, by kernel_rfl, by kernel_rfl⟩
noncomputable def r4_5 : Code := subC (bodyC Try.f4) [1, 1, 1, 0, 1, 0, 0]
instance : RegOps r4_5 71 [⟨.call ⟨(.value (.func 9)), #[], #[]⟩, (some 24), none⟩,
    ⟨.assign (.tmp 24), (some 2), none⟩] := ⟨5, opsC r4_5, by kernel_rfl, by kernel_rfl, by kernel_rfl⟩
noncomputable def r4_6 : Code := subC (bodyC Try.f4) [1, 1, 1, 1, 0]
instance : RegOps r4_6 71 [⟨.assign (.const (.int .i64 0)), (some 6), none⟩] := ⟨6, opsC r4_6, by kernel_rfl, by kernel_rfl, by kernel_rfl⟩
noncomputable def r4_7 : Code := subC (bodyC Try.f4) [1, 1, 1, 1, 1, 0, 0]
instance : RegOps r4_7 71 [⟨.assign (.const (.int .i64 0)), (some 7), none⟩] := ⟨7, opsC r4_7, by kernel_rfl, by kernel_rfl, by kernel_rfl⟩
noncomputable def r4_8 : Code := subC (bodyC Try.f4) [1, 1, 1, 1, 1, 0, 1, 0, 0, 0, 0]
instance : RegOps r4_8 71 [⟨.move (.tmp 7), (some 25), none⟩,
    ⟨.move (.tmp 3), (some 26), none⟩,
    ⟨.call ⟨(.builtin .len), #[(.tmp 26)], #[22]⟩, (some 27), none⟩,
    ⟨.binOp .leq 3 (.tmp 25) (.tmp 27) 3, (some 28), none⟩] := ⟨8, opsC r4_8, by kernel_rfl, by kernel_rfl, by kernel_rfl⟩
noncomputable def r4_10 : Code := subC (bodyC Try.f4) [1, 1, 1, 1, 1, 0, 1, 0, 0, 1, 0, 0, 0, 0, 0, 0, 0]
instance : RegOps r4_10 71 [⟨.move (.tmp 6), (some 31), none⟩,
    ⟨.move (.tmp 5), (some 32), none⟩,
    ⟨.call ⟨(.builtin .len), #[(.tmp 32)], #[38]⟩, (some 33), none⟩,
    ⟨.binOp .lss 3 (.tmp 31) (.tmp 33) 3, (some 34), none⟩,
    ⟨.move (.tmp 34), (some 35), none⟩,
    ⟨.move (.tmp 5), (some 36), (some (35, true))⟩,
    ⟨.move (.tmp 6), (some 37), (some (35, true))⟩,
    ⟨.indexAddr 38 (.tmp 36) (.tmp 37), (some 38), (some (35, true))⟩,
    ⟨.load 3 (.tmp 38), (some 39), (some (35, true))⟩,
    ⟨.move (.tmp 7), (some 40), (some (35, true))⟩,
    ⟨.binOp .leq 3 (.tmp 39) (.tmp 40) 3, (some 41), (some (35, true))⟩,
    ⟨.pick (.tmp 35) (.tmp 41) (.const (.bool false)), (some 42), none⟩] := ⟨10, opsC r4_10, by kernel_rfl, by kernel_rfl, by kernel_rfl⟩
noncomputable def r4_11 : Code := subC (bodyC Try.f4) [1, 1, 1, 1, 1, 0, 1, 0, 0, 1, 0, 0, 0, 0, 0, 1, 0]
instance : RegOps r4_11 71 [⟨.move (.tmp 6), (some 43), none⟩,
    ⟨.binOp .add 3 (.tmp 43) (.const (.int .i64 1)) 3, (some 44), none⟩,
    ⟨.assign (.tmp 44), (some 6), none⟩] := ⟨11, opsC r4_11, by kernel_rfl, by kernel_rfl, by kernel_rfl⟩
noncomputable def r4_12 : Code := subC (bodyC Try.f4) [1, 1, 1, 1, 1, 0, 1, 0, 0, 1, 0, 0, 1, 0]
instance : RegOps r4_12 71 [⟨.move (.tmp 3), (some 46), none⟩,
    ⟨.move (.tmp 7), (some 47), none⟩,
    ⟨.slice 22 (.tmp 46) none (some (.tmp 47)) none, (some 48), none⟩,
    ⟨.call ⟨(.value (.func 16)), #[(.tmp 48)], #[22]⟩, (some 49), none⟩,
    ⟨.move (.tmp 49), (some 45), none⟩,
    ⟨.extract (.tmp 45) 0, (some 50), none⟩,
    ⟨.extract (.tmp 45) 1, (some 51), none⟩,
    ⟨.assign (.tmp 50), (some 8), none⟩,
    ⟨.assign (.tmp 51), (some 9), none⟩] := ⟨12, opsC r4_12, by kernel_rfl, by kernel_rfl, by kernel_rfl⟩
noncomputable def r4_13 : Code := subC (bodyC Try.f4) [1, 1, 1, 1, 1, 0, 1, 0, 0, 1, 0, 0, 1, 1, 0]
instance : RegOps r4_13 71 [⟨.assign (.const (.int .i64 0)), (some 10), none⟩] := ⟨13, opsC r4_13, by kernel_rfl, by kernel_rfl, by kernel_rfl⟩
noncomputable def r4_14 : Code := subC (bodyC Try.f4) [1, 1, 1, 1, 1, 0, 1, 0, 0, 1, 0, 0, 1, 1, 1, 0, 0]
instance : RegOps r4_14 71 [⟨.move (.tmp 6), (some 52), none⟩,
    ⟨.binOp .gtr 3 (.tmp 52) (.const (.int .i64 0)) 3, (some 53), none⟩] := ⟨14, opsC r4_14, by kernel_rfl, by kernel_rfl, by kernel_rfl⟩
noncomputable def r4_15 : Code := subC (bodyC Try.f4) [1, 1, 1, 1, 1, 0, 1, 0, 0, 1, 0, 0, 1, 1, 1, 0, 1, 0]
instance : RegOps r4_15 71 [⟨.move (.tmp 5), (some 54), none⟩,
    ⟨.move (.tmp 6), (some 55), none⟩,
    ⟨.binOp .sub 3 (.tmp 55) (.const (.int .i64 1)) 3, (some 56), none⟩,
    ⟨.indexAddr 38 (.tmp 54) (.tmp 56), (some 57), none⟩,
    ⟨.load 3 (.tmp 57), (some 58), none⟩,
    ⟨.assign (.tmp 58), (some 10), none⟩] := ⟨15, opsC r4_15, by kernel_rfl, by kernel_rfl, by kernel_rfl⟩
noncomputable def r4_16 : Code := subC (bodyC Try.f4) [1, 1, 1, 1, 1, 0, 1, 0, 0, 1, 0, 0, 1, 1, 1, 1, 0]
instance : RegOps r4_16 71 [⟨.move (.tmp 9), (some 59), none⟩,
    ⟨.move (.tmp 10), (some 60), none⟩,
    ⟨.binOp .neq 3 (.tmp 59) (.tmp 60) 3, (some 61), none⟩,
    ⟨.move (.tmp 61), (some 62), none⟩,
    ⟨.move (.tmp 8), (some 63), (some (62, false))⟩,
    ⟨.move (.tmp 4), (some 64), (some (62, false))⟩,
    ⟨.move (.tmp 6), (some 65), (some (62, false))⟩,
    ⟨.slice 30 (.tmp 64) none (some (.tmp 65)) none, (some 66), (some (62, false))⟩,
    ⟨.call ⟨(.value (.func 17)), #[(.tmp 63), (.tmp 66)], #[30, 30]⟩, (some 67), (some (62, false))⟩,
    ⟨.unOp .not 4 (.tmp 67), (some 68), (some (62, false))⟩,
    ⟨.pick (.tmp 62) (.const (.bool true)) (.tmp 68), (some 69), none⟩] := ⟨16, opsC r4_16, by kernel_rfl, by kernel_rfl, by kernel_rfl⟩
noncomputable def r4_17 : Code := subC (bodyC Try.f4) [1, 1, 1, 1, 1, 0, 1, 0, 0, 1, 0, 0, 1, 1, 1, 1, 1, 0, 0]
instance : RegOps r4_17 71 [⟨.assign (.const (.bool false)), (some 2), none⟩] := ⟨17, opsC r4_17, by kernel_rfl, by kernel_rfl, by kernel_rfl⟩
noncomputable def r4_9 : Code := subC (bodyC Try.f4) [1, 1, 1, 1, 1, 0, 1, 0, 0, 1, 1]
instance : RegOps r4_9 71 [⟨.move (.tmp 7), (some 29), none⟩,
    ⟨.binOp .add 3 (.tmp 29) (.const (.int .i64 1)) 3, (some 30), none⟩,
    ⟨.assign (.tmp 30), (some 7), none⟩] := ⟨9, opsC r4_9, by kernel_rfl, by kernel_rfl, by kernel_rfl⟩
noncomputable def r4_18 : Code := subC (bodyC Try.f4) [1, 1, 1, 1, 1, 1, 0]
instance : RegOps r4_18 71 [⟨.call ⟨(.value (.func 9)), #[], #[]⟩, (some 70), none⟩,
    ⟨.assign (.tmp 70), (some 2), none⟩] := ⟨18, opsC r4_18, by kernel_rfl, by kernel_rfl, by kernel_rfl⟩
noncomputable def c4 : Code := (.seq r4_0 (.seq (.seq r4_1 (.cond (.tmp 13) (.seq r4_2 .ret) .skip)) (.seq r4_3 (.seq (.seq r4_4 (.cond (.tmp 23) (.seq r4_5 .ret) .skip)) (.seq r4_6 (.seq (.seq r4_7 (.block 0 (.loop (.seq (.seq r4_8 (.cond (.tmp 28) .skip (.exit 0))) (.seq (.block 1 (.seq (.block 2 (.loop (.seq (.seq r4_10 (.cond (.tmp 42) .skip (.exit 2))) (.block 3 r4_11)))) (.seq r4_12 (.seq r4_13 (.seq (.seq r4_14 (.cond (.tmp 53) r4_15 .skip)) (.seq r4_16 (.cond (.tmp 69) (.seq r4_17 .ret) .skip))))))) r4_9))))) (.seq r4_18 .ret)))))))
theorem en4 {args : List LV} {H : LH} {R : LOut → LH → Prop} (hn : args.length ≤ 71) (h : WP Try.prog ⟨4, 71, 0, [], none, none⟩ [.code c4] (argsK 0 args) H (Fin Try.prog R)) : CallP Try.prog 4 args H R :=
  CallP.enter (fn := Try.f4) (c := c4) (by kernel_rfl) (by kernel_rfl) (by kernel_rfl) hn h
instance : FnRes Try.prog 4 [.tmp 2] := ⟨Try.f4, by kernel_rfl, by kernel_rfl⟩
/-! seepage/seepagelaw44.JournalFlips -/
noncomputable def r5_0 : Code := subC (bodyC Try.f5) [0]
instance : RegOps r5_0 108 [⟨.assign (.const (.bool false)), (some 6), none⟩] := ⟨0, opsC r5_0, by kernel_rfl, by kernel_rfl, by kernel_rfl⟩
noncomputable def r5_1 : Code := subC (bodyC Try.f5) [1, 0, 0]
instance : RegOps r5_1 108 [⟨.move (.tmp 0), (some 19), none⟩,
    ⟨.call ⟨(.value (.func 8)), #[(.tmp 19), (.const (.int .i64 20))], #[30, 3]⟩, (some 20), none⟩,
    ⟨.unOp .not 4 (.tmp 20), (some 21), none⟩,
    ⟨.move (.tmp 21), (some 22), none⟩,
    ⟨.move (.tmp 2), (some 23), (some (22, false))⟩,
    ⟨.binOp .eql 5 (.tmp 23) (.const (.int .u8 0)) 5, (some 24), (some (22, false))⟩,
    ⟨.pick (.tmp 22) (.const (.bool true)) (.tmp 24), (some 25), none⟩] := ⟨1, opsC r5_1, by kernel_rfl, by kernel_rfl, by kernel_rfl⟩
noncomputable def r5_2 : Code := subC (bodyC Try.f5) [1, 0, 1, 0, 0]
instance : RegOps r5_2 108 [⟨.call ⟨(.value (.func 9)), #[], #[]⟩, (some 26), none⟩,
    ⟨.assign (.tmp 26), (some 6), none⟩] := ⟨2, opsC r5_2, by kernel_rfl, by kernel_rfl, by kernel_rfl⟩
noncomputable def r5_3 : Code := subC (bodyC Try.f5) [1, 1, 0]
instance : RegOps r5_3 108 [⟨.move (.tmp 0), (some 28), none⟩,
    ⟨.call ⟨(.value (.func 15)), #[(.tmp 28)], #[30]⟩, (some 29), none⟩,
    ⟨.move (.tmp 29), (some 27), none⟩,
    ⟨.extract (.tmp 27) 0, (some 30), none⟩,
    ⟨.extract (.tmp 27) 1, (some 31), none⟩,
    ⟨.extract (.tmp 27) 2, (some 32), none⟩,
    ⟨.assign (.tmp 30), (some 7), none⟩,
    ⟨.assign (.tmp 31), (some 8), none⟩,
    ⟨.assign (.tmp 32), (some 9), none⟩] := ⟨3, opsC r5_3, by kernel_rfl, by kernel_rfl, by kernel_rfl⟩
noncomputable def r5_4 : Code := subC (bodyC Try.f5) [1, 1, 1, 0, 0]
instance : RegOps r5_4 108 [⟨.move (.tmp 7), (some 33), none⟩,
    ⟨.call ⟨(.builtin .len), #[(.tmp 33)], #[22]⟩, (some 34), none⟩,
    ⟨.binOp .eql 3 (.tmp 34) (.const (.int .i64 0)) 3, (some 35), none⟩] := ⟨4, opsC r5_4, by kernel_rfl, by kernel_rfl, by kernel_rfl⟩
noncomputable def r5_5 : Code := subC (bodyC Try.f5) [1, 1, 1, 0, 1, 0, 0]
instance : RegOps r5_5 108 [⟨.move (.tmp 8), (some 36), none⟩,
    ⟨.call ⟨(.builtin .len), #[(.tmp 36)], #[30]⟩, (some 37), none⟩,
    ⟨.binOp .eql 3 (.tmp 37) (.const (.int .i64 0)) 3, (some 38), none⟩,
    ⟨.move (.tmp 38), (some 39), none⟩,
    ⟨.call ⟨(.value (.func 9)), #[], #[]⟩, (some 40), (some (39, true))⟩,
    ⟨.pick (.tmp 39) (.tmp 40) (.const (.bool false)), (some 41), none⟩,
    ⟨.assign (.tmp 41), (some 6), none⟩] := ⟨5, opsC r5_5, by kernel_rfl, by kernel_rfl, by kernel_rfl⟩
noncomputable def r5_6 : Code := subC (bodyC Try.f5) [1, 1, 1, 1, 0]
instance : RegOps r5_6 108 [⟨.move (.tmp 1), (some 42), none⟩,
    ⟨.convert 45 3 (.tmp 42), (some 43), none⟩,
    ⟨.move (.tmp 7), (some 44), none⟩,
    ⟨.call ⟨(.builtin .len), #[(.tmp 44)], #[22]⟩, (some 45), none⟩,
    ⟨.binOp .rem 3 (.tmp 43) (.tmp 45) 3, (some 46), none⟩,
    ⟨.assign (.tmp 46), (some 10), none⟩] := ⟨6, opsC r5_6, by kernel_rfl, by kernel_rfl, by kernel_rfl⟩
noncomputable def r5_7 : Code := subC (bodyC Try.f5) [1, 1, 1, 1, 1, 0]
instance : RegOps r5_7 108 [⟨.assign (.const (.int .i64 0)), (some 11), none⟩] := ⟨7, opsC r5_7, by kernel_rfl, by kernel_rfl, by kernel_rfl⟩
noncomputable def r5_8 : Code := subC (bodyC Try.f5) [1, 1, 1, 1, 1, 1, 0, 0, 0, 0, 0]
instance : RegOps r5_8 108 [⟨.move (.tmp 9), (some 47), none⟩,
    ⟨.move (.tmp 11), (some 48), none⟩,
    ⟨.indexAddr 38 (.tmp 47) (.tmp 48), (some 49), none⟩,
    ⟨.load 3 (.tmp 49), (some 50), none⟩,
    ⟨.move (.tmp 10), (some 51), none⟩,
    ⟨.binOp .leq 3 (.tmp 50) (.tmp 51) 3, (some 52), none⟩] := ⟨8, opsC r5_8, by kernel_rfl, by kernel_rfl, by kernel_rfl⟩
noncomputable def r5_9 : Code := subC (bodyC Try.f5) [1, 1, 1, 1, 1, 1, 0, 0, 0, 1, 0]
instance : RegOps r5_9 108 [⟨.move (.tmp 11), (some 53), none⟩,
    ⟨.binOp .add 3 (.tmp 53) (.const (.int .i64 1)) 3, (some 54), none⟩,
    ⟨.assign (.tmp 54), (some 11), none⟩] := ⟨9, opsC r5_9, by kernel_rfl, by kernel_rfl, by kernel_rfl⟩
noncomputable def r5_10 : Code := subC (bodyC Try.f5) [1, 1, 1, 1, 1, 1, 1, 0]
instance : RegOps r5_10 108 [⟨.assign (.const (.int .i64 0)), (some 12), none⟩] := ⟨10, opsC r5_10, by kernel_rfl, by kernel_rfl, by kernel_rfl⟩
noncomputable def r5_11 : Code := subC (bodyC Try.f5) [1, 1, 1, 1, 1, 1, 1, 1, 0, 0]
instance : RegOps r5_11 108 [⟨.move (.tmp 11), (some 55), none⟩,
    ⟨.binOp .gtr 3 (.tmp 55) (.const (.int .i64 0)) 3, (some 56), none⟩] := ⟨11, opsC r5_11, by kernel_rfl, by kernel_rfl, by kernel_rfl⟩
noncomputable def r5_12 : Code := subC (bodyC Try.f5) [1, 1, 1, 1, 1, 1, 1, 1, 0, 1, 0]
instance : RegOps r5_12 108 [⟨.move (.tmp 9), (some 57), none⟩,
    ⟨.move (.tmp 11), (some 58), none⟩,
    ⟨.binOp .sub 3 (.tmp 58) (.const (.int .i64 1)) 3, (some 59), none⟩,
    ⟨.indexAddr 38 (.tmp 57) (.tmp 59), (some 60), none⟩,
    ⟨.load 3 (.tmp 60), (some 61), none⟩,
    ⟨.assign (.tmp 61), (some 12), none⟩] := ⟨12, opsC r5_12, by kernel_rfl, by kernel_rfl, by kernel_rfl⟩
noncomputable def r5_13 : Code := subC (bodyC Try.f5) [1, 1, 1, 1, 1, 1, 1, 1, 1, 0]
instance : RegOps r5_13 108 [⟨.move (.tmp 7), (some 63), none⟩,
    ⟨.move (.tmp 12), (some 64), none⟩,
    ⟨.slice 22 (.tmp 63) (some (.tmp 64)) none none, (some 65), none⟩,
    ⟨.call ⟨(.value (.func 18)), #[(.tmp 65)], #[22]⟩, (some 66), none⟩,
    ⟨.move (.tmp 66), (some 62), none⟩,
    ⟨.extract (.tmp 62) 0, (some 67), none⟩,
    ⟨.extract (.tmp 62) 1, (some 68), none⟩,
    ⟨.extract (.tmp 62) 2, (some 69), none⟩,
    ⟨.assign (.tmp 67), (some 13), none⟩,
    ⟨.assign (.tmp 68), (some 14), none⟩,
    ⟨.assign (.tmp 69), (some 15), none⟩] := ⟨13, opsC r5_13, by kernel_rfl, by kernel_rfl, by kernel_rfl⟩
noncomputable def r5_14 : Code := subC (bodyC Try.f5) [1, 1, 1, 1, 1, 1, 1, 1, 1, 1, 0, 0]
instance : RegOps r5_14 108 [⟨.move (.tmp 15), (some 70), none⟩,
    ⟨.binOp .neq 32 (.tmp 70) (.const (.int .i64 0)) 32, (some 71), none⟩] := ⟨14, opsC r5_14, by kernel_rfl, by kernel_rfl, by kernel_rfl⟩
noncomputable def r5_15 : Code := subC (bodyC Try.f5) [1, 1, 1, 1, 1, 1, 1, 1, 1, 1, 0, 1, 0, 0]
instance : RegOps r5_15 108 [⟨.assign (.const (.bool false)), (some 6), none⟩] := ⟨15, opsC r5_15, by kernel_rfl, by kernel_rfl, by kernel_rfl⟩
noncomputable def r5_16 : Code := subC (bodyC Try.f5) [1, 1, 1, 1, 1, 1, 1, 1, 1, 1, 1, 0, 0]
instance : RegOps r5_16 108 [⟨.move (.tmp 10), (some 72), none⟩,
    ⟨.move (.tmp 12), (some 73), none⟩,
    ⟨.move (.tmp 14), (some 74), none⟩,
    ⟨.binOp .add 3 (.tmp 73) (.tmp 74) 3, (some 75), none⟩,
    ⟨.binOp .lss 3 (.tmp 72) (.tmp 75) 3, (some 76), none⟩] := ⟨16, opsC r5_16, by kernel_rfl, by kernel_rfl, by kernel_rfl⟩
noncomputable def r5_17 : Code := subC (bodyC Try.f5) [1, 1, 1, 1, 1, 1, 1, 1, 1, 1, 1, 0, 1, 0, 0]
instance : RegOps r5_17 108 [⟨.call ⟨(.value (.func 9)), #[], #[]⟩, (some 77), none⟩,
    ⟨.assign (.tmp 77), (some 6), none⟩] := ⟨17, opsC r5_17, by kernel_rfl, by kernel_rfl, by kernel_rfl⟩
noncomputable def r5_18 : Code := subC (bodyC Try.f5) [1, 1, 1, 1, 1, 1, 1, 1, 1, 1, 1, 1, 0]
instance : RegOps r5_18 108 [⟨.buildSlice 22 0 #[], (some 78), none⟩,
    ⟨.move (.tmp 7), (some 79), none⟩,
    ⟨.call ⟨(.builtin .append), #[(.tmp 78), (.tmp 79)], #[22, 22]⟩, (some 80), none⟩,
    ⟨.assign (.tmp 80), (some 16), none⟩] := ⟨18, opsC r5_18, by kernel_rfl, by kernel_rfl, by kernel_rfl⟩
noncomputable def r5_19 : Code := subC (bodyC Try.f5) [1, 1, 1, 1, 1, 1, 1, 1, 1, 1, 1, 1, 1, 0]
instance : RegOps r5_19 108 [⟨.move (.tmp 16), (some 81), none⟩,
    ⟨.move (.tmp 10), (some 82), none⟩,
    ⟨.move (.tmp 16), (some 83), none⟩,
    ⟨.move (.tmp 10), (some 84), none⟩,
    ⟨.indexAddr 22 (.tmp 83) (.tmp 84), (some 85), none⟩,
    ⟨.load 5 (.tmp 85), (some 86), none⟩,
    ⟨.move (.tmp 2), (some 87), none⟩,
    ⟨.binOp .xor 5 (.tmp 86) (.tmp 87) 5, (some 88), none⟩,
    ⟨.indexAddr 22 (.tmp 81) (.tmp 82), (some 89), none⟩,
    ⟨.store 5 (.tmp 89) (.tmp 88), none, none⟩] := ⟨19, opsC r5_19, by kernel_rfl, by kernel_rfl, by kernel_rfl⟩
noncomputable def r5_20 : Code := subC (bodyC Try.f5) [1, 1, 1, 1, 1, 1, 1, 1, 1, 1, 1, 1, 1, 1, 0]
instance : RegOps r5_20 108 [⟨.move (.tmp 16), (some 91), none⟩,
    ⟨.call ⟨(.value (.func 16)), #[(.tmp 91)], #[22]⟩, (some 92), none⟩,
    ⟨.move (.tmp 92), (some 90), none⟩,
    ⟨.extract (.tmp 90) 0, (some 93), none⟩,
    ⟨.extract (.tmp 90) 1, (some 94), none⟩,
    ⟨.assign (.tmp 93), (some 17), none⟩,
    ⟨.assign (.tmp 94), (some 18), none⟩] := ⟨20, opsC r5_20, by kernel_rfl, by kernel_rfl, by kernel_rfl⟩
noncomputable def r5_21 : Code := subC (bodyC Try.f5) [1, 1, 1, 1, 1, 1, 1, 1, 1, 1, 1, 1, 1, 1, 1, 0]
instance : RegOps r5_21 108 [⟨.move (.tmp 18), (some 95), none⟩,
    ⟨.move (.tmp 12), (some 96), none⟩,
    ⟨.binOp .eql 3 (.tmp 95) (.tmp 96) 3, (some 97), none⟩,
    ⟨.move (.tmp 97), (some 98), none⟩,
    ⟨.move (.tmp 17), (some 99), (some (98, true))⟩,
    ⟨.move (.tmp 8), (some 100), (some (98, true))⟩,
    ⟨.move (.tmp 11), (some 101), (some (98, true))⟩,
    ⟨.slice 30 (.tmp 100) none (some (.tmp 101)) none, (some 102), (some (98, true))⟩,
    ⟨.call ⟨(.value (.func 17)), #[(.tmp 99), (.tmp 102)], #[30, 30]⟩, (some 103), (some (98, true))⟩,
    ⟨.pick (.tmp 98) (.tmp 103) (.const (.bool false)), (some 104), none⟩,
    ⟨.move (.tmp 104), (some 105), none⟩,
    ⟨.call ⟨(.value (.func 9)), #[], #[]⟩, (some 106), (some (105, true))⟩,
    ⟨.pick (.tmp 105) (.tmp 106) (.const (.bool false)), (some 107), none⟩,
    ⟨.assign (.tmp 107), (some 6), none⟩] := ⟨21, opsC r5_21, by kernel_rfl, by kernel_rfl, by kernel_rfl⟩
noncomputable def c5 : Code := (.seq r5_0 (.seq (.seq r5_1 (.cond (.tmp 25) (.seq r5_2 .ret) .skip)) (.seq r5_3 (.seq (.seq r5_4 (.cond (.tmp 35) (.seq r5_5 .ret) .skip)) (.seq r5_6 (.seq r5_7 (.seq (.block 0 (.loop (.seq (.seq r5_8 (.cond (.tmp 52) .skip (.exit 0))) (.block 1 r5_9)))) (.seq r5_10 (.seq (.seq r5_11 (.cond (.tmp 56) r5_12 .skip)) (.seq r5_13 (.seq (.seq r5_14 (.cond (.tmp 71) (.seq r5_15 .ret) .skip)) (.seq (.seq r5_16 (.cond (.tmp 76) (.seq r5_17 .ret) .skip)) (.seq r5_18 (.seq r5_19 (.seq r5_20 (.seq r5_21 .ret))))))))))))))))
theorem en5 {args : List LV} {H : LH} {R : LOut → LH → Prop} (hn : args.length ≤ 108) (h : WP Try.prog ⟨5, 108, 0, [], none, none⟩ [.code c5] (argsK 0 args) H (Fin Try.prog R)) : CallP Try.prog 5 args H R :=
  CallP.enter (fn := Try.f5) (c := c5) (by kernel_rfl) (by kernel_rfl) (by kernel_rfl) hn h
instance : FnRes Try.prog 5 [.tmp 6] := ⟨Try.f5, by kernel_rfl, by kernel_rfl⟩
/-! seepage/seepagelaw44.JournalReads -/
noncomputable def r6_0 : Code := subC (bodyC Try.f6) [0]
instance : RegOps r6_0 39 [⟨.assign (.const (.bool false)), (some 2), none⟩] := ⟨0, opsC r6_0, by kernel_rfl, by kernel_rfl, by kernel_rfl⟩
noncomputable def r6_1 : Code := subC (bodyC Try.f6) [1, 0, 0]
instance : RegOps r6_1 39 [⟨.move (.tmp 0), (some 7), none⟩,
    ⟨.call ⟨(.builtin .len), #[(.tmp 7)], #[22]⟩, (some 8), none⟩,
    ⟨.binOp .gtr 3 (.tmp 8) (.const (.int .i64 5000)) 3, (some 9), none⟩] := ⟨1, opsC r6_1, by kernel_rfl, by kernel_rfl, by kernel_rfl⟩
noncomputable def r6_2 : Code := subC (bodyC Try.f6) [1, 0, 1, 0, 0]
instance : RegOps r6_2 39 [⟨.call ⟨(.value (.func 9)), #[], #[]⟩, (some 10), none⟩,
    ⟨.assign (.tmp 10), (some 2), none⟩] := ⟨2, opsC r6_2, by kernel_rfl, by kernel_rfl, by kernel_rfl⟩
noncomputable def r6_3 : Code := subC (bodyC Try.f6) [1, 1, 0]
instance : RegOps r6_3 39 [⟨.move (.tmp 0), (some 12), none⟩,
    ⟨.call ⟨(.value (.func 16)), #[(.tmp 12)], #[22]⟩, (some 13), none⟩,
    ⟨.move (.tmp 13), (some 11), none⟩,
    ⟨.extract (.tmp 11) 0, (some 14), none⟩,
    ⟨.extract (.tmp 11) 1, (some 15), none⟩,
    ⟨.assign (.tmp 14), (some 3), none⟩,
    ⟨.assign (.tmp 15), (some 4), none⟩] := ⟨3, opsC r6_3, by kernel_rfl, by kernel_rfl, by kernel_rfl⟩
noncomputable def r6_4 : Code := subC (bodyC Try.f6) [1, 1, 1, 0]
instance : RegOps r6_4 39 [⟨.move (.tmp 0), (some 17), none⟩,
    ⟨.call ⟨(.value (.func 19)), #[(.tmp 17)], #[22]⟩, (some 18), none⟩,
    ⟨.move (.tmp 18), (some 16), none⟩,
    ⟨.extract (.tmp 16) 0, (some 19), none⟩,
    ⟨.extract (.tmp 16) 1, (some 20), none⟩,
    ⟨.assign (.tmp 19), (some 5), none⟩,
    ⟨.assign (.tmp 20), (some 6), none⟩] := ⟨4, opsC r6_4, by kernel_rfl, by kernel_rfl, by kernel_rfl⟩
noncomputable def r6_5 : Code := subC (bodyC Try.f6) [1, 1, 1, 1, 0]
instance : RegOps r6_5 39 [⟨.move (.tmp 3), (some 21), none⟩,
    ⟨.move (.tmp 5), (some 22), none⟩,
    ⟨.call ⟨(.value (.func 17)), #[(.tmp 21), (.tmp 22)], #[30, 30]⟩, (some 23), none⟩,
    ⟨.move (.tmp 23), (some 24), none⟩,
    ⟨.move (.tmp 4), (some 25), (some (24, true))⟩,
    ⟨.move (.tmp 6), (some 26), (some (24, true))⟩,
    ⟨.binOp .eql 3 (.tmp 25) (.tmp 26) 3, (some 27), (some (24, true))⟩,
    ⟨.pick (.tmp 24) (.tmp 27) (.const (.bool false)), (some 28), none⟩,
    ⟨.move (.tmp 28), (some 29), none⟩,
    ⟨.move (.tmp 0), (some 30), (some (29, true))⟩,
    ⟨.call ⟨(.value (.func 20)), #[(.tmp 30)], #[22]⟩, (some 31), (some (29, true))⟩,
    ⟨.move (.tmp 0), (some 32), (some (29, true))⟩,
    ⟨.call ⟨(.value (.func 21)), #[(.tmp 32)], #[22]⟩, (some 33), (some (29, true))⟩,
    ⟨.call ⟨(.value (.func 12)), #[(.tmp 31), (.tmp 33)], #[22, 22]⟩, (some 34), (some (29, true))⟩,
    ⟨.pick (.tmp 29) (.tmp 34) (.const (.bool false)), (some 35), none⟩,
    ⟨.move (.tmp 35), (some 36), none⟩,
    ⟨.call ⟨(.value (.func 9)), #[], #[]⟩, (some 37), (some (36, true))⟩,
    ⟨.pick (.tmp 36) (.tmp 37) (.const (.bool false)), (some 38), none⟩,
    ⟨.assign (.tmp 38), (some 2), none⟩] := ⟨5, opsC r6_5, by kernel_rfl, by kernel_rfl, by kernel_rfl⟩
noncomputable def c6 : Code := (.seq r6_0 (.seq (.seq r6_1 (.cond (.tmp 9) (.seq r6_2 .ret) .skip)) (.seq r6_3 (.seq r6_4 (.seq r6_5 .ret)))))
theorem en6 {args : List LV} {H : LH} {R : LOut → LH → Prop} (hn : args.length ≤ 39) (h : WP Try.prog ⟨6, 39, 0, [], none, none⟩ [.code c6] (argsK 0 args) H (Fin Try.prog R)) : CallP Try.prog 6 args H R :=
  CallP.enter (fn := Try.f6) (c := c6) (by kernel_rfl) (by kernel_rfl) (by kernel_rfl) hn h
instance : FnRes Try.prog 6 [.tmp 2] := ⟨Try.f6, by kernel_rfl, by kernel_rfl⟩
/-! seepage/seepagelaw44.JournalBack -/
noncomputable def r7_0 : Code := subC (bodyC Try.f7) [0]
instance : RegOps r7_0 48 [⟨.assign (.const (.bool false)), (some 2), none⟩] := ⟨0, opsC r7_0, by kernel_rfl, by kernel_rfl, by kernel_rfl⟩
noncomputable def r7_1 : Code := subC (bodyC Try.f7) [1, 0, 0]
instance : RegOps r7_1 48 [⟨.move (.tmp 0), (some 8), none⟩,
    ⟨.call ⟨(.value (.func 8)), #[(.tmp 8), (.const (.int .i64 30))], #[30, 3]⟩, (some 9), none⟩,
    ⟨.unOp .not 4 (.tmp 9), (some 10), none⟩] := ⟨1, opsC r7_1, by kernel_rfl, by kernel_rfl, by kernel_rfl⟩
noncomputable def r7_2 : Code := subC (bodyC Try.f7) [1, 0, 1, 0, 0]
instance : RegOps r7_2 48 [⟨.call ⟨(.value (.func 9)), #[], #[]⟩, (some 11), none⟩,
    ⟨.assign (.tmp 11), (some 2), none⟩] := ⟨2, opsC r7_2, by kernel_rfl, by kernel_rfl, by kernel_rfl⟩
noncomputable def r7_3 : Code := subC (bodyC Try.f7) [1, 1, 0]
instance : RegOps r7_3 48 [⟨.move (.tmp 0), (some 13), none⟩,
    ⟨.call ⟨(.value (.func 15)), #[(.tmp 13)], #[30]⟩, (some 14), none⟩,
    ⟨.move (.tmp 14), (some 12), none⟩,
    ⟨.extract (.tmp 12) 0, (some 15), none⟩,
    ⟨.extract (.tmp 12) 1, (some 16), none⟩,
    ⟨.extract (.tmp 12) 2, (some 17), none⟩,
    ⟨.assign (.tmp 15), (some 3), none⟩,
    ⟨.assign (.tmp 16), (some 4), none⟩,
    ⟨.assign (.tmp 17), (some 5), none⟩] := ⟨3, opsC r7_3, by kernel_rfl, by kernel_rfl, by kernel_rfl⟩
noncomputable def r7_4 : Code := subC (bodyC Try.f7) [1, 1, 1, 0]
instance : RegOps r7_4 48 [⟨.move (.tmp 3), (some 19), none⟩,
    ⟨.call ⟨(.value (.func 16)), #[(.tmp 19)], #[22]⟩, (some 20), none⟩,
    ⟨.move (.tmp 20), (some 18), none⟩,
    ⟨.extract (.tmp 18) 0, (some 21), none⟩,
    ⟨.extract (.tmp 18) 1, (some 22), none⟩,
    ⟨.assign (.tmp 21), (some 6), none⟩,
    ⟨.assign (.tmp 22), (some 7), none⟩] := ⟨4, opsC r7_4, by kernel_rfl, by kernel_rfl, by kernel_rfl⟩
noncomputable def r7_5 : Code := subC (bodyC Try.f7) [1, 1, 1, 1, 0]
instance : RegOps r7_5 48 [⟨.move (.tmp 6), (some 23), none⟩,
    ⟨.move (.tmp 4), (some 24), none⟩,
    ⟨.call ⟨(.value (.func 17)), #[(.tmp 23), (.tmp 24)], #[30, 30]⟩, (some 25), none⟩,
    ⟨.move (.tmp 25), (some 26), none⟩,
    ⟨.move (.tmp 5), (some 27), (some (26, true))⟩,
    ⟨.call ⟨(.builtin .len), #[(.tmp 27)], #[38]⟩, (some 28), (some (26, true))⟩,
    ⟨.move (.tmp 4), (some 29), (some (26, true))⟩,
    ⟨.call ⟨(.builtin .len), #[(.tmp 29)], #[30]⟩, (some 30), (some (26, true))⟩,
    ⟨.binOp .eql 3 (.tmp 28) (.tmp 30) 3, (some 31), (some (26, true))⟩,
    ⟨.pick (.tmp 26) (.tmp 31) (.const (.bool false)), (some 32), none⟩,
    ⟨.move (.tmp 32), (some 33), none⟩,
    ⟨.move (.tmp 7), (some 34), (some (33, true))⟩,
    ⟨.move (.tmp 3), (some 35), (some (33, true))⟩,
    ⟨.call ⟨(.builtin .len), #[(.tmp 35)], #[22]⟩, (some 36), (some (33, true))⟩,
    ⟨.binOp .eql 3 (.tmp 34) (.tmp 36) 3, (some 37), (some (33, true))⟩,
    ⟨.pick (.tmp 33) (.tmp 37) (.const (.bool false)), (some 38), none⟩,
    ⟨.move (.tmp 38), (some 39), none⟩,
    ⟨.move (.tmp 3), (some 40), (some (39, true))⟩,
    ⟨.call ⟨(.value (.func 20)), #[(.tmp 40)], #[22]⟩, (some 41), (some (39, true))⟩,
    ⟨.move (.tmp 3), (some 42), (some (39, true))⟩,
    ⟨.call ⟨(.value (.func 12)), #[(.tmp 41), (.tmp 42)], #[22, 22]⟩, (some 43), (some (39, true))⟩,
    ⟨.pick (.tmp 39) (.tmp 43) (.const (.bool false)), (some 44), none⟩,
    ⟨.move (.tmp 44), (some 45), none⟩,
    ⟨.call ⟨(.value (.func 9)), #[], #[]⟩, (some 46), (some (45, true))⟩,
    ⟨.pick (.tmp 45) (.tmp 46) (.const (.bool false)), (some 47), none⟩,
    ⟨.assign (.tmp 47), (some 2), none⟩] := ⟨5, opsC r7_5, by kernel_rfl, by kernel_rfl, by kernel_rfl⟩
noncomputable def c7 : Code := (.seq r7_0 (.seq (.seq r7_1 (.cond (.tmp 10) (.seq r7_2 .ret) .skip)) (.seq r7_3 (.seq r7_4 (.seq r7_5 .ret)))))
theorem en7 {args : List LV} {H : LH} {R : LOut → LH → Prop} (hn : args.length ≤ 48) (h : WP Try.prog ⟨7, 48, 0, [], none, none⟩ [.code c7] (argsK 0 args) H (Fin Try.prog R)) : CallP Try.prog 7 args H R :=
  CallP.enter (fn := Try.f7) (c := c7) (by kernel_rfl) (by kernel_rfl) (by kernel_rfl) hn h
instance : FnRes Try.prog 7 [.tmp 2] := ⟨Try.f7, by kernel_rfl, by kernel_rfl⟩
/-! seepage/seepagelaw44.few -/
noncomputable def r8_0 : Code := subC (bodyC Try.f8) [0]
instance : RegOps r8_0 32 [⟨.assign (.const (.bool false)), (some 4), none⟩] := ⟨0, opsC r8_0, by kernel_rfl, by kernel_rfl, by kernel_rfl⟩
noncomputable def r8_1 : Code := subC (bodyC Try.f8) [1, 0, 0]
instance : RegOps r8_1 32 [⟨.move (.tmp 0), (some 6), none⟩,
    ⟨.call ⟨(.builtin .len), #[(.tmp 6)], #[30]⟩, (some 7), none⟩,
    ⟨.move (.tmp 1), (some 8), none⟩,
    ⟨.binOp .gtr 3 (.tmp 7) (.tmp 8) 3, (some 9), none⟩] := ⟨1, opsC r8_1, by kernel_rfl, by kernel_rfl, by kernel_rfl⟩
noncomputable def r8_2 : Code := subC (bodyC Try.f8) [1, 0, 1, 0, 0]
instance : RegOps r8_2 32 [⟨.assign (.const (.bool false)), (some 4), none⟩] := ⟨2, opsC r8_2, by kernel_rfl, by kernel_rfl, by kernel_rfl⟩
noncomputable def r8_3 : Code := subC (bodyC Try.f8) [1, 1, 0, 0]
instance : RegOps r8_3 32 [⟨.assign (.const (.int .i64 0)), (some 5), none⟩] := ⟨3, opsC r8_3, by kernel_rfl, by kernel_rfl, by kernel_rfl⟩
noncomputable def r8_4 : Code := subC (bodyC Try.f8) [1, 1, 0, 1, 0, 0, 0, 0]
instance : RegOps r8_4 32 [⟨.move (.tmp 5), (some 10), none⟩,
    ⟨.move (.tmp 0), (some 11), none⟩,
    ⟨.call ⟨(.builtin .len), #[(.tmp 11)], #[30]⟩, (some 12), none⟩,
    ⟨.binOp .lss 3 (.tmp 10) (.tmp 12) 3, (some 13), none⟩] := ⟨4, opsC r8_4, by kernel_rfl, by kernel_rfl, by kernel_rfl⟩
noncomputable def r8_6 : Code := subC (bodyC Try.f8) [1, 1, 0, 1, 0, 0, 1, 0, 0, 0]
instance : RegOps r8_6 32 [⟨.move (.tmp 0), (some 16), none⟩,
    ⟨.move (.tmp 5), (some 17), none⟩,
    ⟨.indexAddr 30 (.tmp 16) (.tmp 17), (some 18), none⟩,
    ⟨.fieldAddr 28 (.tmp 18) 5, (some 19), none⟩,
    ⟨.load 25 (.tmp 19), (some 20), none⟩,
    ⟨.call ⟨(.builtin .len), #[(.tmp 20)], #[25]⟩, (some 21), none⟩,
    ⟨.binOp .gtr 3 (.tmp 21) (.const (.int .i64 50)) 3, (some 22), none⟩,
    ⟨.move (.tmp 22), (some 23), none⟩,
    ⟨.move (.tmp 0), (some 24), (some (23, false))⟩,
    ⟨.move (.tmp 5), (some 25), (some (23, false))⟩,
    ⟨.indexAddr 30 (.tmp 24) (.tmp 25), (some 26), (some (23, false))⟩,
    ⟨.fieldAddr 28 (.tmp 26) 6, (some 27), (some (23, false))⟩,
    ⟨.load 26 (.tmp 27), (some 28), (some (23, false))⟩,
    ⟨.call ⟨(.builtin .len), #[(.tmp 28)], #[26]⟩, (some 29), (some (23, false))⟩,
    ⟨.binOp .gtr 3 (.tmp 29) (.const (.int .i64 50)) 3, (some 30), (some (23, false))⟩,
    ⟨.pick (.tmp 23) (.const (.bool true)) (.tmp 30), (some 31), none⟩] := ⟨6, opsC r8_6, by kernel_rfl, by kernel_rfl, by kernel_rfl⟩
noncomputable def r8_7 : Code := subC (bodyC Try.f8) [1, 1, 0, 1, 0, 0, 1, 0, 0, 1, 0, 0]
instance : RegOps r8_7 32 [⟨.assign (.const (.bool false)), (some 4), none⟩] := ⟨7, opsC r8_7, by kernel_rfl, by kernel_rfl, by kernel_rfl⟩
noncomputable def r8_5 : Code := subC (bodyC Try.f8) [1, 1, 0, 1, 0, 0, 1, 1]
instance : RegOps r8_5 32 [⟨.move (.tmp 5), (some 14), none⟩,
    ⟨.binOp .add 3 (.tmp 14) (.const (.int .i64 1)) 3, (some 15), none⟩,
    ⟨.assign (.tmp 15), (some 5), none⟩] := ⟨5, opsC r8_5, by kernel_rfl, by kernel_rfl, by kernel_rfl⟩
noncomputable def r8_8 : Code := subC (bodyC Try.f8) [1, 1, 1, 0]
instance : RegOps r8_8 32 [⟨.assign (.const (.bool true)), (some 4), none⟩] := ⟨8, opsC r8_8, by kernel_rfl, by kernel_rfl, by kernel_rfl⟩
noncomputable def c8 : Code := (.seq r8_0 (.seq (.seq r8_1 (.cond (.tmp 9) (.seq r8_2 .ret) .skip)) (.seq (.seq r8_3 (.block 0 (.loop (.seq (.seq r8_4 (.cond (.tmp 13) .skip (.exit 0))) (.seq (.block 1 (.seq r8_6 (.cond (.tmp 31) (.seq r8_7 .ret) .skip))) r8_5))))) (.seq r8_8 .ret))))
theorem en8 {args : List LV} {H : LH} {R : LOut → LH → Prop} (hn : args.length ≤ 32) (h : WP Try.prog ⟨8, 32, 0, [], none, none⟩ [.code c8] (argsK 0 args) H (Fin Try.prog R)) : CallP Try.prog 8 args H R :=
  CallP.enter (fn := Try.f8) (c := c8) (by kernel_rfl) (by kernel_rfl) (by kernel_rfl) hn h
instance : FnRes Try.prog 8 [.tmp 4] := ⟨Try.f8, by kernel_rfl, by kernel_rfl⟩
/-! seepage/journal.Append -/
noncomputable def r10_0 : Code := subC (bodyC Try.f10) [0]
instance : RegOps r10_0 38 [⟨.box 28 (.tmp 1), (some 3), none⟩,
    ⟨.assign (.const (.slice none 0 0)), (some 4), none⟩,
    ⟨.assign (.const (.int .i64 0)), (some 5), none⟩] := ⟨0, opsC r10_0, by kernel_rfl, by kernel_rfl, by kernel_rfl⟩
noncomputable def r10_1 : Code := subC (bodyC Try.f10) [1, 0]
instance : RegOps r10_1 38 [⟨.load 28 (.tmp 3), (some 12), none⟩,
    ⟨.call ⟨(.value (.func 22)), #[(.tmp 12)], #[28]⟩, (some 13), none⟩,
    ⟨.move (.tmp 13), (some 11), none⟩,
    ⟨.extract (.tmp 11) 0, (some 14), none⟩,
    ⟨.extract (.tmp 11) 1, (some 15), none⟩,
    ⟨.assign (.tmp 14), (some 6), none⟩,
    ⟨.assign (.tmp 15), (some 7), none⟩] := ⟨1, opsC r10_1, by kernel_rfl, by kernel_rfl, by kernel_rfl⟩
noncomputable def r10_2 : Code := subC (bodyC Try.f10) [1, 1, 0, 0]
instance : RegOps r10_2 38 [⟨.move (.tmp 7), (some 16), none⟩,
    ⟨.binOp .neq 32 (.tmp 16) (.const (.int .i64 0)) 32, (some 17), none⟩] := ⟨2, opsC r10_2, by kernel_rfl, by kernel_rfl, by kernel_rfl⟩
noncomputable def r10_3 : Code := subC (bodyC Try.f10) [1, 1, 0, 1, 0, 0]
instance : RegOps r10_3 38 [⟨.move (.tmp 7), (some 18), none⟩,
    ⟨.assign (.const (.slice none 0 0)), (some 4), none⟩,
    ⟨.assign (.tmp 18), (some 5), none⟩] := ⟨3, opsC r10_3, by kernel_rfl, by kernel_rfl, by kernel_rfl⟩
noncomputable def r10_4 : Code := subC (bodyC Try.f10) [1, 1, 1, 0]
instance : RegOps r10_4 38 [⟨.alloc 55, (some 8), none⟩] := ⟨4, opsC r10_4, by kernel_rfl, by kernel_rfl, by kernel_rfl⟩
noncomputable def r10_5 : Code := subC (bodyC Try.f10) [1, 1, 1, 1, 0, 0]
instance : RegOps r10_5 38 [⟨.move (.tmp 0), (some 19), none⟩,
    ⟨.call ⟨(.value (.func 23)), #[(.tmp 19)], #[22]⟩, (some 20), none⟩] := ⟨5, opsC r10_5, by kernel_rfl, by kernel_rfl, by kernel_rfl⟩
noncomputable def r10_6 : Code := subC (bodyC Try.f10) [1, 1, 1, 1, 0, 1, 0, 0]
instance : RegOps r10_6 38 [⟨.alloc 55, (some 9), none⟩,
    ⟨.store 55 (.tmp 9) (.tmp 21), none, none⟩] := ⟨6, opsC r10_6, by kernel_rfl, by kernel_rfl, by kernel_rfl⟩
noncomputable def r10_7 : Code := subC (bodyC Try.f10) [1, 1, 1, 1, 0, 1, 0, 1, 0]
instance : RegOps r10_7 38 [⟨.load 55 (.tmp 9), (some 22), none⟩,
    ⟨.store 55 (.tmp 8) (.tmp 22), none, none⟩] := ⟨7, opsC r10_7, by kernel_rfl, by kernel_rfl, by kernel_rfl⟩
noncomputable def r10_8 : Code := subC (bodyC Try.f10) [1, 1, 1, 1, 1, 0, 0]
instance : RegOps r10_8 38 [⟨.fieldAddr 55 (.tmp 8) 1, (some 23), none⟩,
    ⟨.load 3 (.tmp 23), (some 24), none⟩,
    ⟨.move (.tmp 0), (some 25), none⟩,
    ⟨.call ⟨(.builtin .len), #[(.tmp 25)], #[22]⟩, (some 26), none⟩,
    ⟨.binOp .neq 3 (.tmp 24) (.tmp 26) 3, (some 27), none⟩] := ⟨8, opsC r10_8, by kernel_rfl, by kernel_rfl, by kernel_rfl⟩
noncomputable def r10_9 : Code := subC (bodyC Try.f10) [1, 1, 1, 1, 1, 0, 1, 0, 0]
instance : RegOps r10_9 38 [⟨.assign (.const (.slice none 0 0)), (some 4), none⟩,
    ⟨.assign (.const (.int .i64 15)), (some 5), none⟩] := ⟨9, opsC r10_9, by kernel_rfl, by kernel_rfl, by kernel_rfl⟩
noncomputable def r10_10 : Code := subC (bodyC Try.f10) [1, 1, 1, 1, 1, 1, 0]
instance : RegOps r10_10 38 [⟨.fieldAddr 55 (.tmp 8) 2, (some 28), none⟩,
    ⟨.load 53 (.tmp 28), (some 29), none⟩,
    ⟨.call ⟨(.value (.func 24)), #[(.tmp 29)], #[53]⟩, (some 30), none⟩,
    ⟨.move (.tmp 6), (some 31), none⟩,
    ⟨.call ⟨(.value (.tmp 30)), #[(.tmp 31)], #[22]⟩, (some 32), none⟩,
    ⟨.alloc 53, (some 10), none⟩,
    ⟨.store 53 (.tmp 10) (.tmp 32), none, none⟩] := ⟨10, opsC r10_10, by kernel_rfl, by kernel_rfl, by kernel_rfl⟩
noncomputable def r10_11 : Code := subC (bodyC Try.f10) [1, 1, 1, 1, 1, 1, 1, 0]
instance : RegOps r10_11 38 [⟨.move (.tmp 0), (some 33), none⟩,
    ⟨.move (.tmp 6), (some 34), none⟩,
    ⟨.slice 53 (.tmp 10) none none none, (some 35), none⟩,
    ⟨.buildSlice 79 3 #[(0, (.tmp 33)), (1, (.tmp 34)), (2, (.tmp 35))], (some 36), none⟩,
    ⟨.call ⟨(.value (.func 25)), #[(.tmp 36)], #[79]⟩, (some 37), none⟩,
    ⟨.assign (.tmp 37), (some 4), none⟩,
    ⟨.assign (.const (.int .i64 0)), (some 5), none⟩] := ⟨11, opsC r10_11, by kernel_rfl, by kernel_rfl, by kernel_rfl⟩
noncomputable def c10 : Code := (.seq r10_0 (.seq r10_1 (.seq (.seq r10_2 (.cond (.tmp 17) (.seq r10_3 .ret) .skip)) (.seq r10_4 (.seq (.seq r10_5 (.block 0 (.rangeFunc (.tmp 20) #[21] r10_6 (.block 1 r10_7)))) (.seq (.seq r10_8 (.cond (.tmp 27) (.seq r10_9 .ret) .skip)) (.seq r10_10 (.seq r10_11 .ret))))))))
theorem en10 {args : List LV} {H : LH} {R : LOut → LH → Prop} (hn : args.length ≤ 38) (h : WP Try.prog ⟨10, 38, 0, [], none, none⟩ [.code c10] (argsK 0 args) H (Fin Try.prog R)) : CallP Try.prog 10 args H R :=
  CallP.enter (fn := Try.f10) (c := c10) (by kernel_rfl) (by kernel_rfl) (by kernel_rfl) hn h
instance : FnRes Try.prog 10 [.tmp 4, .tmp 5] := ⟨Try.f10, by kernel_rfl, by kernel_rfl⟩
/-! seepage/seepagelaw44.bytes -/
noncomputable def r12_0 : Code := subC (bodyC Try.f12) [0]
instance : RegOps r12_0 26 [⟨.assign (.const (.bool false)), (some 4), none⟩] := ⟨0, opsC r12_0, by kernel_rfl, by kernel_rfl, by kernel_rfl⟩
noncomputable def r12_1 : Code := subC (bodyC Try.f12) [1, 0, 0]
instance : RegOps r12_1 26 [⟨.move (.tmp 0), (some 6), none⟩,
    ⟨.call ⟨(.builtin .len), #[(.tmp 6)], #[22]⟩, (some 7), none⟩,
    ⟨.move (.tmp 1), (some 8), none⟩,
    ⟨.call ⟨(.builtin .len), #[(.tmp 8)], #[22]⟩, (some 9), none⟩,
    ⟨.binOp .neq 3 (.tmp 7) (.tmp 9) 3, (some 10), none⟩] := ⟨1, opsC r12_1, by kernel_rfl, by kernel_rfl, by kernel_rfl⟩
noncomputable def r12_2 : Code := subC (bodyC Try.f12) [1, 0, 1, 0, 0]
instance : RegOps r12_2 26 [⟨.assign (.const (.bool false)), (some 4), none⟩] := ⟨2, opsC r12_2, by kernel_rfl, by kernel_rfl, by kernel_rfl⟩
noncomputable def r12_3 : Code := subC (bodyC Try.f12) [1, 1, 0, 0]
instance : RegOps r12_3 26 [⟨.assign (.const (.int .i64 0)), (some 5), none⟩] := ⟨3, opsC r12_3, by kernel_rfl, by kernel_rfl, by kernel_rfl⟩
noncomputable def r12_4 : Code := subC (bodyC Try.f12) [1, 1, 0, 1, 0, 0, 0, 0]
instance : RegOps r12_4 26 [⟨.move (.tmp 5), (some 11), none⟩,
    ⟨.move (.tmp 0), (some 12), none⟩,
    ⟨.call ⟨(.builtin .len), #[(.tmp 12)], #[22]⟩, (some 13), none⟩,
    ⟨.binOp .lss 3 (.tmp 11) (.tmp 13) 3, (some 14), none⟩] := ⟨4, opsC r12_4, by kernel_rfl, by kernel_rfl, by kernel_rfl⟩
noncomputable def r12_6 : Code := subC (bodyC Try.f12) [1, 1, 0, 1, 0, 0, 1, 0, 0, 0]
instance : RegDraw Try.prog r12_6 26 true [⟨.move (.tmp 0), (some 17), none⟩,
    ⟨.move (.tmp 5), (some 18), none⟩,
    ⟨.indexAddr 22 (.tmp 17) (.tmp 18), (some 19), none⟩,
    ⟨.load 5 (.tmp 19), (some 20), none⟩,
    ⟨.move (.tmp 1), (some 21), none⟩,
    ⟨.move (.tmp 5), (some 22), none⟩,
    ⟨.indexAddr 22 (.tmp 21) (.tmp 22), (some 23), none⟩,
    ⟨.load 5 (.tmp 23), (some 24), none⟩,
    ⟨.binOp .neq 5 (.tmp 20) (.tmp 24) 5, (some 25), none⟩] := ⟨6, opsC r12_6, by kernel_rfl, by kernel_rfl, by kernel_rfl, by kernel_rfl, by kernel_rfl, by kernel_rfl⟩
noncomputable def r12_7 : Code := subC (bodyC Try.f12) [1, 1, 0, 1, 0, 0, 1, 0, 0, 1, 0, 0]
instance : RegOps r12_7 26 [⟨.assign (.const (.bool false)), (some 4), none⟩] := ⟨7, opsC r12_7, by kernel_rfl, by kernel_rfl, by kernel_rfl⟩
noncomputable def r12_5 : Code := subC (bodyC Try.f12) [1, 1, 0, 1, 0, 0, 1, 1]
instance : RegOps r12_5 26 [⟨.move (.tmp 5), (some 15), none⟩,
    ⟨.binOp .add 3 (.tmp 15) (.const (.int .i64 1)) 3, (some 16), none⟩,
    ⟨.assign (.tmp 16), (some 5), none⟩] := ⟨5, opsC r12_5, by kernel_rfl, by kernel_rfl, by kernel_rfl⟩
noncomputable def r12_8 : Code := subC (bodyC Try.f12) [1, 1, 1, 0]
instance : RegOps r12_8 26 [⟨.assign (.const (.bool true)), (some 4), none⟩] := ⟨8, opsC r12_8, by kernel_rfl, by kernel_rfl, by kernel_rfl⟩
noncomputable def c12 : Code := (.seq r12_0 (.seq (.seq r12_1 (.cond (.tmp 10) (.seq r12_2 .ret) .skip)) (.seq (.seq r12_3 (.block 0 (.loop (.seq (.seq r12_4 (.cond (.tmp 14) .skip (.exit 0))) (.seq (.block 1 (.seq r12_6 (.cond (.tmp 25) (.seq r12_7 .ret) .skip))) r12_5))))) (.seq r12_8 .ret))))
theorem en12 {args : List LV} {H : LH} {R : LOut → LH → Prop} (hn : args.length ≤ 26) (h : WP Try.prog ⟨12, 26, 0, [], none, none⟩ [.code c12] (argsK 0 args) H (Fin Try.prog R)) : CallP Try.prog 12 args H R :=
  CallP.enter (fn := Try.f12) (c := c12) (by kernel_rfl) (by kernel_rfl) (by kernel_rfl) hn h
instance : FnRes Try.prog 12 [.tmp 4] := ⟨Try.f12, by kernel_rfl, by kernel_rfl⟩
/-! seepage/seepagelaw44.journaled -/
noncomputable def r15_0 : Code := subC (bodyC Try.f15) [0]
instance : RegOps r15_0 53 [⟨.assign (.const (.slice none 0 0)), (some 2), none⟩,
    ⟨.assign (.const (.slice none 0 0)), (some 3), none⟩,
    ⟨.assign (.const (.slice none 0 0)), (some 4), none⟩] := ⟨0, opsC r15_0, by kernel_rfl, by kernel_rfl, by kernel_rfl⟩
noncomputable def r15_1 : Code := subC (bodyC Try.f15) [1, 0]
instance : RegOps r15_1 53 [⟨.assign (.const (.slice none 0 0)), (some 5), none⟩] := ⟨1, opsC r15_1, by kernel_rfl, by kernel_rfl, by kernel_rfl⟩
noncomputable def r15_2 : Code := subC (bodyC Try.f15) [1, 1, 0]
instance : RegOps r15_2 53 [⟨.assign (.const (.slice none 0 0)), (some 6), none⟩] := ⟨2, opsC r15_2, by kernel_rfl, by kernel_rfl, by kernel_rfl⟩
noncomputable def r15_3 : Code := subC (bodyC Try.f15) [1, 1, 1, 0]
instance : RegOps r15_3 53 [⟨.assign (.const (.slice none 0 0)), (some 7), none⟩] := ⟨3, opsC r15_3, by kernel_rfl, by kernel_rfl, by kernel_rfl⟩
noncomputable def r15_4 : Code := subC (bodyC Try.f15) [1, 1, 1, 1, 0, 0]
instance : RegOps r15_4 53 [⟨.assign (.const (.int .i64 0)), (some 8), none⟩] := ⟨4, opsC r15_4, by kernel_rfl, by kernel_rfl, by kernel_rfl⟩
noncomputable def r15_5 : Code := subC (bodyC Try.f15) [1, 1, 1, 1, 0, 1, 0, 0, 0, 0]
instance : RegOps r15_5 53 [⟨.move (.tmp 8), (some 11), none⟩,
    ⟨.move (.tmp 0), (some 12), none⟩,
    ⟨.call ⟨(.builtin .len), #[(.tmp 12)], #[30]⟩, (some 13), none⟩,
    ⟨.binOp .lss 3 (.tmp 11) (.tmp 13) 3, (some 14), none⟩] := ⟨5, opsC r15_5, by kernel_rfl, by kernel_rfl, by kernel_rfl⟩
noncomputable def r15_7 : Code := subC (bodyC Try.f15) [1, 1, 1, 1, 0, 1, 0, 0, 1, 0, 0, 0]
instance : RegOps r15_7 53 [⟨.move (.tmp 5), (some 18), none⟩,
    ⟨.move (.tmp 0), (some 19), none⟩,
    ⟨.move (.tmp 8), (some 20), none⟩,
    ⟨.indexAddr 30 (.tmp 19) (.tmp 20), (some 21), none⟩,
    ⟨.load 28 (.tmp 21), (some 22), none⟩,
    ⟨.call ⟨(.value (.func 10)), #[(.tmp 18), (.tmp 22)], #[22, 28]⟩, (some 23), none⟩,
    ⟨.move (.tmp 23), (some 17), none⟩,
    ⟨.extract (.tmp 17) 0, (some 24), none⟩,
    ⟨.extract (.tmp 17) 1, (some 25), none⟩,
    ⟨.assign (.tmp 24), (some 9), none⟩,
    ⟨.assign (.tmp 25), (some 10), none⟩] := ⟨7, opsC r15_7, by kernel_rfl, by kernel_rfl, by kernel_rfl⟩
noncomputable def r15_8 : Code := subC (bodyC Try.f15) [1, 1, 1, 1, 0, 1, 0, 0, 1, 0, 0, 1, 0, 0]
instance : RegOps r15_8 53 [⟨.move (.tmp 10), (some 26), none⟩,
    ⟨.binOp .eql 32 (.tmp 26) (.const (.int .i64 0)) 32, (some 27), none⟩,
    ⟨.move (.tmp 0), (some 28), none⟩,
    ⟨.move (.tmp 8), (some 29), none⟩,
    ⟨.indexAddr 30 (.tmp 28) (.tmp 29), (some 30), none⟩,
    ⟨.load 28 (.tmp 30), (some 31), none⟩,
    ⟨.call ⟨(.value (.func 29)), #[(.tmp 31)], #[28]⟩, (some 32), none⟩,
    ⟨.binOp .eql 32 (.tmp 32) (.const (.int .i64 0)) 32, (some 33), none⟩,
    ⟨.binOp .neq 4 (.tmp 27) (.tmp 33) 4, (some 34), none⟩] := ⟨8, opsC r15_8, by kernel_rfl, by kernel_rfl, by kernel_rfl⟩
noncomputable def r15_9 : Code := subC (bodyC Try.f15) [1, 1, 1, 1, 0, 1, 0, 0, 1, 0, 0, 1, 0, 1, 0, 0]
instance : RegOps r15_9 53 [⟨.assign (.const (.slice none 0 0)), (some 2), none⟩,
    ⟨.assign (.const (.slice none 0 0)), (some 3), none⟩,
    ⟨.assign (.const (.slice none 0 0)), (some 4), none⟩] := ⟨9, opsC r15_9, by kernel_rfl, by kernel_rfl, by kernel_rfl⟩
noncomputable def r15_10 : Code := subC (bodyC Try.f15) [1, 1, 1, 1, 0, 1, 0, 0, 1, 0, 0, 1, 1, 0]
instance : RegOps r15_10 53 [⟨.move (.tmp 10), (some 35), none⟩,
    ⟨.binOp .eql 32 (.tmp 35) (.const (.int .i64 0)) 32, (some 36), none⟩] := ⟨10, opsC r15_10, by kernel_rfl, by kernel_rfl, by kernel_rfl⟩
noncomputable def r15_11 : Code := subC (bodyC Try.f15) [1, 1, 1, 1, 0, 1, 0, 0, 1, 0, 0, 1, 1, 1, 0, 0]
instance : RegOps r15_11 53 [⟨.move (.tmp 9), (some 37), none⟩,
    ⟨.assign (.tmp 37), (some 5), none⟩] := ⟨11, opsC r15_11, by kernel_rfl, by kernel_rfl, by kernel_rfl⟩
noncomputable def r15_12 : Code := subC (bodyC Try.f15) [1, 1, 1, 1, 0, 1, 0, 0, 1, 0, 0, 1, 1, 1, 0, 1, 0]
instance : RegOps r15_12 53 [⟨.move (.tmp 6), (some 38), none⟩,
    ⟨.move (.tmp 0), (some 39), none⟩,
    ⟨.move (.tmp 8), (some 40), none⟩,
    ⟨.indexAddr 30 (.tmp 39) (.tmp 40), (some 41), none⟩,
    ⟨.load 28 (.tmp 41), (some 42), none⟩,
    ⟨.buildSlice 30 1 #[(0, (.tmp 42))], (some 43), none⟩,
    ⟨.call ⟨(.builtin .append), #[(.tmp 38), (.tmp 43)], #[30, 30]⟩, (some 44), none⟩,
    ⟨.assign (.tmp 44), (some 6), none⟩] := ⟨12, opsC r15_12, by kernel_rfl, by kernel_rfl, by kernel_rfl⟩
noncomputable def r15_13 : Code := subC (bodyC Try.f15) [1, 1, 1, 1, 0, 1, 0, 0, 1, 0, 0, 1, 1, 1, 0, 1, 1]
instance : RegOps r15_13 53 [⟨.move (.tmp 7), (some 45), none⟩,
    ⟨.move (.tmp 5), (some 46), none⟩,
    ⟨.call ⟨(.builtin .len), #[(.tmp 46)], #[22]⟩, (some 47), none⟩,
    ⟨.buildSlice 38 1 #[(0, (.tmp 47))], (some 48), none⟩,
    ⟨.call ⟨(.builtin .append), #[(.tmp 45), (.tmp 48)], #[38, 38]⟩, (some 49), none⟩,
    ⟨.assign (.tmp 49), (some 7), none⟩] := ⟨13, opsC r15_13, by kernel_rfl, by kernel_rfl, by kernel_rfl⟩
noncomputable def r15_6 : Code := subC (bodyC Try.f15) [1, 1, 1, 1, 0, 1, 0, 0, 1, 1]
instance : RegOps r15_6 53 [⟨.move (.tmp 8), (some 15), none⟩,
    ⟨.binOp .add 3 (.tmp 15) (.const (.int .i64 1)) 3, (some 16), none⟩,
    ⟨.assign (.tmp 16), (some 8), none⟩] := ⟨6, opsC r15_6, by kernel_rfl, by kernel_rfl, by kernel_rfl⟩
noncomputable def r15_14 : Code := subC (bodyC Try.f15) [1, 1, 1, 1, 1, 0]
instance : RegOps r15_14 53 [⟨.move (.tmp 5), (some 50), none⟩,
    ⟨.move (.tmp 6), (some 51), none⟩,
    ⟨.move (.tmp 7), (some 52), none⟩,
    ⟨.assign (.tmp 50), (some 2), none⟩,
    ⟨.assign (.tmp 51), (some 3), none⟩,
    ⟨.assign (.tmp 52), (some 4), none⟩] := ⟨14, opsC r15_14, by kernel_rfl, by kernel_rfl, by kernel_rfl⟩
noncomputable def c15 : Code := (.seq r15_0 (.seq r15_1 (.seq r15_2 (.seq r15_3 (.seq (.seq r15_4 (.block 0 (.loop (.seq (.seq r15_5 (.cond (.tmp 14) .skip (.exit 0))) (.seq (.block 1 (.seq r15_7 (.seq (.seq r15_8 (.cond (.tmp 34) (.seq r15_9 .ret) .skip)) (.seq r15_10 (.cond (.tmp 36) (.seq r15_11 (.seq r15_12 r15_13)) .skip))))) r15_6))))) (.seq r15_14 .ret))))))
theorem en15 {args : List LV} {H : LH} {R : LOut → LH → Prop} (hn : args.length ≤ 53) (h : WP Try.prog ⟨15, 53, 0, [], none, none⟩ [.code c15] (argsK 0 args) H (Fin Try.prog R)) : CallP Try.prog 15 args H R :=
  CallP.enter (fn := Try.f15) (c := c15) (by kernel_rfl) (by kernel_rfl) (by kernel_rfl) hn h
instance : FnRes Try.prog 15 [.tmp 2, .tmp 3, .tmp 4] := ⟨Try.f15, by kernel_rfl, by kernel_rfl⟩
/-! seepage/journal.Read -/
noncomputable def r16_0 : Code := subC (bodyC Try.f16) [0]
instance : RegOps r16_0 17 [⟨.alloc 30, (some 2), none⟩,
    ⟨.alloc 3, (some 3), none⟩] := ⟨0, opsC r16_0, by kernel_rfl, by kernel_rfl, by kernel_rfl⟩
noncomputable def r16_1 : Code := subC (bodyC Try.f16) [1, 0, 0]
instance : RegOps r16_1 17 [⟨.move (.tmp 0), (some 5), none⟩,
    ⟨.call ⟨(.value (.func 23)), #[(.tmp 5)], #[22]⟩, (some 6), none⟩] := ⟨1, opsC r16_1, by kernel_rfl, by kernel_rfl, by kernel_rfl⟩
noncomputable def r16_2 : Code := subC (bodyC Try.f16) [1, 0, 1, 0, 0]
instance : RegOps r16_2 17 [⟨.alloc 55, (some 4), none⟩,
    ⟨.store 55 (.tmp 4) (.tmp 7), none, none⟩] := ⟨2, opsC r16_2, by kernel_rfl, by kernel_rfl, by kernel_rfl⟩
noncomputable def r16_3 : Code := subC (bodyC Try.f16) [1, 0, 1, 0, 1, 0, 0]
instance : RegOps r16_3 17 [⟨.load 30 (.tmp 2), (some 8), none⟩,
    ⟨.fieldAddr 55 (.tmp 4) 0, (some 9), none⟩,
    ⟨.load 28 (.tmp 9), (some 10), none⟩,
    ⟨.buildSlice 30 1 #[(0, (.tmp 10))], (some 11), none⟩,
    ⟨.call ⟨(.builtin .append), #[(.tmp 8), (.tmp 11)], #[30, 30]⟩, (some 12), none⟩,
    ⟨.store 30 (.tmp 2) (.tmp 12), none, none⟩] := ⟨3, opsC r16_3, by kernel_rfl, by kernel_rfl, by kernel_rfl⟩
noncomputable def r16_4 : Code := subC (bodyC Try.f16) [1, 0, 1, 0, 1, 0, 1]
instance : RegOps r16_4 17 [⟨.fieldAddr 55 (.tmp 4) 1, (some 13), none⟩,
    ⟨.load 3 (.tmp 13), (some 14), none⟩,
    ⟨.store 3 (.tmp 3) (.tmp 14), none, none⟩] := ⟨4, opsC r16_4, by kernel_rfl, by kernel_rfl, by kernel_rfl⟩
noncomputable def r16_5 : Code := subC (bodyC Try.f16) [1, 1, 0]
instance : RegConf Try.prog r16_5 17 true [(0, 2), (0, 3), (1, 3)] [⟨.load 30 (.tmp 2), (some 15), none⟩,
    ⟨.load 3 (.tmp 3), (some 16), none⟩,
    ⟨.store 30 (.tmp 2) (.tmp 15), none, none⟩,
    ⟨.store 3 (.tmp 3) (.tmp 16), none, none⟩] := ⟨5, opsC r16_5, by kernel_rfl, by kernel_rfl, by kernel_rfl, by kernel_rfl, by kernel_rfl, by kernel_rfl, by kernel_rfl⟩
noncomputable def c16 : Code := (.seq r16_0 (.seq (.seq r16_1 (.block 0 (.rangeFunc (.tmp 6) #[7] r16_2 (.block 1 (.seq r16_3 r16_4))))) (.seq r16_5 .ret)))
theorem en16 {args : List LV} {H : LH} {R : LOut → LH → Prop} (hn : args.length ≤ 17) (h : WP Try.prog ⟨16, 17, 0, [], none, none⟩ [.code c16] (argsK 0 args) H (Fin Try.prog R)) : CallP Try.prog 16 args H R :=
  CallP.enter (fn := Try.f16) (c := c16) (by kernel_rfl) (by kernel_rfl) (by kernel_rfl) hn h
instance : FnRes Try.prog 16 [.cell 2 30, .cell 3 3] := ⟨Try.f16, by kernel_rfl, by kernel_rfl⟩
/-! seepage/seepagelaw44.cmds -/
noncomputable def r17_0 : Code := subC (bodyC Try.f17) [0]
instance : RegOps r17_0 27 [⟨.assign (.const (.bool false)), (some 4), none⟩] := ⟨0, opsC r17_0, by kernel_rfl, by kernel_rfl, by kernel_rfl⟩
noncomputable def r17_1 : Code := subC (bodyC Try.f17) [1, 0, 0]
instance : RegOps r17_1 27 [⟨.move (.tmp 0), (some 6), none⟩,
    ⟨.call ⟨(.builtin .len), #[(.tmp 6)], #[30]⟩, (some 7), none⟩,
    ⟨.move (.tmp 1), (some 8), none⟩,
    ⟨.call ⟨(.builtin .len), #[(.tmp 8)], #[30]⟩, (some 9), none⟩,
    ⟨.binOp .neq 3 (.tmp 7) (.tmp 9) 3, (some 10), none⟩] := ⟨1, opsC r17_1, by kernel_rfl, by kernel_rfl, by kernel_rfl⟩
noncomputable def r17_2 : Code := subC (bodyC Try.f17) [1, 0, 1, 0, 0]
instance : RegOps r17_2 27 [⟨.assign (.const (.bool false)), (some 4), none⟩] := ⟨2, opsC r17_2, by kernel_rfl, by kernel_rfl, by kernel_rfl⟩
noncomputable def r17_3 : Code := subC (bodyC Try.f17) [1, 1, 0, 0]
instance : RegOps r17_3 27 [⟨.assign (.const (.int .i64 0)), (some 5), none⟩] := ⟨3, opsC r17_3, by kernel_rfl, by kernel_rfl, by kernel_rfl⟩
noncomputable def r17_4 : Code := subC (bodyC Try.f17) [1, 1, 0, 1, 0, 0, 0, 0]
instance : RegOps r17_4 27 [⟨.move (.tmp 5), (some 11), none⟩,
    ⟨.move (.tmp 0), (some 12), none⟩,
    ⟨.call ⟨(.builtin .len), #[(.tmp 12)], #[30]⟩, (some 13), none⟩,
    ⟨.binOp .lss 3 (.tmp 11) (.tmp 13) 3, (some 14), none⟩] := ⟨4, opsC r17_4, by kernel_rfl, by kernel_rfl, by kernel_rfl⟩
noncomputable def r17_6 : Code := subC (bodyC Try.f17) [1, 1, 0, 1, 0, 0, 1, 0, 0, 0]
instance : RegDraw Try.prog r17_6 27 true [⟨.move (.tmp 0), (some 17), none⟩,
    ⟨.move (.tmp 5), (some 18), none⟩,
    ⟨.indexAddr 30 (.tmp 17) (.tmp 18), (some 19), none⟩,
    ⟨.load 28 (.tmp 19), (some 20), none⟩,
    ⟨.move (.tmp 1), (some 21), none⟩,
    ⟨.move (.tmp 5), (some 22), none⟩,
    ⟨.indexAddr 30 (.tmp 21) (.tmp 22), (some 23), none⟩,
    ⟨.load 28 (.tmp 23), (some 24), none⟩,
    ⟨.call ⟨(.value (.func 31)), #[(.tmp 20), (.tmp 24)], #[28, 28]⟩, (some 25), none⟩,
    ⟨.unOp .not 4 (.tmp 25), (some 26), none⟩] := ⟨6, opsC r17_6, by kernel_rfl, by kernel_rfl, by kernel_rfl, by kernel_rfl, by kernel_rfl, by kernel_rfl⟩
noncomputable def r17_7 : Code := subC (bodyC Try.f17) [1, 1, 0, 1, 0, 0, 1, 0, 0, 1, 0, 0]
instance : RegOps r17_7 27 [⟨.assign (.const (.bool false)), (some 4), none⟩] := ⟨7, opsC r17_7, by kernel_rfl, by kernel_rfl, by kernel_rfl⟩
noncomputable def r17_5 : Code := subC (bodyC Try.f17) [1, 1, 0, 1, 0, 0, 1, 1]
instance : RegOps r17_5 27 [⟨.move (.tmp 5), (some 15), none⟩,
    ⟨.binOp .add 3 (.tmp 15) (.const (.int .i64 1)) 3, (some 16), none⟩,
    ⟨.assign (.tmp 16), (some 5), none⟩] := ⟨5, opsC r17_5, by kernel_rfl, by kernel_rfl, by kernel_rfl⟩
noncomputable def r17_8 : Code := subC (bodyC Try.f17) [1, 1, 1, 0]
instance : RegOps r17_8 27 [⟨.assign (.const (.bool true)), (some 4), none⟩] := ⟨8, opsC r17_8, by kernel_rfl, by kernel_rfl, by kernel_rfl⟩
noncomputable def c17 : Code := (.seq r17_0 (.seq (.seq r17_1 (.cond (.tmp 10) (.seq r17_2 .ret) .skip)) (.seq (.seq r17_3 (.block 0 (.loop (.seq (.seq r17_4 (.cond (.tmp 14) .skip (.exit 0))) (.seq (.block 1 (.seq r17_6 (.cond (.tmp 26) (.seq r17_7 .ret) .skip))) r17_5))))) (.seq r17_8 .ret))))
theorem en17 {args : List LV} {H : LH} {R : LOut → LH → Prop} (hn : args.length ≤ 27) (h : WP Try.prog ⟨17, 27, 0, [], none, none⟩ [.code c17] (argsK 0 args) H (Fin Try.prog R)) : CallP Try.prog 17 args H R :=
  CallP.enter (fn := Try.f17) (c := c17) (by kernel_rfl) (by kernel_rfl) (by kernel_rfl) hn h
instance : FnRes Try.prog 17 [.tmp 4] := ⟨Try.f17, by kernel_rfl, by kernel_rfl⟩
/-! seepage/codec.GetUint -/
noncomputable def r18_0 : Code := subC (bodyC Try.f18) [0]
instance : RegOps r18_0 46 [⟨.assign (.const (.int .u64 0)), (some 2), none⟩,
    ⟨.assign (.const (.int .i64 0)), (some 3), none⟩,
    ⟨.assign (.const (.int .i64 0)), (some 4), none⟩] := ⟨0, opsC r18_0, by kernel_rfl, by kernel_rfl, by kernel_rfl⟩
noncomputable def r18_1 : Code := subC (bodyC Try.f18) [1, 0]
instance : RegOps r18_1 46 [⟨.assign (.const (.int .u64 0)), (some 5), none⟩] := ⟨1, opsC r18_1, by kernel_rfl, by kernel_rfl, by kernel_rfl⟩
noncomputable def r18_2 : Code := subC (bodyC Try.f18) [1, 1, 0, 0]
instance : RegOps r18_2 46 [⟨.move (.tmp 0), (some 8), none⟩,
    ⟨.call ⟨(.builtin .len), #[(.tmp 8)], #[22]⟩, (some 9), none⟩,
    ⟨.call ⟨(.builtin .min), #[(.tmp 9), (.const (.int .i64 10))], #[3, 3]⟩, (some 10), none⟩,
    ⟨.move (.const (.int .i64 0)), (some 11), none⟩] := ⟨2, opsC r18_2, by kernel_rfl, by kernel_rfl, by kernel_rfl⟩
noncomputable def r18_3 : Code := subC (bodyC Try.f18) [1, 1, 0, 1, 0, 0, 0]
instance : RegOps r18_3 46 [⟨.binOp .lss 3 (.tmp 11) (.tmp 10) 3, (some 12), none⟩] := ⟨3, opsC r18_3, by kernel_rfl, by kernel_rfl, by kernel_rfl⟩
noncomputable def r18_4 : Code := subC (bodyC Try.f18) [1, 1, 0, 1, 0, 0, 1, 1, 0, 0, 0]
instance : RegOps r18_4 46 [⟨.move (.tmp 11), (some 13), none⟩,
    ⟨.assign (.tmp 13), (some 6), none⟩] := ⟨4, opsC r18_4, by kernel_rfl, by kernel_rfl, by kernel_rfl⟩
noncomputable def r18_5 : Code := subC (bodyC Try.f18) [1, 1, 0, 1, 0, 0, 1, 1, 0, 0, 1, 0]
instance : RegOps r18_5 46 [⟨.move (.tmp 0), (some 14), none⟩,
    ⟨.move (.tmp 6), (some 15), none⟩,
    ⟨.indexAddr 22 (.tmp 14) (.tmp 15), (some 16), none⟩,
    ⟨.load 5 (.tmp 16), (some 17), none⟩,
    ⟨.assign (.tmp 17), (some 7), none⟩] := ⟨5, opsC r18_5, by kernel_rfl, by kernel_rfl, by kernel_rfl⟩
noncomputable def r18_6 : Code := subC (bodyC Try.f18) [1, 1, 0, 1, 0, 0, 1, 1, 0, 0, 1, 1, 0, 0]
instance : RegOps r18_6 46 [⟨.move (.tmp 6), (some 18), none⟩,
    ⟨.binOp .eql 3 (.tmp 18) (.const (.int .i64 9)) 3, (some 19), none⟩,
    ⟨.move (.tmp 19), (some 20), none⟩,
    ⟨.move (.tmp 7), (some 21), (some (20, true))⟩,
    ⟨.binOp .gtr 5 (.tmp 21) (.const (.int .u8 1)) 5, (some 22), (some (20, true))⟩,
    ⟨.pick (.tmp 20) (.tmp 22) (.const (.bool false)), (some 23), none⟩,
    ⟨.move (.tmp 23), (some 24), none⟩,
    ⟨.move (.tmp 7), (some 25), (some (24, false))⟩,
    ⟨.binOp .eql 5 (.tmp 25) (.const (.int .u8 0)) 5, (some 26), (some (24, false))⟩,
    ⟨.move (.tmp 26), (some 27), (some (24, false))⟩,
    ⟨.move (.tmp 6), (some 28), (some (27, true))⟩,
    ⟨.binOp .gtr 3 (.tmp 28) (.const (.int .i64 0)) 3, (some 29), (some (27, true))⟩,
    ⟨.pick (.tmp 27) (.tmp 29) (.const (.bool false)), (some 30), (some (24, false))⟩,
    ⟨.pick (.tmp 24) (.const (.bool true)) (.tmp 30), (some 31), none⟩] := ⟨6, opsC r18_6, by kernel_rfl, by kernel_rfl, by kernel_rfl⟩
noncomputable def r18_7 : Code := subC (bodyC Try.f18) [1, 1, 0, 1, 0, 0, 1, 1, 0, 0, 1, 1, 1, 0]
instance : RegOps r18_7 46 [⟨.move (.tmp 5), (some 32), none⟩,
    ⟨.move (.tmp 7), (some 33), none⟩,
    ⟨.binOp .and 5 (.tmp 33) (.const (.int .u8 127)) 5, (some 34), none⟩,
    ⟨.convert 5 24 (.tmp 34), (some 35), none⟩,
    ⟨.move (.tmp 6), (some 36), none⟩,
    ⟨.binOp .mul 3 (.const (.int .i64 7)) (.tmp 36) 3, (some 37), none⟩,
    ⟨.binOp .shl 24 (.tmp 35) (.tmp 37) 3, (some 38), none⟩,
    ⟨.binOp .or 24 (.tmp 32) (.tmp 38) 24, (some 39), none⟩,
    ⟨.assign (.tmp 39), (some 5), none⟩] := ⟨7, opsC r18_7, by kernel_rfl, by kernel_rfl, by kernel_rfl⟩
noncomputable def r18_8 : Code := subC (bodyC Try.f18) [1, 1, 0, 1, 0, 0, 1, 1, 0, 0, 1, 1, 1, 1, 0]
instance : RegOps r18_8 46 [⟨.move (.tmp 7), (some 40), none⟩,
    ⟨.binOp .lss 5 (.tmp 40) (.const (.int .u8 128)) 5, (some 41), none⟩] := ⟨8, opsC r18_8, by kernel_rfl, by kernel_rfl, by kernel_rfl⟩
noncomputable def r18_9 : Code := subC (bodyC Try.f18) [1, 1, 0, 1, 0, 0, 1, 1, 0, 0, 1, 1, 1, 1, 1, 0, 0]
instance : RegOps r18_9 46 [⟨.move (.tmp 5), (some 42), none⟩,
    ⟨.move (.tmp 6), (some 43), none⟩,
    ⟨.binOp .add 3 (.tmp 43) (.const (.int .i64 1)) 3, (some 44), none⟩,
    ⟨.assign (.tmp 42), (some 2), none⟩,
    ⟨.assign (.tmp 44), (some 3), none⟩,
    ⟨.assign (.const (.int .i64 0)), (some 4), none⟩] := ⟨9, opsC r18_9, by kernel_rfl, by kernel_rfl, by kernel_rfl⟩
noncomputable def r18_10 : Code := subC (bodyC Try.f18) [1, 1, 0, 1, 0, 0, 1, 1, 1]
instance : RegOps r18_10 46 [⟨.binOp .add 3 (.tmp 11) (.const (.int .i64 1)) 3, (some 45), none⟩,
    ⟨.move (.tmp 45), (some 11), none⟩] := ⟨10, opsC r18_10, by kernel_rfl, by kernel_rfl, by kernel_rfl⟩
noncomputable def r18_11 : Code := subC (bodyC Try.f18) [1, 1, 1, 0]
instance : RegOps r18_11 46 [⟨.assign (.const (.int .u64 0)), (some 2), none⟩,
    ⟨.assign (.const (.int .i64 0)), (some 3), none⟩,
    ⟨.assign (.const (.int .i64 15)), (some 4), none⟩] := ⟨11, opsC r18_11, by kernel_rfl, by kernel_rfl, by kernel_rfl⟩
noncomputable def c18 : Code := (.seq r18_0 (.seq r18_1 (.seq (.seq r18_2 (.block 0 (.loop (.seq r18_3 (.seq (.cond (.tmp 12) .skip (.exit 0)) (.seq (.block 1 (.seq r18_4 (.seq r18_5 (.seq (.seq r18_6 (.cond (.tmp 31) (.exit 0) .skip)) (.seq r18_7 (.seq r18_8 (.cond (.tmp 41) (.seq r18_9 .ret) .skip))))))) r18_10)))))) (.seq r18_11 .ret))))
theorem en18 {args : List LV} {H : LH} {R : LOut → LH → Prop} (hn : args.length ≤ 46) (h : WP Try.prog ⟨18, 46, 0, [], none, none⟩ [.code c18] (argsK 0 args) H (Fin Try.prog R)) : CallP Try.prog 18 args H R :=
  CallP.enter (fn := Try.f18) (c := c18) (by kernel_rfl) (by kernel_rfl) (by kernel_rfl) hn h
instance : FnRes Try.prog 18 [.tmp 2, .tmp 3, .tmp 4] := ⟨Try.f18, by kernel_rfl, by kernel_rfl⟩
/-! seepage/journal.Repair -/
noncomputable def r20_0 : Code := subC (bodyC Try.f20) [0]
instance : RegOps r20_0 14 [⟨.assign (.const (.slice none 0 0)), (some 2), none⟩] := ⟨0, opsC r20_0, by kernel_rfl, by kernel_rfl, by kernel_rfl⟩
noncomputable def r20_1 : Code := subC (bodyC Try.f20) [1, 0]
instance : RegOps r20_1 14 [⟨.move (.tmp 0), (some 6), none⟩,
    ⟨.call ⟨(.value (.func 16)), #[(.tmp 6)], #[22]⟩, (some 7), none⟩,
    ⟨.move (.tmp 7), (some 5), none⟩,
    ⟨.extract (.tmp 5) 0, (some 8), none⟩,
    ⟨.extract (.tmp 5) 1, (some 9), none⟩,
    ⟨.assign (.tmp 8), (some 3), none⟩,
    ⟨.assign (.tmp 9), (some 4), none⟩] := ⟨1, opsC r20_1, by kernel_rfl, by kernel_rfl, by kernel_rfl⟩
noncomputable def r20_2 : Code := subC (bodyC Try.f20) [1, 1, 0]
instance : RegOps r20_2 14 [⟨.move (.tmp 0), (some 10), none⟩,
    ⟨.move (.tmp 4), (some 11), none⟩,
    ⟨.slice 22 (.tmp 10) none (some (.tmp 11)) none, (some 12), none⟩,
    ⟨.call ⟨(.value (.func 32)), #[(.tmp 12)], #[22]⟩, (some 13), none⟩,
    ⟨.assign (.tmp 13), (some 2), none⟩] := ⟨2, opsC r20_2, by kernel_rfl, by kernel_rfl, by kernel_rfl⟩
noncomputable def c20 : Code := (.seq r20_0 (.seq r20_1 (.seq r20_2 .ret)))
theorem en20 {args : List LV} {H : LH} {R : LOut → LH → Prop} (hn : args.length ≤ 14) (h : WP Try.prog ⟨20, 14, 0, [], none, none⟩ [.code c20] (argsK 0 args) H (Fin Try.prog R)) : CallP Try.prog 20 args H R :=
  CallP.enter (fn := Try.f20) (c := c20) (by kernel_rfl) (by kernel_rfl) (by kernel_rfl) hn h
instance : FnRes Try.prog 20 [.tmp 2] := ⟨Try.f20, by kernel_rfl, by kernel_rfl⟩
/-! seepage/codec.Put -/
noncomputable def r22_0 : Code := subC (bodyC Try.f22) [0]
instance : RegOps r22_0 32 [⟨.box 28 (.tmp 0), (some 1), none⟩,
    ⟨.assign (.const (.slice none 0 0)), (some 2), none⟩,
    ⟨.assign (.const (.int .i64 0)), (some 3), none⟩] := ⟨0, opsC r22_0, by kernel_rfl, by kernel_rfl, by kernel_rfl⟩
noncomputable def r22_1 : Code := subC (bodyC Try.f22) [1, 0, 0]
instance : RegOps r22_1 32 [⟨.load 28 (.tmp 1), (some 6), none⟩,
    ⟨.call ⟨(.value (.func 29)), #[(.tmp 6)], #[28]⟩, (some 7), none⟩,
    ⟨.assign (.tmp 7), (some 4), none⟩] := ⟨1, opsC r22_1, by kernel_rfl, by kernel_rfl, by kernel_rfl⟩
noncomputable def r22_2 : Code := subC (bodyC Try.f22) [1, 0, 1, 0]
instance : RegOps r22_2 32 [⟨.move (.tmp 4), (some 8), none⟩,
    ⟨.binOp .neq 32 (.tmp 8) (.const (.int .i64 0)) 32, (some 9), none⟩] := ⟨2, opsC r22_2, by kernel_rfl, by kernel_rfl, by kernel_rfl⟩
noncomputable def r22_3 : Code := subC (bodyC Try.f22) [1, 0, 1, 1, 0, 0]
instance : RegOps r22_3 32 [⟨.move (.tmp 4), (some 10), none⟩,
    ⟨.assign (.const (.slice none 0 0)), (some 2), none⟩,
    ⟨.assign (.tmp 10), (some 3), none⟩] := ⟨3, opsC r22_3, by kernel_rfl, by kernel_rfl, by kernel_rfl⟩
noncomputable def r22_4 : Code := subC (bodyC Try.f22) [1, 1, 0]
instance : RegOps r22_4 32 [⟨.fieldAddr 28 (.tmp 1) 0, (some 11), none⟩,
    ⟨.load 23 (.tmp 11), (some 12), none⟩,
    ⟨.convert 23 5 (.tmp 12), (some 13), none⟩,
    ⟨.buildSlice 22 1 #[(0, (.tmp 13))], (some 14), none⟩,
    ⟨.build 69 #[(0, (.tmp 14))], (some 15), none⟩,
    ⟨.box 69 (.tmp 15), (some 16), none⟩,
    ⟨.assign (.tmp 16), (some 5), none⟩] := ⟨4, opsC r22_4, by kernel_rfl, by kernel_rfl, by kernel_rfl⟩
noncomputable def r22_5 : Code := subC (bodyC Try.f22) [1, 1, 1, 0]
instance : RegOps r22_5 32 [⟨.move (.tmp 5), (some 17), none⟩,
    ⟨.makeInterface 67 (.tmp 17), (some 18), none⟩,
    ⟨.call ⟨(.value (.func 33)), #[(.tmp 1), (.tmp 18)], #[71, 88]⟩, (some 19), none⟩] := ⟨5, opsC r22_5, by kernel_rfl, by kernel_rfl, by kernel_rfl⟩
noncomputable def r22_6 : Code := subC (bodyC Try.f22) [1, 1, 1, 1, 0]
instance : RegConf Try.prog r22_6 32 true [(3, 6), (3, 11), (10, 11)] [⟨.move (.tmp 5), (some 20), none⟩,
    ⟨.nilCheck (.tmp 20), (some 21), none⟩,
    ⟨.fieldAddr 69 (.tmp 21) 0, (some 22), none⟩,
    ⟨.load 22 (.tmp 22), (some 23), none⟩,
    ⟨.call ⟨(.builtin .len), #[(.tmp 23)], #[22]⟩, (some 24), none⟩,
    ⟨.convert 3 24 (.tmp 24), (some 25), none⟩,
    ⟨.call ⟨(.value (.func 34)), #[(.const (.slice none 0 0)), (.tmp 25)], #[22, 24]⟩, (some 26), none⟩,
    ⟨.move (.tmp 5), (some 27), none⟩,
    ⟨.nilCheck (.tmp 27), (some 28), none⟩,
    ⟨.fieldAddr 69 (.tmp 28) 0, (some 29), none⟩,
    ⟨.load 22 (.tmp 29), (some 30), none⟩,
    ⟨.call ⟨(.builtin .append), #[(.tmp 26), (.tmp 30)], #[22, 22]⟩, (some 31), none⟩,
    ⟨.assign (.tmp 31), (some 2), none⟩,
    ⟨.assign (.const (.int .i64 0)), (some 3), none⟩] := ⟨6, opsC r22_6, by kernel_rfl, by kernel_rfl, by kernel_rfl, by kernel_rfl, by kernel_rfl, by kernel_rfl, by kernel_rfl⟩
noncomputable def c22 : Code := (.seq r22_0 (.seq (.seq r22_1 (.seq r22_2 (.cond (.tmp 9) (.seq r22_3 .ret) .skip))) (.seq r22_4 (.seq r22_5 (.seq r22_6 .ret)))))
theorem en22 {args : List LV} {H : LH} {R : LOut → LH → Prop} (hn : args.length ≤ 32) (h : WP Try.prog ⟨22, 32, 0, [], none, none⟩ [.code c22] (argsK 0 args) H (Fin Try.prog R)) : CallP Try.prog 22 args H R :=
  CallP.enter (fn := Try.f22) (c := c22) (by kernel_rfl) (by kernel_rfl) (by kernel_rfl) hn h
instance : FnRes Try.prog 22 [.tmp 2, .tmp 3] := ⟨Try.f22, by kernel_rfl, by kernel_rfl⟩
/-! seepage/journal.records -/
noncomputable def r23_0 : Code := subC (bodyC Try.f23) [0]
instance : RegOps r23_0 4 [⟨.box 22 (.tmp 0), (some 1), none⟩,
    ⟨.assign (.const .nilFunc), (some 2), none⟩] := ⟨0, opsC r23_0, by kernel_rfl, by kernel_rfl, by kernel_rfl⟩
noncomputable def r23_1 : Code := subC (bodyC Try.f23) [1, 0]
instance : RegOps r23_1 4 [⟨.makeFunc (.func 35) #[] #[(.tmp 1)], (some 3), none⟩,
    ⟨.assign (.tmp 3), (some 2), none⟩] := ⟨1, opsC r23_1, by kernel_rfl, by kernel_rfl, by kernel_rfl⟩
noncomputable def c23 : Code := (.seq r23_0 (.seq r23_1 .ret))
theorem en23 {args : List LV} {H : LH} {R : LOut → LH → Prop} (hn : args.length ≤ 4) (h : WP Try.prog ⟨23, 4, 0, [], none, none⟩ [.code c23] (argsK 0 args) H (Fin Try.prog R)) : CallP Try.prog 23 args H R :=
  CallP.enter (fn := Try.f23) (c := c23) (by kernel_rfl) (by kernel_rfl) (by kernel_rfl) hn h
instance : FnRes Try.prog 23 [.tmp 2] := ⟨Try.f23, by kernel_rfl, by kernel_rfl⟩
/-! seepage/journal.chain -/
noncomputable def r24_0 : Code := subC (bodyC Try.f24) [0]
instance : RegOps r24_0 4 [⟨.box 53 (.tmp 0), (some 1), none⟩,
    ⟨.assign (.const .nilFunc), (some 2), none⟩] := ⟨0, opsC r24_0, by kernel_rfl, by kernel_rfl, by kernel_rfl⟩
noncomputable def r24_1 : Code := subC (bodyC Try.f24) [1, 0]
instance : RegOps r24_1 4 [⟨.makeFunc (.func 37) #[] #[(.tmp 1)], (some 3), none⟩,
    ⟨.assign (.tmp 3), (some 2), none⟩] := ⟨1, opsC r24_1, by kernel_rfl, by kernel_rfl, by kernel_rfl⟩
noncomputable def c24 : Code := (.seq r24_0 (.seq r24_1 .ret))
theorem en24 {args : List LV} {H : LH} {R : LOut → LH → Prop} (hn : args.length ≤ 4) (h : WP Try.prog ⟨24, 4, 0, [], none, none⟩ [.code c24] (argsK 0 args) H (Fin Try.prog R)) : CallP Try.prog 24 args H R :=
  CallP.enter (fn := Try.f24) (c := c24) (by kernel_rfl) (by kernel_rfl) (by kernel_rfl) hn h
instance : FnRes Try.prog 24 [.tmp 2] := ⟨Try.f24, by kernel_rfl, by kernel_rfl⟩
/-! slices.Concat[[]byte,byte] -/
noncomputable def r25_0 : Code := subC (bodyC Try.f25) [0]
instance : RegOps r25_0 36 [⟨.assign (.const (.slice none 0 0)), (some 2), none⟩] := ⟨0, opsC r25_0, by kernel_rfl, by kernel_rfl, by kernel_rfl⟩
noncomputable def r25_1 : Code := subC (bodyC Try.f25) [1, 0]
instance : RegOps r25_1 36 [⟨.assign (.const (.int .i64 0)), (some 3), none⟩] := ⟨1, opsC r25_1, by kernel_rfl, by kernel_rfl, by kernel_rfl⟩
noncomputable def r25_2 : Code := subC (bodyC Try.f25) [1, 1, 0, 0]
instance : RegOps r25_2 36 [⟨.move (.tmp 0), (some 9), none⟩,
    ⟨.call ⟨(.builtin .len), #[(.tmp 9)], #[79]⟩, (some 10), none⟩,
    ⟨.move (.const (.int .i64 0)), (some 11), none⟩] := ⟨2, opsC r25_2, by kernel_rfl, by kernel_rfl, by kernel_rfl⟩
noncomputable def r25_3 : Code := subC (bodyC Try.f25) [1, 1, 0, 1, 0, 0, 0]
instance : RegOps r25_3 36 [⟨.binOp .lss 3 (.tmp 11) (.tmp 10) 3, (some 12), none⟩] := ⟨3, opsC r25_3, by kernel_rfl, by kernel_rfl, by kernel_rfl⟩
noncomputable def r25_4 : Code := subC (bodyC Try.f25) [1, 1, 0, 1, 0, 0, 1, 1, 0, 0, 0]
instance : RegOps r25_4 36 [⟨.indexAddr 79 (.tmp 9) (.tmp 11), (some 13), none⟩,
    ⟨.load 22 (.tmp 13), (some 14), none⟩,
    ⟨.assign (.tmp 14), (some 5), none⟩] := ⟨4, opsC r25_4, by kernel_rfl, by kernel_rfl, by kernel_rfl⟩
noncomputable def r25_5 : Code := subC (bodyC Try.f25) [1, 1, 0, 1, 0, 0, 1, 1, 0, 0, 1, 0]
instance : RegOps r25_5 36 [⟨.move (.tmp 3), (some 15), none⟩,
    ⟨.move (.tmp 5), (some 16), none⟩,
    ⟨.call ⟨(.builtin .len), #[(.tmp 16)], #[22]⟩, (some 17), none⟩,
    ⟨.binOp .add 3 (.tmp 15) (.tmp 17) 3, (some 18), none⟩,
    ⟨.assign (.tmp 18), (some 3), none⟩] := ⟨5, opsC r25_5, by kernel_rfl, by kernel_rfl, by kernel_rfl⟩
noncomputable def r25_6 : Code := subC (bodyC Try.f25) [1, 1, 0, 1, 0, 0, 1, 1, 0, 0, 1, 1, 0]
instance : RegOps r25_6 36 [⟨.move (.tmp 3), (some 19), none⟩,
    ⟨.binOp .lss 3 (.tmp 19) (.const (.int .i64 0)) 3, (some 20), none⟩] := ⟨6, opsC r25_6, by kernel_rfl, by kernel_rfl, by kernel_rfl⟩
noncomputable def r25_7 : Code := subC (bodyC Try.f25) [1, 1, 0, 1, 0, 0, 1, 1, 0, 0, 1, 1, 1, 0]
instance : RegOps r25_7 36 [⟨.makeInterface 9 (.const (.string ⟨#[108, 101, 110, 32, 111, 117, 116, 32, 111, 102, 32, 114, 97, 110, 103, 101]⟩)), (some 21), none⟩,
    ⟨.panic (.tmp 21), none, none⟩] := ⟨7, opsC r25_7, by kernel_rfl, by kernel_rfl, by kernel_rfl⟩
noncomputable def r25_8 : Code := subC (bodyC Try.f25) [1, 1, 0, 1, 0, 0, 1, 1, 1]
instance : RegOps r25_8 36 [⟨.binOp .add 3 (.tmp 11) (.const (.int .i64 1)) 3, (some 22), none⟩,
    ⟨.move (.tmp 22), (some 11), none⟩] := ⟨8, opsC r25_8, by kernel_rfl, by kernel_rfl, by kernel_rfl⟩
noncomputable def r25_9 : Code := subC (bodyC Try.f25) [1, 1, 1, 0]
instance : RegOps r25_9 36 [⟨.move (.tmp 3), (some 23), none⟩,
    ⟨.call ⟨(.value (.func 39)), #[(.const (.slice none 0 0)), (.tmp 23)], #[22, 3]⟩, (some 24), none⟩,
    ⟨.assign (.tmp 24), (some 6), none⟩] := ⟨9, opsC r25_9, by kernel_rfl, by kernel_rfl, by kernel_rfl⟩
noncomputable def r25_10 : Code := subC (bodyC Try.f25) [1, 1, 1, 1, 0, 0]
instance : RegOps r25_10 36 [⟨.move (.tmp 0), (some 25), none⟩,
    ⟨.call ⟨(.builtin .len), #[(.tmp 25)], #[79]⟩, (some 26), none⟩,
    ⟨.move (.const (.int .i64 0)), (some 27), none⟩] := ⟨10, opsC r25_10, by kernel_rfl, by kernel_rfl, by kernel_rfl⟩
noncomputable def r25_11 : Code := subC (bodyC Try.f25) [1, 1, 1, 1, 0, 1, 0, 0, 0]
instance : RegOps r25_11 36 [⟨.binOp .lss 3 (.tmp 27) (.tmp 26) 3, (some 28), none⟩] := ⟨11, opsC r25_11, by kernel_rfl, by kernel_rfl, by kernel_rfl⟩
noncomputable def r25_12 : Code := subC (bodyC Try.f25) [1, 1, 1, 1, 0, 1, 0, 0, 1, 1, 0, 0, 0]
instance : RegOps r25_12 36 [⟨.indexAddr 79 (.tmp 25) (.tmp 27), (some 29), none⟩,
    ⟨.load 22 (.tmp 29), (some 30), none⟩,
    ⟨.assign (.tmp 30), (some 8), none⟩] := ⟨12, opsC r25_12, by kernel_rfl, by kernel_rfl, by kernel_rfl⟩
noncomputable def r25_13 : Code := subC (bodyC Try.f25) [1, 1, 1, 1, 0, 1, 0, 0, 1, 1, 0, 0, 1]
instance : RegOps r25_13 36 [⟨.move (.tmp 6), (some 31), none⟩,
    ⟨.move (.tmp 8), (some 32), none⟩,
    ⟨.call ⟨(.builtin .append), #[(.tmp 31), (.tmp 32)], #[22, 22]⟩, (some 33), none⟩,
    ⟨.assign (.tmp 33), (some 6), none⟩] := ⟨13, opsC r25_13, by kernel_rfl, by kernel_rfl, by kernel_rfl⟩
noncomputable def r25_14 : Code := subC (bodyC Try.f25) [1, 1, 1, 1, 0, 1, 0, 0, 1, 1, 1]
instance : RegOps r25_14 36 [⟨.binOp .add 3 (.tmp 27) (.const (.int .i64 1)) 3, (some 34), none⟩,
    ⟨.move (.tmp 34), (some 27), none⟩] := ⟨14, opsC r25_14, by kernel_rfl, by kernel_rfl, by kernel_rfl⟩
noncomputable def r25_15 : Code := subC (bodyC Try.f25) [1, 1, 1, 1, 1, 0]
instance : RegOps r25_15 36 [⟨.move (.tmp 6), (some 35), none⟩,
    ⟨.assign (.tmp 35), (some 2), none⟩] := ⟨15, opsC r25_15, by kernel_rfl, by kernel_rfl, by kernel_rfl⟩
noncomputable def c25 : Code := (.seq r25_0 (.seq r25_1 (.seq (.seq r25_2 (.block 0 (.loop (.seq r25_3 (.seq (.cond (.tmp 12) .skip (.exit 0)) (.seq (.block 1 (.seq r25_4 (.seq r25_5 (.seq r25_6 (.cond (.tmp 20) r25_7 .skip))))) r25_8)))))) (.seq r25_9 (.seq (.seq r25_10 (.block 2 (.loop (.seq r25_11 (.seq (.cond (.tmp 28) .skip (.exit 2)) (.seq (.block 3 (.seq r25_12 r25_13)) r25_14)))))) (.seq r25_15 .ret))))))
theorem en25 {args : List LV} {H : LH} {R : LOut → LH → Prop} (hn : args.length ≤ 36) (h : WP Try.prog ⟨25, 36, 0, [], none, none⟩ [.code c25] (argsK 0 args) H (Fin Try.prog R)) : CallP Try.prog 25 args H R :=
  CallP.enter (fn := Try.f25) (c := c25) (by kernel_rfl) (by kernel_rfl) (by kernel_rfl) hn h
instance : FnRes Try.prog 25 [.tmp 2] := ⟨Try.f25, by kernel_rfl, by kernel_rfl⟩
/-! seepage/codec.Check -/
noncomputable def r29_0 : Code := subC (bodyC Try.f29) [0]
instance : RegOps r29_0 49 [⟨.box 28 (.tmp 0), (some 1), none⟩,
    ⟨.assign (.const (.int .i64 0)), (some 2), none⟩] := ⟨0, opsC r29_0, by kernel_rfl, by kernel_rfl, by kernel_rfl⟩
noncomputable def r29_1 : Code := subC (bodyC Try.f29) [1, 0]
instance : RegOps r29_1 49 [⟨.load 28 (.tmp 1), (some 4), none⟩,
    ⟨.alloc 28, (some 3), none⟩,
    ⟨.store 28 (.tmp 3) (.tmp 4), none, none⟩] := ⟨1, opsC r29_1, by kernel_rfl, by kernel_rfl, by kernel_rfl⟩
noncomputable def r29_2 : Code := subC (bodyC Try.f29) [1, 1, 0, 0]
instance : RegOps r29_2 49 [⟨.build 83 #[], (some 5), none⟩,
    ⟨.makeInterface 83 (.tmp 5), (some 6), none⟩,
    ⟨.call ⟨(.value (.func 33)), #[(.tmp 3), (.tmp 6)], #[71, 88]⟩, (some 7), none⟩,
    ⟨.unOp .not 4 (.tmp 7), (some 8), none⟩] := ⟨2, opsC r29_2, by kernel_rfl, by kernel_rfl, by kernel_rfl⟩
noncomputable def r29_3 : Code := subC (bodyC Try.f29) [1, 1, 0, 1, 0, 0]
instance : RegOps r29_3 49 [⟨.assign (.const (.int .i64 2)), (some 2), none⟩] := ⟨3, opsC r29_3, by kernel_rfl, by kernel_rfl, by kernel_rfl⟩
noncomputable def r29_4 : Code := subC (bodyC Try.f29) [1, 1, 1, 0, 0]
instance : RegOps r29_4 49 [⟨.fieldAddr 28 (.tmp 3) 1, (some 9), none⟩,
    ⟨.load 24 (.tmp 9), (some 10), none⟩,
    ⟨.binOp .neq 24 (.tmp 10) (.const (.int .u64 0)) 24, (some 11), none⟩,
    ⟨.move (.tmp 11), (some 12), none⟩,
    ⟨.fieldAddr 28 (.tmp 3) 2, (some 13), (some (12, false))⟩,
    ⟨.load 24 (.tmp 13), (some 14), (some (12, false))⟩,
    ⟨.binOp .neq 24 (.tmp 14) (.const (.int .u64 0)) 24, (some 15), (some (12, false))⟩,
    ⟨.pick (.tmp 12) (.const (.bool true)) (.tmp 15), (some 16), none⟩,
    ⟨.move (.tmp 16), (some 17), none⟩,
    ⟨.fieldAddr 28 (.tmp 3) 3, (some 18), (some (17, false))⟩,
    ⟨.load 2 (.tmp 18), (some 19), (some (17, false))⟩,
    ⟨.binOp .neq 2 (.tmp 19) (.const (.int .i64 0)) 2, (some 20), (some (17, false))⟩,
    ⟨.pick (.tmp 17) (.const (.bool true)) (.tmp 20), (some 21), none⟩,
    ⟨.move (.tmp 21), (some 22), none⟩,
    ⟨.fieldAddr 28 (.tmp 3) 4, (some 23), (some (22, false))⟩,
    ⟨.load 2 (.tmp 23), (some 24), (some (22, false))⟩,
    ⟨.binOp .neq 2 (.tmp 24) (.const (.int .i64 0)) 2, (some 25), (some (22, false))⟩,
    ⟨.pick (.tmp 22) (.const (.bool true)) (.tmp 25), (some 26), none⟩,
    ⟨.move (.tmp 26), (some 27), none⟩,
    ⟨.fieldAddr 28 (.tmp 3) 5, (some 28), (some (27, false))⟩,
    ⟨.load 25 (.tmp 28), (some 29), (some (27, false))⟩,
    ⟨.call ⟨(.builtin .len), #[(.tmp 29)], #[25]⟩, (some 30), (some (27, false))⟩,
    ⟨.binOp .gtr 3 (.tmp 30) (.const (.int .i64 0)) 3, (some 31), (some (27, false))⟩,
    ⟨.pick (.tmp 27) (.const (.bool true)) (.tmp 31), (some 32), none⟩,
    ⟨.move (.tmp 32), (some 33), none⟩,
    ⟨.fieldAddr 28 (.tmp 3) 6, (some 34), (some (33, false))⟩,
    ⟨.load 26 (.tmp 34), (some 35), (some (33, false))⟩,
    ⟨.call ⟨(.builtin .len), #[(.tmp 35)], #[26]⟩, (some 36), (some (33, false))⟩,
    ⟨.binOp .gtr 3 (.tmp 36) (.const (.int .i64 0)) 3, (some 37), (some (33, false))⟩,
    ⟨.pick (.tmp 33) (.const (.bool true)) (.tmp 37), (some 38), none⟩] := ⟨4, opsC r29_4, by kernel_rfl, by kernel_rfl, by kernel_rfl⟩
noncomputable def r29_5 : Code := subC (bodyC Try.f29) [1, 1, 1, 0, 1, 0, 0]
instance : RegOps r29_5 49 [⟨.assign (.const (.int .i64 2)), (some 2), none⟩] := ⟨5, opsC r29_5, by kernel_rfl, by kernel_rfl, by kernel_rfl⟩
noncomputable def r29_6 : Code := subC (bodyC Try.f29) [1, 1, 1, 1, 0, 0]
instance : RegOps r29_6 49 [⟨.fieldAddr 28 (.tmp 1) 5, (some 39), none⟩,
    ⟨.load 25 (.tmp 39), (some 40), none⟩,
    ⟨.call ⟨(.builtin .len), #[(.tmp 40)], #[25]⟩, (some 41), none⟩,
    ⟨.binOp .gtr 3 (.tmp 41) (.const (.int .i64 16384)) 3, (some 42), none⟩,
    ⟨.move (.tmp 42), (some 43), none⟩,
    ⟨.fieldAddr 28 (.tmp 1) 6, (some 44), (some (43, false))⟩,
    ⟨.load 26 (.tmp 44), (some 45), (some (43, false))⟩,
    ⟨.call ⟨(.builtin .len), #[(.tmp 45)], #[26]⟩, (some 46), (some (43, false))⟩,
    ⟨.binOp .gtr 3 (.tmp 46) (.const (.int .i64 1024)) 3, (some 47), (some (43, false))⟩,
    ⟨.pick (.tmp 43) (.const (.bool true)) (.tmp 47), (some 48), none⟩] := ⟨6, opsC r29_6, by kernel_rfl, by kernel_rfl, by kernel_rfl⟩
noncomputable def r29_7 : Code := subC (bodyC Try.f29) [1, 1, 1, 1, 0, 1, 0, 0]
instance : RegOps r29_7 49 [⟨.assign (.const (.int .i64 16)), (some 2), none⟩] := ⟨7, opsC r29_7, by kernel_rfl, by kernel_rfl, by kernel_rfl⟩
noncomputable def r29_8 : Code := subC (bodyC Try.f29) [1, 1, 1, 1, 1, 0]
instance : RegOps r29_8 49 [⟨.assign (.const (.int .i64 0)), (some 2), none⟩] := ⟨8, opsC r29_8, by kernel_rfl, by kernel_rfl, by kernel_rfl⟩
noncomputable def c29 : Code := (.seq r29_0 (.seq r29_1 (.seq (.seq r29_2 (.cond (.tmp 8) (.seq r29_3 .ret) .skip)) (.seq (.seq r29_4 (.cond (.tmp 38) (.seq r29_5 .ret) .skip)) (.seq (.seq r29_6 (.cond (.tmp 48) (.seq r29_7 .ret) .skip)) (.seq r29_8 .ret))))))
theorem en29 {args : List LV} {H : LH} {R : LOut → LH → Prop} (hn : args.length ≤ 49) (h : WP Try.prog ⟨29, 49, 0, [], none, none⟩ [.code c29] (argsK 0 args) H (Fin Try.prog R)) : CallP Try.prog 29 args H R :=
  CallP.enter (fn := Try.f29) (c := c29) (by kernel_rfl) (by kernel_rfl) (by kernel_rfl) hn h
instance : FnRes Try.prog 29 [.tmp 2] := ⟨Try.f29, by kernel_rfl, by kernel_rfl⟩
/-! seepage/seepagelaw44.cmd -/
noncomputable def r31_0 : Code := subC (bodyC Try.f31) [0]
instance : RegOps r31_0 94 [⟨.box 28 (.tmp 0), (some 2), none⟩,
    ⟨.box 28 (.tmp 1), (some 3), none⟩,
    ⟨.assign (.const (.bool false)), (some 4), none⟩] := ⟨0, opsC r31_0, by kernel_rfl, by kernel_rfl, by kernel_rfl⟩
noncomputable def r31_1 : Code := subC (bodyC Try.f31) [1, 0, 0]
instance : RegOps r31_1 94 [⟨.fieldAddr 28 (.tmp 2) 0, (some 7), none⟩,
    ⟨.load 23 (.tmp 7), (some 8), none⟩,
    ⟨.fieldAddr 28 (.tmp 3) 0, (some 9), none⟩,
    ⟨.load 23 (.tmp 9), (some 10), none⟩,
    ⟨.binOp .neq 23 (.tmp 8) (.tmp 10) 23, (some 11), none⟩,
    ⟨.move (.tmp 11), (some 12), none⟩,
    ⟨.fieldAddr 28 (.tmp 2) 1, (some 13), (some (12, false))⟩,
    ⟨.load 24 (.tmp 13), (some 14), (some (12, false))⟩,
    ⟨.fieldAddr 28 (.tmp 3) 1, (some 15), (some (12, false))⟩,
    ⟨.load 24 (.tmp 15), (some 16), (some (12, false))⟩,
    ⟨.binOp .neq 24 (.tmp 14) (.tmp 16) 24, (some 17), (some (12, false))⟩,
    ⟨.pick (.tmp 12) (.const (.bool true)) (.tmp 17), (some 18), none⟩,
    ⟨.move (.tmp 18), (some 19), none⟩,
    ⟨.fieldAddr 28 (.tmp 2) 2, (some 20), (some (19, false))⟩,
    ⟨.load 24 (.tmp 20), (some 21), (some (19, false))⟩,
    ⟨.fieldAddr 28 (.tmp 3) 2, (some 22), (some (19, false))⟩,
    ⟨.load 24 (.tmp 22), (some 23), (some (19, false))⟩,
    ⟨.binOp .neq 24 (.tmp 21) (.tmp 23) 24, (some 24), (some (19, false))⟩,
    ⟨.pick (.tmp 19) (.const (.bool true)) (.tmp 24), (some 25), none⟩,
    ⟨.move (.tmp 25), (some 26), none⟩,
    ⟨.fieldAddr 28 (.tmp 2) 3, (some 27), (some (26, false))⟩,
    ⟨.load 2 (.tmp 27), (some 28), (some (26, false))⟩,
    ⟨.fieldAddr 28 (.tmp 3) 3, (some 29), (some (26, false))⟩,
    ⟨.load 2 (.tmp 29), (some 30), (some (26, false))⟩,
    ⟨.binOp .neq 2 (.tmp 28) (.tmp 30) 2, (some 31), (some (26, false))⟩,
    ⟨.pick (.tmp 26) (.const (.bool true)) (.tmp 31), (some 32), none⟩,
    ⟨.move (.tmp 32), (some 33), none⟩,
    ⟨.fieldAddr 28 (.tmp 2) 4, (some 34), (some (33, false))⟩,
    ⟨.load 2 (.tmp 34), (some 35), (some (33, false))⟩,
    ⟨.fieldAddr 28 (.tmp 3) 4, (some 36), (some (33, false))⟩,
    ⟨.load 2 (.tmp 36), (some 37), (some (33, false))⟩,
    ⟨.binOp .neq 2 (.tmp 35) (.tmp 37) 2, (some 38), (some (33, false))⟩,
    ⟨.pick (.tmp 33) (.const (.bool true)) (.tmp 38), (some 39), none⟩,
    ⟨.move (.tmp 39), (some 40), none⟩,
    ⟨.fieldAddr 28 (.tmp 2) 5, (some 41), (some (40, false))⟩,
    ⟨.load 25 (.tmp 41), (some 42), (some (40, false))⟩,
    ⟨.call ⟨(.builtin .len), #[(.tmp 42)], #[25]⟩, (some 43), (some (40, false))⟩,
    ⟨.fieldAddr 28 (.tmp 3) 5, (some 44), (some (40, false))⟩,
    ⟨.load 25 (.tmp 44), (some 45), (some (40, false))⟩,
    ⟨.call ⟨(.builtin .len), #[(.tmp 45)], #[25]⟩, (some 46), (some (40, false))⟩,
    ⟨.binOp .neq 3 (.tmp 43) (.tmp 46) 3, (some 47), (some (40, false))⟩,
    ⟨.pick (.tmp 40) (.const (.bool true)) (.tmp 47), (some 48), none⟩,
    ⟨.move (.tmp 48), (some 49), none⟩,
    ⟨.fieldAddr 28 (.tmp 2) 6, (some 50), (some (49, false))⟩,
    ⟨.load 26 (.tmp 50), (some 51), (some (49, false))⟩,
    ⟨.call ⟨(.builtin .len), #[(.tmp 51)], #[26]⟩, (some 52), (some (49, false))⟩,
    ⟨.fieldAddr 28 (.tmp 3) 6, (some 53), (some (49, false))⟩,
    ⟨.load 26 (.tmp 53), (some 54), (some (49, false))⟩,
    ⟨.call ⟨(.builtin .len), #[(.tmp 54)], #[26]⟩, (some 55), (some (49, false))⟩,
    ⟨.binOp .neq 3 (.tmp 52) (.tmp 55) 3, (some 56), (some (49, false))⟩,
    ⟨.pick (.tmp 49) (.const (.bool true)) (.tmp 56), (some 57), none⟩] := ⟨1, opsC r31_1, by kernel_rfl, by kernel_rfl, by kernel_rfl⟩
noncomputable def r31_2 : Code := subC (bodyC Try.f31) [1, 0, 1, 0, 0]
instance : RegOps r31_2 94 [⟨.assign (.const (.bool false)), (some 4), none⟩] := ⟨2, opsC r31_2, by kernel_rfl, by kernel_rfl, by kernel_rfl⟩
noncomputable def r31_3 : Code := subC (bodyC Try.f31) [1, 1, 0, 0]
instance : RegOps r31_3 94 [⟨.assign (.const (.int .i64 0)), (some 5), none⟩] := ⟨3, opsC r31_3, by kernel_rfl, by kernel_rfl, by kernel_rfl⟩
noncomputable def r31_4 : Code := subC (bodyC Try.f31) [1, 1, 0, 1, 0, 0, 0, 0]
instance : RegOps r31_4 94 [⟨.move (.tmp 5), (some 58), none⟩,
    ⟨.fieldAddr 28 (.tmp 2) 5, (some 59), none⟩,
    ⟨.load 25 (.tmp 59), (some 60), none⟩,
    ⟨.call ⟨(.builtin .len), #[(.tmp 60)], #[25]⟩, (some 61), none⟩,
    ⟨.binOp .lss 3 (.tmp 58) (.tmp 61) 3, (some 62), none⟩] := ⟨4, opsC r31_4, by kernel_rfl, by kernel_rfl, by kernel_rfl⟩
noncomputable def r31_6 : Code := subC (bodyC Try.f31) [1, 1, 0, 1, 0, 0, 1, 0, 0, 0]
instance : RegDraw Try.prog r31_6 94 true [⟨.fieldAddr 28 (.tmp 2) 5, (some 65), none⟩,
    ⟨.load 25 (.tmp 65), (some 66), none⟩,
    ⟨.move (.tmp 5), (some 67), none⟩,
    ⟨.indexAddr 25 (.tmp 66) (.tmp 67), (some 68), none⟩,
    ⟨.load 24 (.tmp 68), (some 69), none⟩,
    ⟨.fieldAddr 28 (.tmp 3) 5, (some 70), none⟩,
    ⟨.load 25 (.tmp 70), (some 71), none⟩,
    ⟨.move (.tmp 5), (some 72), none⟩,
    ⟨.indexAddr 25 (.tmp 71) (.tmp 72), (some 73), none⟩,
    ⟨.load 24 (.tmp 73), (some 74), none⟩,
    ⟨.binOp .neq 24 (.tmp 69) (.tmp 74) 24, (some 75), none⟩] := ⟨6, opsC r31_6, by kernel_rfl, by kernel_rfl, by kernel_rfl, by kernel_rfl, by kernel_rfl, by kernel_rfl⟩
noncomputable def r31_7 : Code := subC (bodyC Try.f31) [1, 1, 0, 1, 0, 0, 1, 0, 0, 1, 0, 0]
instance : RegOps r31_7 94 [⟨.assign (.const (.bool false)), (some 4), none⟩] := ⟨7, opsC r31_7, by kernel_rfl, by kernel_rfl, by kernel_rfl⟩
noncomputable def r31_5 : Code := subC (bodyC Try.f31) [1, 1, 0, 1, 0, 0, 1, 1]
instance : RegOps r31_5 94 [⟨.move (.tmp 5), (some 63), none⟩,
    ⟨.binOp .add 3 (.tmp 63) (.const (.int .i64 1)) 3, (some 64), none⟩,
    ⟨.assign (.tmp 64), (some 5), none⟩] := ⟨5, opsC r31_5, by kernel_rfl, by kernel_rfl, by kernel_rfl⟩
noncomputable def r31_8 : Code := subC (bodyC Try.f31) [1, 1, 1, 0, 0]
instance : RegOps r31_8 94 [⟨.assign (.const (.int .i64 0)), (some 6), none⟩] := ⟨8, opsC r31_8, by kernel_rfl, by kernel_rfl, by kernel_rfl⟩
noncomputable def r31_9 : Code := subC (bodyC Try.f31) [1, 1, 1, 0, 1, 0, 0, 0, 0]
instance : RegOps r31_9 94 [⟨.move (.tmp 6), (some 76), none⟩,
    ⟨.fieldAddr 28 (.tmp 2) 6, (some 77), none⟩,
    ⟨.load 26 (.tmp 77), (some 78), none⟩,
    ⟨.call ⟨(.builtin .len), #[(.tmp 78)], #[26]⟩, (some 79), none⟩,
    ⟨.binOp .lss 3 (.tmp 76) (.tmp 79) 3, (some 80), none⟩] := ⟨9, opsC r31_9, by kernel_rfl, by kernel_rfl, by kernel_rfl⟩
noncomputable def r31_11 : Code := subC (bodyC Try.f31) [1, 1, 1, 0, 1, 0, 0, 1, 0, 0, 0]
instance : RegDraw Try.prog r31_11 94 true [⟨.fieldAddr 28 (.tmp 2) 6, (some 83), none⟩,
    ⟨.load 26 (.tmp 83), (some 84), none⟩,
    ⟨.move (.tmp 6), (some 85), none⟩,
    ⟨.indexAddr 26 (.tmp 84) (.tmp 85), (some 86), none⟩,
    ⟨.load 2 (.tmp 86), (some 87), none⟩,
    ⟨.fieldAddr 28 (.tmp 3) 6, (some 88), none⟩,
    ⟨.load 26 (.tmp 88), (some 89), none⟩,
    ⟨.move (.tmp 6), (some 90), none⟩,
    ⟨.indexAddr 26 (.tmp 89) (.tmp 90), (some 91), none⟩,
    ⟨.load 2 (.tmp 91), (some 92), none⟩,
    ⟨.binOp .neq 2 (.tmp 87) (.tmp 92) 2, (some 93), none⟩] := ⟨11, opsC r31_11, by kernel_rfl, by kernel_rfl, by kernel_rfl, by kernel_rfl, by kernel_rfl, by kernel_rfl⟩
noncomputable def r31_12 : Code := subC (bodyC Try.f31) [1, 1, 1, 0, 1, 0, 0, 1, 0, 0, 1, 0, 0]
instance : RegOps r31_12 94 [⟨.assign (.const (.bool false)), (some 4), none⟩] := ⟨12, opsC r31_12, by kernel_rfl, by kernel_rfl, by kernel_rfl⟩
noncomputable def r31_10 : Code := subC (bodyC Try.f31) [1, 1, 1, 0, 1, 0, 0, 1, 1]
instance : RegOps r31_10 94 [⟨.move (.tmp 6), (some 81), none⟩,
    ⟨.binOp .add 3 (.tmp 81) (.const (.int .i64 1)) 3, (some 82), none⟩,
    ⟨.assign (.tmp 82), (some 6), none⟩] := ⟨10, opsC r31_10, by kernel_rfl, by kernel_rfl, by kernel_rfl⟩
noncomputable def r31_13 : Code := subC (bodyC Try.f31) [1, 1, 1, 1, 0]
instance : RegOps r31_13 94 [⟨.assign (.const (.bool true)), (some 4), none⟩] := ⟨13, opsC r31_13, by kernel_rfl, by kernel_rfl, by kernel_rfl⟩
noncomputable def c31 : Code := (.seq r31_0 (.seq (.seq r31_1 (.cond (.tmp 57) (.seq r31_2 .ret) .skip)) (.seq (.seq r31_3 (.block 0 (.loop (.seq (.seq r31_4 (.cond (.tmp 62) .skip (.exit 0))) (.seq (.block 1 (.seq r31_6 (.cond (.tmp 75) (.seq r31_7 .ret) .skip))) r31_5))))) (.seq (.seq r31_8 (.block 2 (.loop (.seq (.seq r31_9 (.cond (.tmp 80) .skip (.exit 2))) (.seq (.block 3 (.seq r31_11 (.cond (.tmp 93) (.seq r31_12 .ret) .skip))) r31_10))))) (.seq r31_13 .ret)))))
theorem en31 {args : List LV} {H : LH} {R : LOut → LH → Prop} (hn : args.length ≤ 94) (h : WP Try.prog ⟨31, 94, 0, [], none, none⟩ [.code c31] (argsK 0 args) H (Fin Try.prog R)) : CallP Try.prog 31 args H R :=
  CallP.enter (fn := Try.f31) (c := c31) (by kernel_rfl) (by kernel_rfl) (by kernel_rfl) hn h
instance : FnRes Try.prog 31 [.tmp 4] := ⟨Try.f31, by kernel_rfl, by kernel_rfl⟩
/-! slices.Clone[[]byte,byte] -/
noncomputable def r32_0 : Code := subC (bodyC Try.f32) [0]
instance : RegOps r32_0 8 [⟨.assign (.const (.slice none 0 0)), (some 2), none⟩] := ⟨0, opsC r32_0, by kernel_rfl, by kernel_rfl, by kernel_rfl⟩
noncomputable def r32_1 : Code := subC (bodyC Try.f32) [1, 0, 0]
instance : RegOps r32_1 8 [⟨.move (.tmp 0), (some 3), none⟩,
    ⟨.binOp .eql 22 (.tmp 3) (.const (.slice none 0 0)) 22, (some 4), none⟩] := ⟨1, opsC r32_1, by kernel_rfl, by kernel_rfl, by kernel_rfl⟩
noncomputable def r32_2 : Code := subC (bodyC Try.f32) [1, 0, 1, 0, 0]
instance : RegOps r32_2 8 [⟨.assign (.const (.slice none 0 0)), (some 2), none⟩] := ⟨2, opsC r32_2, by kernel_rfl, by kernel_rfl, by kernel_rfl⟩
noncomputable def r32_3 : Code := subC (bodyC Try.f32) [1, 1, 0]
instance : RegOps r32_3 8 [⟨.buildSlice 22 0 #[], (some 5), none⟩,
    ⟨.move (.tmp 0), (some 6), none⟩,
    ⟨.call ⟨(.builtin .append), #[(.tmp 5), (.tmp 6)], #[22, 22]⟩, (some 7), none⟩,
    ⟨.assign (.tmp 7), (some 2), none⟩] := ⟨3, opsC r32_3, by kernel_rfl, by kernel_rfl, by kernel_rfl⟩
noncomputable def c32 : Code := (.seq r32_0 (.seq (.seq r32_1 (.cond (.tmp 4) (.seq r32_2 .ret) .skip)) (.seq r32_3 .ret)))
theorem en32 {args : List LV} {H : LH} {R : LOut → LH → Prop} (hn : args.length ≤ 8) (h : WP Try.prog ⟨32, 8, 0, [], none, none⟩ [.code c32] (argsK 0 args) H (Fin Try.prog R)) : CallP Try.prog 32 args H R :=
  CallP.enter (fn := Try.f32) (c := c32) (by kernel_rfl) (by kernel_rfl) (by kernel_rfl) hn h
instance : FnRes Try.prog 32 [.tmp 2] := ⟨Try.f32, by kernel_rfl, by kernel_rfl⟩
/-! seepage/codec.fields -/
noncomputable def r33_0 : Code := subC (bodyC Try.f33) [0]
instance : RegOps r33_0 129 [⟨.box 88 (.tmp 1), (some 3), none⟩,
    ⟨.assign (.const (.bool false)), (some 4), none⟩] := ⟨0, opsC r33_0, by kernel_rfl, by kernel_rfl, by kernel_rfl⟩
noncomputable def r33_1 : Code := subC (bodyC Try.f33) [1, 0]
instance : RegOps r33_1 129 [⟨.makeFunc (.func 46) #[] #[(.tmp 3)], (some 6), none⟩,
    ⟨.assign (.tmp 6), (some 5), none⟩] := ⟨1, opsC r33_1, by kernel_rfl, by kernel_rfl, by kernel_rfl⟩
noncomputable def r33_2 : Code := subC (bodyC Try.f33) [1, 1, 0, 0]
instance : RegOps r33_2 129 [⟨.move (.tmp 0), (some 7), none⟩,
    ⟨.nilCheck (.tmp 7), (some 8), none⟩,
    ⟨.fieldAddr 28 (.tmp 8) 0, (some 9), none⟩,
    ⟨.load 23 (.tmp 9), (some 10), none⟩] := ⟨2, opsC r33_2, by kernel_rfl, by kernel_rfl, by kernel_rfl⟩
noncomputable def r33_4 : Code := subC (bodyC Try.f33) [1, 1, 0, 1, 0, 0]
instance : RegOps r33_4 129 [⟨.binOp .eql 23 (.tmp 10) (.const (.int .i64 1)) 23, (some 12), none⟩,
    ⟨.assign (.tmp 12), (some 11), none⟩] := ⟨4, opsC r33_4, by kernel_rfl, by kernel_rfl, by kernel_rfl⟩
noncomputable def r33_5 : Code := subC (bodyC Try.f33) [1, 1, 0, 1, 0, 1, 0, 0]
instance : RegDraw Try.prog r33_5 129 true [⟨.move (.tmp 5), (some 13), none⟩,
    ⟨.move (.tmp 0), (some 14), none⟩,
    ⟨.nilCheck (.tmp 14), (some 15), none⟩,
    ⟨.fieldAddr 28 (.tmp 15) 1, (some 16), none⟩,
    ⟨.move (.tmp 0), (some 17), none⟩,
    ⟨.nilCheck (.tmp 17), (some 18), none⟩,
    ⟨.fieldAddr 28 (.tmp 18) 2, (some 19), none⟩,
    ⟨.buildSlice 89 2 #[(0, (.tmp 16)), (1, (.tmp 19))], (some 20), none⟩,
    ⟨.call ⟨(.value (.tmp 13)), #[(.tmp 20)], #[89]⟩, (some 21), none⟩] := ⟨5, opsC r33_5, by kernel_rfl, by kernel_rfl, by kernel_rfl, by kernel_rfl, by kernel_rfl, by kernel_rfl⟩
noncomputable def r33_6 : Code := subC (bodyC Try.f33) [1, 1, 0, 1, 0, 1, 0, 1, 0]
instance : RegDraw Try.prog r33_6 129 true [⟨.load 88 (.tmp 3), (some 22), none⟩,
    ⟨.move (.tmp 0), (some 23), none⟩,
    ⟨.nilCheck (.tmp 23), (some 24), none⟩,
    ⟨.fieldAddr 28 (.tmp 24) 3, (some 25), none⟩,
    ⟨.makeFunc (.method "seepage/codec.num") #[(.tmp 22)] #[], (some 26), none⟩,
    ⟨.nilCheck (.tmp 26), (some 27), none⟩,
    ⟨.move (.tmp 22), (some 28), none⟩,
    ⟨.call ⟨(.invoke (.tmp 28) "seepage/codec.num"), #[(.tmp 25)], #[94]⟩, (some 29), none⟩] := ⟨6, opsC r33_6, by kernel_rfl, by kernel_rfl, by kernel_rfl, by kernel_rfl, by kernel_rfl, by kernel_rfl⟩
noncomputable def r33_7 : Code := subC (bodyC Try.f33) [1, 1, 0, 1, 0, 1, 0, 1, 1]
instance : RegDraw Try.prog r33_7 129 true [⟨.load 88 (.tmp 3), (some 30), none⟩,
    ⟨.move (.tmp 0), (some 31), none⟩,
    ⟨.nilCheck (.tmp 31), (some 32), none⟩,
    ⟨.fieldAddr 28 (.tmp 32) 4, (some 33), none⟩,
    ⟨.makeFunc (.method "seepage/codec.num") #[(.tmp 30)] #[], (some 34), none⟩,
    ⟨.nilCheck (.tmp 34), (some 35), none⟩,
    ⟨.move (.tmp 30), (some 36), none⟩,
    ⟨.call ⟨(.invoke (.tmp 36) "seepage/codec.num"), #[(.tmp 33)], #[94]⟩, (some 37), none⟩] := ⟨7, opsC r33_7, by kernel_rfl, by kernel_rfl, by kernel_rfl, by kernel_rfl, by kernel_rfl, by kernel_rfl⟩
noncomputable def r33_8 : Code := subC (bodyC Try.f33) [1, 1, 0, 1, 0, 1, 1, 0]
instance : RegOps r33_8 129 [⟨.binOp .eql 23 (.tmp 10) (.const (.int .i64 2)) 23, (some 39), none⟩,
    ⟨.assign (.tmp 39), (some 38), none⟩] := ⟨8, opsC r33_8, by kernel_rfl, by kernel_rfl, by kernel_rfl⟩
noncomputable def r33_9 : Code := subC (bodyC Try.f33) [1, 1, 0, 1, 0, 1, 1, 1, 0]
instance : RegDraw Try.prog r33_9 129 true [⟨.load 88 (.tmp 3), (some 40), none⟩,
    ⟨.move (.tmp 0), (some 41), none⟩,
    ⟨.nilCheck (.tmp 41), (some 42), none⟩,
    ⟨.fieldAddr 28 (.tmp 42) 4, (some 43), none⟩,
    ⟨.makeFunc (.method "seepage/codec.num") #[(.tmp 40)] #[], (some 44), none⟩,
    ⟨.nilCheck (.tmp 44), (some 45), none⟩,
    ⟨.move (.tmp 40), (some 46), none⟩,
    ⟨.call ⟨(.invoke (.tmp 46) "seepage/codec.num"), #[(.tmp 43)], #[94]⟩, (some 47), none⟩] := ⟨9, opsC r33_9, by kernel_rfl, by kernel_rfl, by kernel_rfl, by kernel_rfl, by kernel_rfl, by kernel_rfl⟩
noncomputable def r33_10 : Code := subC (bodyC Try.f33) [1, 1, 0, 1, 0, 1, 1, 1, 1, 0, 0]
instance : RegOps r33_10 129 [⟨.binOp .eql 23 (.tmp 10) (.const (.int .i64 3)) 23, (some 49), none⟩,
    ⟨.assign (.tmp 49), (some 48), none⟩] := ⟨10, opsC r33_10, by kernel_rfl, by kernel_rfl, by kernel_rfl⟩
noncomputable def r33_11 : Code := subC (bodyC Try.f33) [1, 1, 0, 1, 0, 1, 1, 1, 1, 0, 1, 1]
instance : RegOps r33_11 129 [⟨.binOp .eql 23 (.tmp 10) (.const (.int .i64 8)) 23, (some 50), none⟩,
    ⟨.assign (.tmp 50), (some 48), none⟩] := ⟨11, opsC r33_11, by kernel_rfl, by kernel_rfl, by kernel_rfl⟩
noncomputable def r33_12 : Code := subC (bodyC Try.f33) [1, 1, 0, 1, 0, 1, 1, 1, 1, 1, 0]
instance : RegDraw Try.prog r33_12 129 true [⟨.move (.tmp 5), (some 51), none⟩,
    ⟨.move (.tmp 0), (some 52), none⟩,
    ⟨.nilCheck (.tmp 52), (some 53), none⟩,
    ⟨.fieldAddr 28 (.tmp 53) 1, (some 54), none⟩,
    ⟨.move (.tmp 0), (some 55), none⟩,
    ⟨.nilCheck (.tmp 55), (some 56), none⟩,
    ⟨.fieldAddr 28 (.tmp 56) 2, (some 57), none⟩,
    ⟨.buildSlice 89 2 #[(0, (.tmp 54)), (1, (.tmp 57))], (some 58), none⟩,
    ⟨.call ⟨(.value (.tmp 51)), #[(.tmp 58)], #[89]⟩, (some 59), none⟩] := ⟨12, opsC r33_12, by kernel_rfl, by kernel_rfl, by kernel_rfl, by kernel_rfl, by kernel_rfl, by kernel_rfl⟩
noncomputable def r33_13 : Code := subC (bodyC Try.f33) [1, 1, 0, 1, 0, 1, 1, 1, 1, 1, 1, 0]
instance : RegOps r33_13 129 [⟨.binOp .eql 23 (.tmp 10) (.const (.int .i64 4)) 23, (some 61), none⟩,
    ⟨.assign (.tmp 61), (some 60), none⟩] := ⟨13, opsC r33_13, by kernel_rfl, by kernel_rfl, by kernel_rfl⟩
noncomputable def r33_14 : Code := subC (bodyC Try.f33) [1, 1, 0, 1, 0, 1, 1, 1, 1, 1, 1, 1, 0]
instance : RegOps r33_14 129 [⟨.move (.tmp 5), (some 62), none⟩,
    ⟨.move (.tmp 0), (some 63), none⟩,
    ⟨.nilCheck (.tmp 63), (some 64), none⟩,
    ⟨.fieldAddr 28 (.tmp 64) 1, (some 65), none⟩,
    ⟨.buildSlice 89 1 #[(0, (.tmp 65))], (some 66), none⟩,
    ⟨.call ⟨(.value (.tmp 62)), #[(.tmp 66)], #[89]⟩, (some 67), none⟩] := ⟨14, opsC r33_14, by kernel_rfl, by kernel_rfl, by kernel_rfl⟩
noncomputable def r33_15 : Code := subC (bodyC Try.f33) [1, 1, 0, 1, 0, 1, 1, 1, 1, 1, 1, 1, 1, 0, 0]
instance : RegOps r33_15 129 [⟨.binOp .eql 23 (.tmp 10) (.const (.int .i64 5)) 23, (some 69), none⟩,
    ⟨.assign (.tmp 69), (some 68), none⟩] := ⟨15, opsC r33_15, by kernel_rfl, by kernel_rfl, by kernel_rfl⟩
noncomputable def r33_16 : Code := subC (bodyC Try.f33) [1, 1, 0, 1, 0, 1, 1, 1, 1, 1, 1, 1, 1, 0, 1, 1, 0]
instance : RegOps r33_16 129 [⟨.binOp .eql 23 (.tmp 10) (.const (.int .i64 9)) 23, (some 70), none⟩,
    ⟨.assign (.tmp 70), (some 68), none⟩] := ⟨16, opsC r33_16, by kernel_rfl, by kernel_rfl, by kernel_rfl⟩
noncomputable def r33_17 : Code := subC (bodyC Try.f33) [1, 1, 0, 1, 0, 1, 1, 1, 1, 1, 1, 1, 1, 0, 1, 1, 1, 1, 0]
instance : RegOps r33_17 129 [⟨.binOp .eql 23 (.tmp 10) (.const (.int .i64 10)) 23, (some 71), none⟩,
    ⟨.assign (.tmp 71), (some 68), none⟩] := ⟨17, opsC r33_17, by kernel_rfl, by kernel_rfl, by kernel_rfl⟩
noncomputable def r33_18 : Code := subC (bodyC Try.f33) [1, 1, 0, 1, 0, 1, 1, 1, 1, 1, 1, 1, 1, 0, 1, 1, 1, 1, 1, 1, 0]
instance : RegOps r33_18 129 [⟨.binOp .eql 23 (.tmp 10) (.const (.int .i64 13)) 23, (some 72), none⟩,
    ⟨.assign (.tmp 72), (some 68), none⟩] := ⟨18, opsC r33_18, by kernel_rfl, by kernel_rfl, by kernel_rfl⟩
noncomputable def r33_19 : Code := subC (bodyC Try.f33) [1, 1, 0, 1, 0, 1, 1, 1, 1, 1, 1, 1, 1, 0, 1, 1, 1, 1, 1, 1, 1, 1, 0]
instance : RegOps r33_19 129 [⟨.binOp .eql 23 (.tmp 10) (.const (.int .i64 14)) 23, (some 73), none⟩,
    ⟨.assign (.tmp 73), (some 68), none⟩] := ⟨19, opsC r33_19, by kernel_rfl, by kernel_rfl, by kernel_rfl⟩
noncomputable def r33_20 : Code := subC (bodyC Try.f33) [1, 1, 0, 1, 0, 1, 1, 1, 1, 1, 1, 1, 1, 0, 1, 1, 1, 1, 1, 1, 1, 1, 1, 1]
instance : RegOps r33_20 129 [⟨.binOp .eql 23 (.tmp 10) (.const (.int .i64 15)) 23, (some 74), none⟩,
    ⟨.assign (.tmp 74), (some 68), none⟩] := ⟨20, opsC r33_20, by kernel_rfl, by kernel_rfl, by kernel_rfl⟩
noncomputable def r33_21 : Code := subC (bodyC Try.f33) [1, 1, 0, 1, 0, 1, 1, 1, 1, 1, 1, 1, 1, 1, 1, 0]
instance : RegOps r33_21 129 [⟨.binOp .eql 23 (.tmp 10) (.const (.int .i64 6)) 23, (some 76), none⟩,
    ⟨.assign (.tmp 76), (some 75), none⟩] := ⟨21, opsC r33_21, by kernel_rfl, by kernel_rfl, by kernel_rfl⟩
noncomputable def r33_22 : Code := subC (bodyC Try.f33) [1, 1, 0, 1, 0, 1, 1, 1, 1, 1, 1, 1, 1, 1, 1, 1, 0, 0]
instance : RegOps r33_22 129 [⟨.move (.tmp 5), (some 77), none⟩,
    ⟨.move (.tmp 0), (some 78), none⟩,
    ⟨.nilCheck (.tmp 78), (some 79), none⟩,
    ⟨.fieldAddr 28 (.tmp 79) 1, (some 80), none⟩,
    ⟨.buildSlice 89 1 #[(0, (.tmp 80))], (some 81), none⟩,
    ⟨.call ⟨(.value (.tmp 77)), #[(.tmp 81)], #[89]⟩, (some 82), none⟩] := ⟨22, opsC r33_22, by kernel_rfl, by kernel_rfl, by kernel_rfl⟩
noncomputable def r33_23 : Code := subC (bodyC Try.f33) [1, 1, 0, 1, 0, 1, 1, 1, 1, 1, 1, 1, 1, 1, 1, 1, 0, 1]
instance : RegDraw Try.prog r33_23 129 true [⟨.load 88 (.tmp 3), (some 83), none⟩,
    ⟨.move (.tmp 0), (some 84), none⟩,
    ⟨.nilCheck (.tmp 84), (some 85), none⟩,
    ⟨.fieldAddr 28 (.tmp 85) 3, (some 86), none⟩,
    ⟨.makeFunc (.method "seepage/codec.num") #[(.tmp 83)] #[], (some 87), none⟩,
    ⟨.nilCheck (.tmp 87), (some 88), none⟩,
    ⟨.move (.tmp 83), (some 89), none⟩,
    ⟨.call ⟨(.invoke (.tmp 89) "seepage/codec.num"), #[(.tmp 86)], #[94]⟩, (some 90), none⟩] := ⟨23, opsC r33_23, by kernel_rfl, by kernel_rfl, by kernel_rfl, by kernel_rfl, by kernel_rfl, by kernel_rfl⟩
noncomputable def r33_24 : Code := subC (bodyC Try.f33) [1, 1, 0, 1, 0, 1, 1, 1, 1, 1, 1, 1, 1, 1, 1, 1, 1, 0]
instance : RegOps r33_24 129 [⟨.binOp .eql 23 (.tmp 10) (.const (.int .i64 7)) 23, (some 92), none⟩,
    ⟨.assign (.tmp 92), (some 91), none⟩] := ⟨24, opsC r33_24, by kernel_rfl, by kernel_rfl, by kernel_rfl⟩
noncomputable def r33_25 : Code := subC (bodyC Try.f33) [1, 1, 0, 1, 0, 1, 1, 1, 1, 1, 1, 1, 1, 1, 1, 1, 1, 1, 0]
instance : RegDraw Try.prog r33_25 129 true [⟨.load 88 (.tmp 3), (some 93), none⟩,
    ⟨.move (.tmp 0), (some 94), none⟩,
    ⟨.nilCheck (.tmp 94), (some 95), none⟩,
    ⟨.fieldAddr 28 (.tmp 95) 3, (some 96), none⟩,
    ⟨.makeFunc (.method "seepage/codec.num") #[(.tmp 93)] #[], (some 97), none⟩,
    ⟨.nilCheck (.tmp 97), (some 98), none⟩,
    ⟨.move (.tmp 93), (some 99), none⟩,
    ⟨.call ⟨(.invoke (.tmp 99) "seepage/codec.num"), #[(.tmp 96)], #[94]⟩, (some 100), none⟩] := ⟨25, opsC r33_25, by kernel_rfl, by kernel_rfl, by kernel_rfl, by kernel_rfl, by kernel_rfl, by kernel_rfl⟩
noncomputable def r33_26 : Code := subC (bodyC Try.f33) [1, 1, 0, 1, 0, 1, 1, 1, 1, 1, 1, 1, 1, 1, 1, 1, 1, 1, 1, 0]
instance : RegOps r33_26 129 [⟨.binOp .eql 23 (.tmp 10) (.const (.int .i64 11)) 23, (some 102), none⟩,
    ⟨.assign (.tmp 102), (some 101), none⟩] := ⟨26, opsC r33_26, by kernel_rfl, by kernel_rfl, by kernel_rfl⟩
noncomputable def r33_27 : Code := subC (bodyC Try.f33) [1, 1, 0, 1, 0, 1, 1, 1, 1, 1, 1, 1, 1, 1, 1, 1, 1, 1, 1, 1, 0]
instance : RegDraw Try.prog r33_27 129 true [⟨.load 88 (.tmp 3), (some 103), none⟩,
    ⟨.move (.tmp 0), (some 104), none⟩,
    ⟨.nilCheck (.tmp 104), (some 105), none⟩,
    ⟨.fieldAddr 28 (.tmp 105) 5, (some 106), none⟩,
    ⟨.makeFunc (.method "seepage/codec.draws") #[(.tmp 103)] #[], (some 107), none⟩,
    ⟨.nilCheck (.tmp 107), (some 108), none⟩,
    ⟨.move (.tmp 103), (some 109), none⟩,
    ⟨.call ⟨(.invoke (.tmp 109) "seepage/codec.draws"), #[(.tmp 106)], #[96]⟩, (some 110), none⟩] := ⟨27, opsC r33_27, by kernel_rfl, by kernel_rfl, by kernel_rfl, by kernel_rfl, by kernel_rfl, by kernel_rfl⟩
noncomputable def r33_28 : Code := subC (bodyC Try.f33) [1, 1, 0, 1, 0, 1, 1, 1, 1, 1, 1, 1, 1, 1, 1, 1, 1, 1, 1, 1, 1, 0]
instance : RegOps r33_28 129 [⟨.binOp .eql 23 (.tmp 10) (.const (.int .i64 12)) 23, (some 112), none⟩,
    ⟨.assign (.tmp 112), (some 111), none⟩] := ⟨28, opsC r33_28, by kernel_rfl, by kernel_rfl, by kernel_rfl⟩
noncomputable def r33_29 : Code := subC (bodyC Try.f33) [1, 1, 0, 1, 0, 1, 1, 1, 1, 1, 1, 1, 1, 1, 1, 1, 1, 1, 1, 1, 1, 1, 0, 0]
instance : RegDraw Try.prog r33_29 129 true [⟨.load 88 (.tmp 3), (some 113), none⟩,
    ⟨.move (.tmp 0), (some 114), none⟩,
    ⟨.nilCheck (.tmp 114), (some 115), none⟩,
    ⟨.fieldAddr 28 (.tmp 115) 3, (some 116), none⟩,
    ⟨.makeFunc (.method "seepage/codec.num") #[(.tmp 113)] #[], (some 117), none⟩,
    ⟨.nilCheck (.tmp 117), (some 118), none⟩,
    ⟨.move (.tmp 113), (some 119), none⟩,
    ⟨.call ⟨(.invoke (.tmp 119) "seepage/codec.num"), #[(.tmp 116)], #[94]⟩, (some 120), none⟩] := ⟨29, opsC r33_29, by kernel_rfl, by kernel_rfl, by kernel_rfl, by kernel_rfl, by kernel_rfl, by kernel_rfl⟩
noncomputable def r33_30 : Code := subC (bodyC Try.f33) [1, 1, 0, 1, 0, 1, 1, 1, 1, 1, 1, 1, 1, 1, 1, 1, 1, 1, 1, 1, 1, 1, 0, 1]
instance : RegDraw Try.prog r33_30 129 true [⟨.load 88 (.tmp 3), (some 121), none⟩,
    ⟨.move (.tmp 0), (some 122), none⟩,
    ⟨.nilCheck (.tmp 122), (some 123), none⟩,
    ⟨.fieldAddr 28 (.tmp 123) 6, (some 124), none⟩,
    ⟨.makeFunc (.method "seepage/codec.bounds") #[(.tmp 121)] #[], (some 125), none⟩,
    ⟨.nilCheck (.tmp 125), (some 126), none⟩,
    ⟨.move (.tmp 121), (some 127), none⟩,
    ⟨.call ⟨(.invoke (.tmp 127) "seepage/codec.bounds"), #[(.tmp 124)], #[98]⟩, (some 128), none⟩] := ⟨30, opsC r33_30, by kernel_rfl, by kernel_rfl, by kernel_rfl, by kernel_rfl, by kernel_rfl, by kernel_rfl⟩
noncomputable def r33_3 : Code := subC (bodyC Try.f33) [1, 1, 0, 1, 0, 1, 1, 1, 1, 1, 1, 1, 1, 1, 1, 1, 1, 1, 1, 1, 1, 1, 1, 0]
instance : RegOps r33_3 129 [⟨.assign (.const (.bool false)), (some 4), none⟩] := ⟨3, opsC r33_3, by kernel_rfl, by kernel_rfl, by kernel_rfl⟩
noncomputable def r33_31 : Code := subC (bodyC Try.f33) [1, 1, 1, 0]
instance : RegOps r33_31 129 [⟨.assign (.const (.bool true)), (some 4), none⟩] := ⟨31, opsC r33_31, by kernel_rfl, by kernel_rfl, by kernel_rfl⟩
noncomputable def c33 : Code := (.seq r33_0 (.seq r33_1 (.seq (.seq r33_2 (.block 0 (.seq r33_4 (.cond (.tmp 11) (.seq r33_5 (.seq r33_6 r33_7)) (.seq r33_8 (.cond (.tmp 38) r33_9 (.seq (.seq r33_10 (.cond (.tmp 48) .skip r33_11)) (.cond (.tmp 48) r33_12 (.seq r33_13 (.cond (.tmp 60) r33_14 (.seq (.seq r33_15 (.cond (.tmp 68) .skip (.seq r33_16 (.cond (.tmp 68) .skip (.seq r33_17 (.cond (.tmp 68) .skip (.seq r33_18 (.cond (.tmp 68) .skip (.seq r33_19 (.cond (.tmp 68) .skip r33_20)))))))))) (.cond (.tmp 68) .skip (.seq r33_21 (.cond (.tmp 75) (.seq r33_22 r33_23) (.seq r33_24 (.cond (.tmp 91) r33_25 (.seq r33_26 (.cond (.tmp 101) r33_27 (.seq r33_28 (.cond (.tmp 111) (.seq r33_29 r33_30) (.seq r33_3 .ret))))))))))))))))))))) (.seq r33_31 .ret))))
theorem en33 {args : List LV} {H : LH} {R : LOut → LH → Prop} (hn : args.length ≤ 129) (h : WP Try.prog ⟨33, 129, 0, [], none, none⟩ [.code c33] (argsK 0 args) H (Fin Try.prog R)) : CallP Try.prog 33 args H R :=
  CallP.enter (fn := Try.f33) (c := c33) (by kernel_rfl) (by kernel_rfl) (by kernel_rfl) hn h
instance : FnRes Try.prog 33 [.tmp 4] := ⟨Try.f33, by kernel_rfl, by kernel_rfl⟩
/-! seepage/codec.uvarint -/
noncomputable def r34_0 : Code := subC (bodyC Try.f34) [0]
instance : RegOps r34_0 20 [⟨.assign (.const (.slice none 0 0)), (some 4), none⟩] := ⟨0, opsC r34_0, by kernel_rfl, by kernel_rfl, by kernel_rfl⟩
noncomputable def r34_1 : Code := subC (bodyC Try.f34) [1, 0, 0, 0, 0, 0]
instance : RegOps r34_1 20 [⟨.move (.tmp 1), (some 5), none⟩,
    ⟨.binOp .geq 24 (.tmp 5) (.const (.int .u64 128)) 24, (some 6), none⟩] := ⟨1, opsC r34_1, by kernel_rfl, by kernel_rfl, by kernel_rfl⟩
noncomputable def r34_3 : Code := subC (bodyC Try.f34) [1, 0, 0, 0, 1, 0, 0]
instance : RegOps r34_3 20 [⟨.move (.tmp 0), (some 9), none⟩,
    ⟨.move (.tmp 1), (some 10), none⟩,
    ⟨.convert 24 5 (.tmp 10), (some 11), none⟩,
    ⟨.binOp .or 5 (.tmp 11) (.const (.int .u8 128)) 5, (some 12), none⟩,
    ⟨.buildSlice 22 1 #[(0, (.tmp 12))], (some 13), none⟩,
    ⟨.call ⟨(.builtin .append), #[(.tmp 9), (.tmp 13)], #[22, 22]⟩, (some 14), none⟩,
    ⟨.assign (.tmp 14), (some 0), none⟩] := ⟨3, opsC r34_3, by kernel_rfl, by kernel_rfl, by kernel_rfl⟩
noncomputable def r34_2 : Code := subC (bodyC Try.f34) [1, 0, 0, 0, 1, 1]
instance : RegOps r34_2 20 [⟨.move (.tmp 1), (some 7), none⟩,
    ⟨.binOp .shr 24 (.tmp 7) (.const (.int .u64 7)) 78, (some 8), none⟩,
    ⟨.assign (.tmp 8), (some 1), none⟩] := ⟨2, opsC r34_2, by kernel_rfl, by kernel_rfl, by kernel_rfl⟩
noncomputable def r34_4 : Code := subC (bodyC Try.f34) [1, 1, 0]
instance : RegOps r34_4 20 [⟨.move (.tmp 0), (some 15), none⟩,
    ⟨.move (.tmp 1), (some 16), none⟩,
    ⟨.convert 24 5 (.tmp 16), (some 17), none⟩,
    ⟨.buildSlice 22 1 #[(0, (.tmp 17))], (some 18), none⟩,
    ⟨.call ⟨(.builtin .append), #[(.tmp 15), (.tmp 18)], #[22, 22]⟩, (some 19), none⟩,
    ⟨.assign (.tmp 19), (some 4), none⟩] := ⟨4, opsC r34_4, by kernel_rfl, by kernel_rfl, by kernel_rfl⟩
noncomputable def c34 : Code := (.seq r34_0 (.seq (.block 0 (.loop (.seq (.seq r34_1 (.cond (.tmp 6) .skip (.exit 0))) (.seq (.block 1 r34_3) r34_2)))) (.seq r34_4 .ret)))
theorem en34 {args : List LV} {H : LH} {R : LOut → LH → Prop} (hn : args.length ≤ 20) (h : WP Try.prog ⟨34, 20, 0, [], none, none⟩ [.code c34] (argsK 0 args) H (Fin Try.prog R)) : CallP Try.prog 34 args H R :=
  CallP.enter (fn := Try.f34) (c := c34) (by kernel_rfl) (by kernel_rfl) (by kernel_rfl) hn h
instance : FnRes Try.prog 34 [.tmp 4] := ⟨Try.f34, by kernel_rfl, by kernel_rfl⟩
/-! seepage/journal.records$1 -/
noncomputable def r35_0 : Code := subC (bodyC Try.f35) [0]
instance : RegOps r35_0 68 [⟨.build 53 #[], (some 9), none⟩,
    ⟨.call ⟨(.value (.func 24)), #[(.tmp 9)], #[53]⟩, (some 10), none⟩,
    ⟨.assign (.tmp 10), (some 3), none⟩] := ⟨0, opsC r35_0, by kernel_rfl, by kernel_rfl, by kernel_rfl⟩
noncomputable def r35_1 : Code := subC (bodyC Try.f35) [1, 0]
instance : RegOps r35_1 68 [⟨.assign (.const (.int .i64 0)), (some 4), none⟩] := ⟨1, opsC r35_1, by kernel_rfl, by kernel_rfl, by kernel_rfl⟩
noncomputable def r35_2 : Code := subC (bodyC Try.f35) [1, 1, 0, 0, 0, 0]
instance : RegOps r35_2 68 [⟨.move (.tmp 4), (some 11), none⟩,
    ⟨.load 22 (.tmp 1), (some 12), none⟩,
    ⟨.call ⟨(.builtin .len), #[(.tmp 12)], #[22]⟩, (some 13), none⟩,
    ⟨.binOp .lss 3 (.tmp 11) (.tmp 13) 3, (some 14), none⟩] := ⟨2, opsC r35_2, by kernel_rfl, by kernel_rfl, by kernel_rfl⟩
noncomputable def r35_3 : Code := subC (bodyC Try.f35) [1, 1, 0, 0, 1, 0, 0]
instance : RegOps r35_3 68 [⟨.load 22 (.tmp 1), (some 16), none⟩,
    ⟨.move (.tmp 4), (some 17), none⟩,
    ⟨.slice 22 (.tmp 16) (some (.tmp 17)) none none, (some 18), none⟩,
    ⟨.call ⟨(.value (.func 36)), #[(.tmp 18)], #[22]⟩, (some 19), none⟩,
    ⟨.move (.tmp 19), (some 15), none⟩,
    ⟨.extract (.tmp 15) 0, (some 20), none⟩,
    ⟨.extract (.tmp 15) 1, (some 21), none⟩,
    ⟨.extract (.tmp 15) 2, (some 22), none⟩,
    ⟨.alloc 28, (some 5), none⟩,
    ⟨.store 28 (.tmp 5) (.tmp 20), none, none⟩,
    ⟨.assign (.tmp 21), (some 6), none⟩,
    ⟨.assign (.tmp 22), (some 7), none⟩] := ⟨3, opsC r35_3, by kernel_rfl, by kernel_rfl, by kernel_rfl⟩
noncomputable def r35_4 : Code := subC (bodyC Try.f35) [1, 1, 0, 0, 1, 0, 1, 0, 0]
instance : RegOps r35_4 68 [⟨.move (.tmp 7), (some 23), none⟩,
    ⟨.binOp .neq 32 (.tmp 23) (.const (.int .i64 0)) 32, (some 24), none⟩,
    ⟨.move (.tmp 24), (some 25), none⟩,
    ⟨.load 22 (.tmp 1), (some 26), (some (25, false))⟩,
    ⟨.call ⟨(.builtin .len), #[(.tmp 26)], #[22]⟩, (some 27), (some (25, false))⟩,
    ⟨.move (.tmp 4), (some 28), (some (25, false))⟩,
    ⟨.binOp .sub 3 (.tmp 27) (.tmp 28) 3, (some 29), (some (25, false))⟩,
    ⟨.move (.tmp 6), (some 30), (some (25, false))⟩,
    ⟨.binOp .sub 3 (.tmp 29) (.tmp 30) 3, (some 31), (some (25, false))⟩,
    ⟨.binOp .lss 3 (.tmp 31) (.const (.int .i64 4)) 3, (some 32), (some (25, false))⟩,
    ⟨.pick (.tmp 25) (.const (.bool true)) (.tmp 32), (some 33), none⟩] := ⟨4, opsC r35_4, by kernel_rfl, by kernel_rfl, by kernel_rfl⟩
noncomputable def r35_5 : Code := subC (bodyC Try.f35) [1, 1, 0, 0, 1, 0, 1, 1, 0]
instance : RegConf Try.prog r35_5 68 true [(0, 15), (6, 12), (6, 15), (11, 12), (11, 15)] [⟨.load 28 (.tmp 5), (some 34), none⟩,
    ⟨.move (.tmp 4), (some 35), none⟩,
    ⟨.move (.tmp 6), (some 36), none⟩,
    ⟨.binOp .add 3 (.tmp 35) (.tmp 36) 3, (some 37), none⟩,
    ⟨.binOp .add 3 (.tmp 37) (.const (.int .i64 4)) 3, (some 38), none⟩,
    ⟨.move (.tmp 3), (some 39), none⟩,
    ⟨.load 22 (.tmp 1), (some 40), none⟩,
    ⟨.move (.tmp 4), (some 41), none⟩,
    ⟨.move (.tmp 4), (some 42), none⟩,
    ⟨.move (.tmp 6), (some 43), none⟩,
    ⟨.binOp .add 3 (.tmp 42) (.tmp 43) 3, (some 44), none⟩,
    ⟨.slice 22 (.tmp 40) (some (.tmp 41)) (some (.tmp 44)) none, (some 45), none⟩,
    ⟨.call ⟨(.value (.tmp 39)), #[(.tmp 45)], #[22]⟩, (some 46), none⟩,
    ⟨.build 55 #[(0, (.tmp 34)), (1, (.tmp 38)), (2, (.tmp 46))], (some 47), none⟩,
    ⟨.alloc 55, (some 8), none⟩,
    ⟨.store 55 (.tmp 8) (.tmp 47), none, none⟩] := ⟨5, opsC r35_5, by kernel_rfl, by kernel_rfl, by kernel_rfl, by kernel_rfl, by kernel_rfl, by kernel_rfl, by kernel_rfl⟩
noncomputable def r35_6 : Code := subC (bodyC Try.f35) [1, 1, 0, 0, 1, 0, 1, 1, 1, 0, 0]
instance : RegDraw Try.prog r35_6 68 true [⟨.load 22 (.tmp 1), (some 48), none⟩,
    ⟨.move (.tmp 4), (some 49), none⟩,
    ⟨.move (.tmp 6), (some 50), none⟩,
    ⟨.binOp .add 3 (.tmp 49) (.tmp 50) 3, (some 51), none⟩,
    ⟨.fieldAddr 55 (.tmp 8) 1, (some 52), none⟩,
    ⟨.load 3 (.tmp 52), (some 53), none⟩,
    ⟨.slice 22 (.tmp 48) (some (.tmp 51)) (some (.tmp 53)) none, (some 54), none⟩,
    ⟨.sliceToArrayPointer 53 (.tmp 54), (some 55), none⟩,
    ⟨.load 53 (.tmp 55), (some 56), none⟩,
    ⟨.fieldAddr 55 (.tmp 8) 2, (some 57), none⟩,
    ⟨.load 53 (.tmp 57), (some 58), none⟩,
    ⟨.binOp .neq 53 (.tmp 56) (.tmp 58) 53, (some 59), none⟩,
    ⟨.move (.tmp 59), (some 60), none⟩,
    ⟨.move (.tmp 0), (some 61), (some (60, false))⟩,
    ⟨.load 55 (.tmp 8), (some 62), (some (60, false))⟩,
    ⟨.call ⟨(.value (.tmp 61)), #[(.tmp 62)], #[55]⟩, (some 63), (some (60, false))⟩,
    ⟨.unOp .not 4 (.tmp 63), (some 64), (some (60, false))⟩,
    ⟨.pick (.tmp 60) (.const (.bool true)) (.tmp 64), (some 65), none⟩] := ⟨6, opsC r35_6, by kernel_rfl, by kernel_rfl, by kernel_rfl, by kernel_rfl, by kernel_rfl, by kernel_rfl⟩
noncomputable def r35_7 : Code := subC (bodyC Try.f35) [1, 1, 0, 0, 1, 0, 1, 1, 1, 1]
instance : RegOps r35_7 68 [⟨.fieldAddr 55 (.tmp 8) 1, (some 66), none⟩,
    ⟨.load 3 (.tmp 66), (some 67), none⟩,
    ⟨.assign (.tmp 67), (some 4), none⟩] := ⟨7, opsC r35_7, by kernel_rfl, by kernel_rfl, by kernel_rfl⟩
noncomputable def c35 : Code := (.seq r35_0 (.seq r35_1 (.block 0 (.loop (.seq (.seq r35_2 (.cond (.tmp 14) .skip (.exit 0))) (.block 1 (.seq r35_3 (.seq (.seq r35_4 (.cond (.tmp 33) .ret .skip)) (.seq r35_5 (.seq (.seq r35_6 (.cond (.tmp 65) .ret .skip)) r35_7))))))))))
theorem en35 {args : List LV} {H : LH} {R : LOut → LH → Prop} (hn : args.length ≤ 68) (h : WP Try.prog ⟨35, 68, 0, [], none, none⟩ [.code c35] (argsK 0 args) H (Fin Try.prog R)) : CallP Try.prog 35 args H R :=
  CallP.enter (fn := Try.f35) (c := c35) (by kernel_rfl) (by kernel_rfl) (by kernel_rfl) hn h
instance : FnRes Try.prog 35 [] := ⟨Try.f35, by kernel_rfl, by kernel_rfl⟩
/-! seepage/codec.Get -/
noncomputable def r36_0 : Code := subC (bodyC Try.f36) [0]
instance : RegOps r36_0 79 [⟨.alloc 28, (some 2), none⟩,
    ⟨.alloc 3, (some 3), none⟩,
    ⟨.alloc 32, (some 4), none⟩] := ⟨0, opsC r36_0, by kernel_rfl, by kernel_rfl, by kernel_rfl⟩
noncomputable def r36_1 : Code := subC (bodyC Try.f36) [1, 0]
instance : RegOps r36_1 79 [⟨.makeFunc (.func 47) #[] #[(.tmp 2), (.tmp 3), (.tmp 4)], (some 7), none⟩,
    ⟨.defer ⟨(.value (.tmp 7)), #[], #[]⟩, none, none⟩] := ⟨1, opsC r36_1, by kernel_rfl, by kernel_rfl, by kernel_rfl⟩
noncomputable def r36_2 : Code := subC (bodyC Try.f36) [1, 1, 0]
instance : RegOps r36_2 79 [⟨.move (.tmp 0), (some 8), none⟩,
    ⟨.build 102 #[(0, (.tmp 8))], (some 9), none⟩,
    ⟨.box 102 (.tmp 9), (some 10), none⟩,
    ⟨.assign (.tmp 10), (some 5), none⟩] := ⟨2, opsC r36_2, by kernel_rfl, by kernel_rfl, by kernel_rfl⟩
noncomputable def r36_3 : Code := subC (bodyC Try.f36) [1, 1, 1, 0]
instance : RegOps r36_3 79 [⟨.move (.tmp 5), (some 11), none⟩,
    ⟨.call ⟨(.value (.func 48)), #[(.tmp 11)], #[101]⟩, (some 12), none⟩,
    ⟨.assign (.tmp 12), (some 6), none⟩] := ⟨3, opsC r36_3, by kernel_rfl, by kernel_rfl, by kernel_rfl⟩
noncomputable def r36_4 : Code := subC (bodyC Try.f36) [1, 1, 1, 1, 0, 0]
instance : RegOps r36_4 79 [⟨.move (.tmp 6), (some 13), none⟩,
    ⟨.binOp .eql 24 (.tmp 13) (.const (.int .u64 0)) 24, (some 14), none⟩,
    ⟨.move (.tmp 14), (some 15), none⟩,
    ⟨.move (.tmp 6), (some 16), (some (15, false))⟩,
    ⟨.move (.tmp 5), (some 17), (some (15, false))⟩,
    ⟨.nilCheck (.tmp 17), (some 18), (some (15, false))⟩,
    ⟨.fieldAddr 102 (.tmp 18) 0, (some 19), (some (15, false))⟩,
    ⟨.load 22 (.tmp 19), (some 20), (some (15, false))⟩,
    ⟨.call ⟨(.builtin .len), #[(.tmp 20)], #[22]⟩, (some 21), (some (15, false))⟩,
    ⟨.convert 3 24 (.tmp 21), (some 22), (some (15, false))⟩,
    ⟨.binOp .gtr 24 (.tmp 16) (.tmp 22) 24, (some 23), (some (15, false))⟩,
    ⟨.pick (.tmp 15) (.const (.bool true)) (.tmp 23), (some 24), none⟩] := ⟨4, opsC r36_4, by kernel_rfl, by kernel_rfl, by kernel_rfl⟩
noncomputable def r36_5 : Code := subC (bodyC Try.f36) [1, 1, 1, 1, 0, 1, 0]
instance : RegOps r36_5 79 [⟨.build 99 #[], (some 25), none⟩,
    ⟨.makeInterface 99 (.tmp 25), (some 26), none⟩,
    ⟨.panic (.tmp 26), none, none⟩] := ⟨5, opsC r36_5, by kernel_rfl, by kernel_rfl, by kernel_rfl⟩
noncomputable def r36_6 : Code := subC (bodyC Try.f36) [1, 1, 1, 1, 1, 0]
instance : RegOps r36_6 79 [⟨.move (.tmp 0), (some 27), none⟩,
    ⟨.call ⟨(.builtin .len), #[(.tmp 27)], #[22]⟩, (some 28), none⟩,
    ⟨.move (.tmp 5), (some 29), none⟩,
    ⟨.nilCheck (.tmp 29), (some 30), none⟩,
    ⟨.fieldAddr 102 (.tmp 30) 0, (some 31), none⟩,
    ⟨.load 22 (.tmp 31), (some 32), none⟩,
    ⟨.call ⟨(.builtin .len), #[(.tmp 32)], #[22]⟩, (some 33), none⟩,
    ⟨.binOp .sub 3 (.tmp 28) (.tmp 33) 3, (some 34), none⟩,
    ⟨.move (.tmp 6), (some 35), none⟩,
    ⟨.convert 24 3 (.tmp 35), (some 36), none⟩,
    ⟨.binOp .add 3 (.tmp 34) (.tmp 36) 3, (some 37), none⟩,
    ⟨.store 3 (.tmp 3) (.tmp 37), none, none⟩] := ⟨6, opsC r36_6, by kernel_rfl, by kernel_rfl, by kernel_rfl⟩
noncomputable def r36_7 : Code := subC (bodyC Try.f36) [1, 1, 1, 1, 1, 1, 0]
instance : RegOps r36_7 79 [⟨.move (.tmp 5), (some 38), none⟩,
    ⟨.move (.tmp 5), (some 39), none⟩,
    ⟨.nilCheck (.tmp 39), (some 40), none⟩,
    ⟨.fieldAddr 102 (.tmp 40) 0, (some 41), none⟩,
    ⟨.load 22 (.tmp 41), (some 42), none⟩,
    ⟨.move (.tmp 6), (some 43), none⟩,
    ⟨.slice 22 (.tmp 42) none (some (.tmp 43)) none, (some 44), none⟩,
    ⟨.nilCheck (.tmp 38), (some 45), none⟩,
    ⟨.fieldAddr 102 (.tmp 45) 0, (some 46), none⟩,
    ⟨.store 22 (.tmp 46) (.tmp 44), none, none⟩] := ⟨7, opsC r36_7, by kernel_rfl, by kernel_rfl, by kernel_rfl⟩
noncomputable def r36_8 : Code := subC (bodyC Try.f36) [1, 1, 1, 1, 1, 1, 1, 0]
instance : RegOps r36_8 79 [⟨.move (.tmp 5), (some 47), none⟩,
    ⟨.nilCheck (.tmp 47), (some 48), none⟩,
    ⟨.fieldAddr 102 (.tmp 48) 0, (some 49), none⟩,
    ⟨.load 22 (.tmp 49), (some 50), none⟩,
    ⟨.indexAddr 22 (.tmp 50) (.const (.int .i64 0)), (some 51), none⟩,
    ⟨.load 5 (.tmp 51), (some 52), none⟩,
    ⟨.convert 5 23 (.tmp 52), (some 53), none⟩,
    ⟨.fieldAddr 28 (.tmp 2) 0, (some 54), none⟩,
    ⟨.store 23 (.tmp 54) (.tmp 53), none, none⟩] := ⟨8, opsC r36_8, by kernel_rfl, by kernel_rfl, by kernel_rfl⟩
noncomputable def r36_9 : Code := subC (bodyC Try.f36) [1, 1, 1, 1, 1, 1, 1, 1, 0]
instance : RegOps r36_9 79 [⟨.move (.tmp 5), (some 55), none⟩,
    ⟨.move (.tmp 5), (some 56), none⟩,
    ⟨.nilCheck (.tmp 56), (some 57), none⟩,
    ⟨.fieldAddr 102 (.tmp 57) 0, (some 58), none⟩,
    ⟨.load 22 (.tmp 58), (some 59), none⟩,
    ⟨.slice 22 (.tmp 59) (some (.const (.int .i64 1))) none none, (some 60), none⟩,
    ⟨.nilCheck (.tmp 55), (some 61), none⟩,
    ⟨.fieldAddr 102 (.tmp 61) 0, (some 62), none⟩,
    ⟨.store 22 (.tmp 62) (.tmp 60), none, none⟩] := ⟨9, opsC r36_9, by kernel_rfl, by kernel_rfl, by kernel_rfl⟩
noncomputable def r36_10 : Code := subC (bodyC Try.f36) [1, 1, 1, 1, 1, 1, 1, 1, 1, 0, 0]
instance : RegOps r36_10 79 [⟨.move (.tmp 5), (some 63), none⟩,
    ⟨.makeInterface 101 (.tmp 63), (some 64), none⟩,
    ⟨.call ⟨(.value (.func 33)), #[(.tmp 2), (.tmp 64)], #[71, 88]⟩, (some 65), none⟩,
    ⟨.unOp .not 4 (.tmp 65), (some 66), none⟩,
    ⟨.move (.tmp 66), (some 67), none⟩,
    ⟨.move (.tmp 5), (some 68), (some (67, false))⟩,
    ⟨.nilCheck (.tmp 68), (some 69), (some (67, false))⟩,
    ⟨.fieldAddr 102 (.tmp 69) 0, (some 70), (some (67, false))⟩,
    ⟨.load 22 (.tmp 70), (some 71), (some (67, false))⟩,
    ⟨.call ⟨(.builtin .len), #[(.tmp 71)], #[22]⟩, (some 72), (some (67, false))⟩,
    ⟨.binOp .gtr 3 (.tmp 72) (.const (.int .i64 0)) 3, (some 73), (some (67, false))⟩,
    ⟨.pick (.tmp 67) (.const (.bool true)) (.tmp 73), (some 74), none⟩] := ⟨10, opsC r36_10, by kernel_rfl, by kernel_rfl, by kernel_rfl⟩
noncomputable def r36_11 : Code := subC (bodyC Try.f36) [1, 1, 1, 1, 1, 1, 1, 1, 1, 0, 1, 0]
instance : RegOps r36_11 79 [⟨.build 99 #[], (some 75), none⟩,
    ⟨.makeInterface 99 (.tmp 75), (some 76), none⟩,
    ⟨.panic (.tmp 76), none, none⟩] := ⟨11, opsC r36_11, by kernel_rfl, by kernel_rfl, by kernel_rfl⟩
noncomputable def r36_12 : Code := subC (bodyC Try.f36) [1, 1, 1, 1, 1, 1, 1, 1, 1, 1, 0]
instance : RegConf Try.prog r36_12 79 true [(0, 2), (0, 3), (0, 4), (1, 3), (1, 4)] [⟨.load 28 (.tmp 2), (some 77), none⟩,
    ⟨.load 3 (.tmp 3), (some 78), none⟩,
    ⟨.store 28 (.tmp 2) (.tmp 77), none, none⟩,
    ⟨.store 3 (.tmp 3) (.tmp 78), none, none⟩,
    ⟨.store 32 (.tmp 4) (.const (.int .i64 0)), none, none⟩] := ⟨12, opsC r36_12, by kernel_rfl, by kernel_rfl, by kernel_rfl, by kernel_rfl, by kernel_rfl, by kernel_rfl, by kernel_rfl⟩
noncomputable def c36 : Code := (.seq r36_0 (.seq r36_1 (.seq r36_2 (.seq r36_3 (.seq (.seq r36_4 (.cond (.tmp 24) r36_5 .skip)) (.seq r36_6 (.seq r36_7 (.seq r36_8 (.seq r36_9 (.seq (.seq r36_10 (.cond (.tmp 74) r36_11 .skip)) (.seq r36_12 .ret)))))))))))
theorem en36 {args : List LV} {H : LH} {R : LOut → LH → Prop} (hn : args.length ≤ 79) (h : WP Try.prog ⟨36, 79, 0, [], none, none⟩ [.code c36] (argsK 0 args) H (Fin Try.prog R)) : CallP Try.prog 36 args H R :=
  CallP.enter (fn := Try.f36) (c := c36) (by kernel_rfl) (by kernel_rfl) (by kernel_rfl) hn h
instance : FnRes Try.prog 36 [.cell 2 28, .cell 3 3, .cell 4 32] := ⟨Try.f36, by kernel_rfl, by kernel_rfl⟩
/-! seepage/journal.chain$1 -/
noncomputable def r37_0 : Code := subC (bodyC Try.f37) [0]
instance : RegOps r37_0 32 [⟨.alloc 53, (some 3), none⟩] := ⟨0, opsC r37_0, by kernel_rfl, by kernel_rfl, by kernel_rfl⟩
noncomputable def r37_1 : Code := subC (bodyC Try.f37) [1, 0]
instance : RegOps r37_1 32 [⟨.move (.tmp 0), (some 6), none⟩,
    ⟨.call ⟨(.builtin .len), #[(.tmp 6)], #[22]⟩, (some 7), none⟩,
    ⟨.binOp .add 3 (.const (.int .i64 4)) (.tmp 7) 3, (some 8), none⟩,
    ⟨.makeSlice 22 (.tmp 8) (.tmp 8), (some 9), none⟩,
    ⟨.assign (.tmp 9), (some 4), none⟩] := ⟨1, opsC r37_1, by kernel_rfl, by kernel_rfl, by kernel_rfl⟩
noncomputable def r37_2 : Code := subC (bodyC Try.f37) [1, 1, 0]
instance : RegOps r37_2 32 [⟨.move (.tmp 4), (some 10), none⟩,
    ⟨.slice 53 (.tmp 1) none none none, (some 11), none⟩,
    ⟨.call ⟨(.builtin .copy), #[(.tmp 10), (.tmp 11)], #[22, 22]⟩, (some 12), none⟩] := ⟨2, opsC r37_2, by kernel_rfl, by kernel_rfl, by kernel_rfl⟩
noncomputable def r37_3 : Code := subC (bodyC Try.f37) [1, 1, 1, 0]
instance : RegOps r37_3 32 [⟨.move (.tmp 4), (some 13), none⟩,
    ⟨.slice 22 (.tmp 13) (some (.const (.int .i64 4))) none none, (some 14), none⟩,
    ⟨.move (.tmp 0), (some 15), none⟩,
    ⟨.call ⟨(.builtin .copy), #[(.tmp 14), (.tmp 15)], #[22, 22]⟩, (some 16), none⟩] := ⟨3, opsC r37_3, by kernel_rfl, by kernel_rfl, by kernel_rfl⟩
noncomputable def r37_4 : Code := subC (bodyC Try.f37) [1, 1, 1, 1, 0]
instance : RegOps r37_4 32 [⟨.move (.tmp 4), (some 17), none⟩,
    ⟨.call ⟨(.value (.func 38)), #[(.tmp 17)], #[22]⟩, (some 18), none⟩,
    ⟨.assign (.tmp 18), (some 5), none⟩] := ⟨4, opsC r37_4, by kernel_rfl, by kernel_rfl, by kernel_rfl⟩
noncomputable def r37_5 : Code := subC (bodyC Try.f37) [1, 1, 1, 1, 1, 0]
instance : RegOps r37_5 32 [⟨.move (.tmp 5), (some 19), none⟩,
    ⟨.binOp .shr 76 (.tmp 19) (.const (.int .u64 24)) 78, (some 20), none⟩,
    ⟨.convert 76 5 (.tmp 20), (some 21), none⟩,
    ⟨.move (.tmp 5), (some 22), none⟩,
    ⟨.binOp .shr 76 (.tmp 22) (.const (.int .u64 16)) 78, (some 23), none⟩,
    ⟨.convert 76 5 (.tmp 23), (some 24), none⟩,
    ⟨.move (.tmp 5), (some 25), none⟩,
    ⟨.binOp .shr 76 (.tmp 25) (.const (.int .u64 8)) 78, (some 26), none⟩,
    ⟨.convert 76 5 (.tmp 26), (some 27), none⟩,
    ⟨.move (.tmp 5), (some 28), none⟩,
    ⟨.convert 76 5 (.tmp 28), (some 29), none⟩,
    ⟨.build 53 #[(0, (.tmp 21)), (1, (.tmp 24)), (2, (.tmp 27)), (3, (.tmp 29))], (some 30), none⟩,
    ⟨.store 53 (.tmp 1) (.tmp 30), none, none⟩] := ⟨5, opsC r37_5, by kernel_rfl, by kernel_rfl, by kernel_rfl⟩
noncomputable def r37_6 : Code := subC (bodyC Try.f37) [1, 1, 1, 1, 1, 1, 0]
instance : RegOps r37_6 32 [⟨.load 53 (.tmp 1), (some 31), none⟩,
    ⟨.store 53 (.tmp 3) (.tmp 31), none, none⟩] := ⟨6, opsC r37_6, by kernel_rfl, by kernel_rfl, by kernel_rfl⟩
noncomputable def c37 : Code := (.seq r37_0 (.seq r37_1 (.seq r37_2 (.seq r37_3 (.seq r37_4 (.seq r37_5 (.seq r37_6 .ret)))))))
theorem en37 {args : List LV} {H : LH} {R : LOut → LH → Prop} (hn : args.length ≤ 32) (h : WP Try.prog ⟨37, 32, 0, [], none, none⟩ [.code c37] (argsK 0 args) H (Fin Try.prog R)) : CallP Try.prog 37 args H R :=
  CallP.enter (fn := Try.f37) (c := c37) (by kernel_rfl) (by kernel_rfl) (by kernel_rfl) hn h
instance : FnRes Try.prog 37 [.cell 3 53] := ⟨Try.f37, by kernel_rfl, by kernel_rfl⟩
/-! seepage/image.Sum -/
noncomputable def r38_0 : Code := subC (bodyC Try.f38) [0]
instance : RegOps r38_0 29 [⟨.assign (.const (.int .u32 0)), (some 2), none⟩] := ⟨0, opsC r38_0, by kernel_rfl, by kernel_rfl, by kernel_rfl⟩
noncomputable def r38_1 : Code := subC (bodyC Try.f38) [1, 0]
instance : RegOps r38_1 29 [⟨.assign (.const (.int .u32 4294967295)), (some 3), none⟩] := ⟨1, opsC r38_1, by kernel_rfl, by kernel_rfl, by kernel_rfl⟩
noncomputable def r38_2 : Code := subC (bodyC Try.f38) [1, 1, 0, 0]
instance : RegOps r38_2 29 [⟨.move (.tmp 0), (some 6), none⟩,
    ⟨.call ⟨(.builtin .len), #[(.tmp 6)], #[22]⟩, (some 7), none⟩,
    ⟨.move (.const (.int .i64 0)), (some 8), none⟩] := ⟨2, opsC r38_2, by kernel_rfl, by kernel_rfl, by kernel_rfl⟩
noncomputable def r38_3 : Code := subC (bodyC Try.f38) [1, 1, 0, 1, 0, 0, 0]
instance : RegOps r38_3 29 [⟨.binOp .lss 3 (.tmp 8) (.tmp 7) 3, (some 9), none⟩] := ⟨3, opsC r38_3, by kernel_rfl, by kernel_rfl, by kernel_rfl⟩
noncomputable def r38_4 : Code := subC (bodyC Try.f38) [1, 1, 0, 1, 0, 0, 1, 1, 0, 0, 0]
instance : RegOps r38_4 29 [⟨.indexAddr 22 (.tmp 6) (.tmp 8), (some 10), none⟩,
    ⟨.load 5 (.tmp 10), (some 11), none⟩,
    ⟨.assign (.tmp 11), (some 5), none⟩] := ⟨4, opsC r38_4, by kernel_rfl, by kernel_rfl, by kernel_rfl⟩
noncomputable def r38_5 : Code := subC (bodyC Try.f38) [1, 1, 0, 1, 0, 0, 1, 1, 0, 0, 1, 0]
instance : RegOps r38_5 29 [⟨.move (.tmp 3), (some 12), none⟩,
    ⟨.move (.tmp 5), (some 13), none⟩,
    ⟨.convert 5 76 (.tmp 13), (some 14), none⟩,
    ⟨.binOp .xor 76 (.tmp 12) (.tmp 14) 76, (some 15), none⟩,
    ⟨.assign (.tmp 15), (some 3), none⟩] := ⟨5, opsC r38_5, by kernel_rfl, by kernel_rfl, by kernel_rfl⟩
noncomputable def r38_6 : Code := subC (bodyC Try.f38) [1, 1, 0, 1, 0, 0, 1, 1, 0, 0, 1, 1, 0]
instance : RegOps r38_6 29 [⟨.move (.const (.int .i64 0)), (some 16), none⟩] := ⟨6, opsC r38_6, by kernel_rfl, by kernel_rfl, by kernel_rfl⟩
noncomputable def r38_7 : Code := subC (bodyC Try.f38) [1, 1, 0, 1, 0, 0, 1, 1, 0, 0, 1, 1, 1, 0, 0, 0]
instance : RegOps r38_7 29 [⟨.binOp .lss 3 (.tmp 16) (.const (.int .i64 8)) 3, (some 17), none⟩] := ⟨7, opsC r38_7, by kernel_rfl, by kernel_rfl, by kernel_rfl⟩
noncomputable def r38_8 : Code := subC (bodyC Try.f38) [1, 1, 0, 1, 0, 0, 1, 1, 0, 0, 1, 1, 1, 0, 0, 1, 1, 0, 0]
instance : RegOps r38_8 29 [⟨.move (.tmp 3), (some 18), none⟩,
    ⟨.binOp .shr 76 (.tmp 18) (.const (.int .u64 1)) 78, (some 19), none⟩,
    ⟨.move (.tmp 3), (some 20), none⟩,
    ⟨.binOp .and 76 (.tmp 20) (.const (.int .u32 1)) 76, (some 21), none⟩,
    ⟨.unOp .neg 76 (.tmp 21), (some 22), none⟩,
    ⟨.binOp .and 76 (.const (.int .u32 3988292384)) (.tmp 22) 76, (some 23), none⟩,
    ⟨.binOp .xor 76 (.tmp 19) (.tmp 23) 76, (some 24), none⟩,
    ⟨.assign (.tmp 24), (some 3), none⟩] := ⟨8, opsC r38_8, by kernel_rfl, by kernel_rfl, by kernel_rfl⟩
noncomputable def r38_9 : Code := subC (bodyC Try.f38) [1, 1, 0, 1, 0, 0, 1, 1, 0, 0, 1, 1, 1, 0, 0, 1, 1, 1]
instance : RegOps r38_9 29 [⟨.binOp .add 3 (.tmp 16) (.const (.int .i64 1)) 3, (some 25), none⟩,
    ⟨.move (.tmp 25), (some 16), none⟩] := ⟨9, opsC r38_9, by kernel_rfl, by kernel_rfl, by kernel_rfl⟩
noncomputable def r38_10 : Code := subC (bodyC Try.f38) [1, 1, 0, 1, 0, 0, 1, 1, 1]
instance : RegOps r38_10 29 [⟨.binOp .add 3 (.tmp 8) (.const (.int .i64 1)) 3, (some 26), none⟩,
    ⟨.move (.tmp 26), (some 8), none⟩] := ⟨10, opsC r38_10, by kernel_rfl, by kernel_rfl, by kernel_rfl⟩
noncomputable def r38_11 : Code := subC (bodyC Try.f38) [1, 1, 1, 0]
instance : RegOps r38_11 29 [⟨.move (.tmp 3), (some 27), none⟩,
    ⟨.unOp .xor 76 (.tmp 27), (some 28), none⟩,
    ⟨.assign (.tmp 28), (some 2), none⟩] := ⟨11, opsC r38_11, by kernel_rfl, by kernel_rfl, by kernel_rfl⟩
noncomputable def c38 : Code := (.seq r38_0 (.seq r38_1 (.seq (.seq r38_2 (.block 0 (.loop (.seq r38_3 (.seq (.cond (.tmp 9) .skip (.exit 0)) (.seq (.block 1 (.seq r38_4 (.seq r38_5 (.seq r38_6 (.block 2 (.loop (.seq r38_7 (.seq (.cond (.tmp 17) .skip (.exit 2)) (.seq (.block 3 r38_8) r38_9))))))))) r38_10)))))) (.seq r38_11 .ret))))
theorem en38 {args : List LV} {H : LH} {R : LOut → LH → Prop} (hn : args.length ≤ 29) (h : WP Try.prog ⟨38, 29, 0, [], none, none⟩ [.code c38] (argsK 0 args) H (Fin Try.prog R)) : CallP Try.prog 38 args H R :=
  CallP.enter (fn := Try.f38) (c := c38) (by kernel_rfl) (by kernel_rfl) (by kernel_rfl) hn h
instance : FnRes Try.prog 38 [.tmp 2] := ⟨Try.f38, by kernel_rfl, by kernel_rfl⟩
/-! slices.Grow[[]byte,byte] -/
noncomputable def r39_0 : Code := subC (bodyC Try.f39) [0]
instance : RegOps r39_0 27 [⟨.assign (.const (.slice none 0 0)), (some 4), none⟩] := ⟨0, opsC r39_0, by kernel_rfl, by kernel_rfl, by kernel_rfl⟩
noncomputable def r39_1 : Code := subC (bodyC Try.f39) [1, 0, 0]
instance : RegOps r39_1 27 [⟨.move (.tmp 1), (some 5), none⟩,
    ⟨.binOp .lss 3 (.tmp 5) (.const (.int .i64 0)) 3, (some 6), none⟩] := ⟨1, opsC r39_1, by kernel_rfl, by kernel_rfl, by kernel_rfl⟩
noncomputable def r39_2 : Code := subC (bodyC Try.f39) [1, 0, 1, 0]
instance : RegOps r39_2 27 [⟨.makeInterface 9 (.const (.string ⟨#[99, 97, 110, 110, 111, 116, 32, 98, 101, 32, 110, 101, 103, 97, 116, 105, 118, 101]⟩)), (some 7), none⟩,
    ⟨.panic (.tmp 7), none, none⟩] := ⟨2, opsC r39_2, by kernel_rfl, by kernel_rfl, by kernel_rfl⟩
noncomputable def r39_3 : Code := subC (bodyC Try.f39) [1, 1, 0, 0]
instance : RegOps r39_3 27 [⟨.move (.tmp 1), (some 8), none⟩,
    ⟨.move (.tmp 0), (some 9), none⟩,
    ⟨.call ⟨(.builtin .cap), #[(.tmp 9)], #[22]⟩, (some 10), none⟩,
    ⟨.move (.tmp 0), (some 11), none⟩,
    ⟨.call ⟨(.builtin .len), #[(.tmp 11)], #[22]⟩, (some 12), none⟩,
    ⟨.binOp .sub 3 (.tmp 10) (.tmp 12) 3, (some 13), none⟩,
    ⟨.binOp .sub 3 (.tmp 8) (.tmp 13) 3, (some 14), none⟩,
    ⟨.assign (.tmp 14), (some 1), none⟩] := ⟨3, opsC r39_3, by kernel_rfl, by kernel_rfl, by kernel_rfl⟩
noncomputable def r39_4 : Code := subC (bodyC Try.f39) [1, 1, 0, 1, 0]
instance : RegOps r39_4 27 [⟨.move (.tmp 1), (some 15), none⟩,
    ⟨.binOp .gtr 3 (.tmp 15) (.const (.int .i64 0)) 3, (some 16), none⟩] := ⟨4, opsC r39_4, by kernel_rfl, by kernel_rfl, by kernel_rfl⟩
noncomputable def r39_5 : Code := subC (bodyC Try.f39) [1, 1, 0, 1, 1, 0]
instance : RegOps r39_5 27 [⟨.move (.tmp 0), (some 17), none⟩,
    ⟨.move (.tmp 0), (some 18), none⟩,
    ⟨.call ⟨(.builtin .cap), #[(.tmp 18)], #[22]⟩, (some 19), none⟩,
    ⟨.slice 22 (.tmp 17) none (some (.tmp 19)) none, (some 20), none⟩,
    ⟨.move (.tmp 1), (some 21), none⟩,
    ⟨.call ⟨(.builtin .append), #[(.tmp 20), (.tmp 21)], #[22, 3]⟩, (some 22), none⟩,
    ⟨.move (.tmp 0), (some 23), none⟩,
    ⟨.call ⟨(.builtin .len), #[(.tmp 23)], #[22]⟩, (some 24), none⟩,
    ⟨.slice 22 (.tmp 22) none (some (.tmp 24)) none, (some 25), none⟩,
    ⟨.assign (.tmp 25), (some 0), none⟩] := ⟨5, opsC r39_5, by kernel_rfl, by kernel_rfl, by kernel_rfl⟩
noncomputable def r39_6 : Code := subC (bodyC Try.f39) [1, 1, 1, 0]
instance : RegOps r39_6 27 [⟨.move (.tmp 0), (some 26), none⟩,
    ⟨.assign (.tmp 26), (some 4), none⟩] := ⟨6, opsC r39_6, by kernel_rfl, by kernel_rfl, by kernel_rfl⟩
noncomputable def c39 : Code := (.seq r39_0 (.seq (.seq r39_1 (.cond (.tmp 6) r39_2 .skip)) (.seq (.seq r39_3 (.seq r39_4 (.cond (.tmp 16) r39_5 .skip))) (.seq r39_6 .ret))))
theorem en39 {args : List LV} {H : LH} {R : LOut → LH → Prop} (hn : args.length ≤ 27) (h : WP Try.prog ⟨39, 27, 0, [], none, none⟩ [.code c39] (argsK 0 args) H (Fin Try.prog R)) : CallP Try.prog 39 args H R :=
  CallP.enter (fn := Try.f39) (c := c39) (by kernel_rfl) (by kernel_rfl) (by kernel_rfl) hn h
instance : FnRes Try.prog 39 [.tmp 4] := ⟨Try.f39, by kernel_rfl, by kernel_rfl⟩
/-! seepage/codec.fields$1 -/
noncomputable def r46_0 : Code := subC (bodyC Try.f46) [0]
instance : RegOps r46_0 15 [⟨.move (.tmp 0), (some 5), none⟩,
    ⟨.call ⟨(.builtin .len), #[(.tmp 5)], #[89]⟩, (some 6), none⟩,
    ⟨.move (.const (.int .i64 0)), (some 7), none⟩] := ⟨0, opsC r46_0, by kernel_rfl, by kernel_rfl, by kernel_rfl⟩
noncomputable def r46_1 : Code := subC (bodyC Try.f46) [1, 0, 0, 0]
instance : RegOps r46_1 15 [⟨.binOp .lss 3 (.tmp 7) (.tmp 6) 3, (some 8), none⟩] := ⟨1, opsC r46_1, by kernel_rfl, by kernel_rfl, by kernel_rfl⟩
noncomputable def r46_2 : Code := subC (bodyC Try.f46) [1, 0, 0, 1, 1, 0, 0, 0]
instance : RegOps r46_2 15 [⟨.indexAddr 89 (.tmp 5) (.tmp 7), (some 9), none⟩,
    ⟨.load 90 (.tmp 9), (some 10), none⟩,
    ⟨.assign (.tmp 10), (some 4), none⟩] := ⟨2, opsC r46_2, by kernel_rfl, by kernel_rfl, by kernel_rfl⟩
noncomputable def r46_3 : Code := subC (bodyC Try.f46) [1, 0, 0, 1, 1, 0, 0, 1]
instance : RegOps r46_3 15 [⟨.load 88 (.tmp 1), (some 11), none⟩,
    ⟨.move (.tmp 4), (some 12), none⟩,
    ⟨.call ⟨(.invoke (.tmp 11) "seepage/codec.id"), #[(.tmp 12)], #[90]⟩, (some 13), none⟩] := ⟨3, opsC r46_3, by kernel_rfl, by kernel_rfl, by kernel_rfl⟩
noncomputable def r46_4 : Code := subC (bodyC Try.f46) [1, 0, 0, 1, 1, 1]
instance : RegOps r46_4 15 [⟨.binOp .add 3 (.tmp 7) (.const (.int .i64 1)) 3, (some 14), none⟩,
    ⟨.move (.tmp 14), (some 7), none⟩] := ⟨4, opsC r46_4, by kernel_rfl, by kernel_rfl, by kernel_rfl⟩
noncomputable def c46 : Code := (.seq r46_0 (.block 0 (.loop (.seq r46_1 (.seq (.cond (.tmp 8) .skip (.exit 0)) (.seq (.block 1 (.seq r46_2 r46_3)) r46_4))))))
theorem en46 {args : List LV} {H : LH} {R : LOut → LH → Prop} (hn : args.length ≤ 15) (h : WP Try.prog ⟨46, 15, 0, [], none, none⟩ [.code c46] (argsK 0 args) H (Fin Try.prog R)) : CallP Try.prog 46 args H R :=
  CallP.enter (fn := Try.f46) (c := c46) (by kernel_rfl) (by kernel_rfl) (by kernel_rfl) hn h
instance : FnRes Try.prog 46 [] := ⟨Try.f46, by kernel_rfl, by kernel_rfl⟩
/-! seepage/codec.Get$1 -/
noncomputable def r47_0 : Code := subC (bodyC Try.f47) [0]
instance : RegOps r47_0 18 [⟨.call ⟨(.builtin .recover), #[], #[]⟩, (some 6), none⟩,
    ⟨.assign (.tmp 6), (some 3), none⟩] := ⟨0, opsC r47_0, by kernel_rfl, by kernel_rfl, by kernel_rfl⟩
noncomputable def r47_1 : Code := subC (bodyC Try.f47) [1, 0]
instance : RegOps r47_1 18 [⟨.move (.tmp 3), (some 7), none⟩,
    ⟨.binOp .neq 20 (.tmp 7) (.const .nilIface) 20, (some 8), none⟩] := ⟨1, opsC r47_1, by kernel_rfl, by kernel_rfl, by kernel_rfl⟩
noncomputable def r47_2 : Code := subC (bodyC Try.f47) [1, 1, 0, 0, 0]
instance : RegOps r47_2 18 [⟨.move (.tmp 3), (some 10), none⟩,
    ⟨.typeAssert (.tmp 10) 20 99 true, (some 11), none⟩,
    ⟨.move (.tmp 11), (some 9), none⟩,
    ⟨.extract (.tmp 9) 0, (some 12), none⟩,
    ⟨.extract (.tmp 9) 1, (some 13), none⟩,
    ⟨.alloc 99, (some 4), none⟩,
    ⟨.store 99 (.tmp 4) (.tmp 12), none, none⟩,
    ⟨.assign (.tmp 13), (some 5), none⟩] := ⟨2, opsC r47_2, by kernel_rfl, by kernel_rfl, by kernel_rfl⟩
noncomputable def r47_3 : Code := subC (bodyC Try.f47) [1, 1, 0, 0, 1, 0]
instance : RegOps r47_3 18 [⟨.move (.tmp 5), (some 14), none⟩,
    ⟨.unOp .not 4 (.tmp 14), (some 15), none⟩] := ⟨3, opsC r47_3, by kernel_rfl, by kernel_rfl, by kernel_rfl⟩
noncomputable def r47_4 : Code := subC (bodyC Try.f47) [1, 1, 0, 0, 1, 1, 0]
instance : RegOps r47_4 18 [⟨.move (.tmp 3), (some 16), none⟩,
    ⟨.panic (.tmp 16), none, none⟩] := ⟨4, opsC r47_4, by kernel_rfl, by kernel_rfl, by kernel_rfl⟩
noncomputable def r47_5 : Code := subC (bodyC Try.f47) [1, 1, 0, 1]
instance : RegOps r47_5 18 [⟨.build 28 #[], (some 17), none⟩,
    ⟨.store 28 (.tmp 0) (.tmp 17), none, none⟩,
    ⟨.store 3 (.tmp 1) (.const (.int .i64 0)), none, none⟩,
    ⟨.store 32 (.tmp 2) (.const (.int .i64 15)), none, none⟩] := ⟨5, opsC r47_5, by kernel_rfl, by kernel_rfl, by kernel_rfl⟩
noncomputable def c47 : Code := (.seq r47_0 (.seq r47_1 (.cond (.tmp 8) (.seq (.seq r47_2 (.seq r47_3 (.cond (.tmp 15) r47_4 .skip))) r47_5) .skip)))
theorem en47 {args : List LV} {H : LH} {R : LOut → LH → Prop} (hn : args.length ≤ 18) (h : WP Try.prog ⟨47, 18, 0, [], none, none⟩ [.code c47] (argsK 0 args) H (Fin Try.prog R)) : CallP Try.prog 47 args H R :=
  CallP.enter (fn := Try.f47) (c := c47) (by kernel_rfl) (by kernel_rfl) (by kernel_rfl) hn h
instance : FnRes Try.prog 47 [] := ⟨Try.f47, by kernel_rfl, by kernel_rfl⟩
/-! (*seepage/codec.reader).next -/
noncomputable def r48_0 : Code := subC (bodyC Try.f48) [0]
instance : RegOps r48_0 29 [⟨.assign (.const (.int .u64 0)), (some 2), none⟩] := ⟨0, opsC r48_0, by kernel_rfl, by kernel_rfl, by kernel_rfl⟩
noncomputable def r48_1 : Code := subC (bodyC Try.f48) [1, 0]
instance : RegOps r48_1 29 [⟨.move (.tmp 0), (some 7), none⟩,
    ⟨.nilCheck (.tmp 7), (some 8), none⟩,
    ⟨.fieldAddr 102 (.tmp 8) 0, (some 9), none⟩,
    ⟨.load 22 (.tmp 9), (some 10), none⟩,
    ⟨.call ⟨(.value (.func 18)), #[(.tmp 10)], #[22]⟩, (some 11), none⟩,
    ⟨.move (.tmp 11), (some 6), none⟩,
    ⟨.extract (.tmp 6) 0, (some 12), none⟩,
    ⟨.extract (.tmp 6) 1, (some 13), none⟩,
    ⟨.extract (.tmp 6) 2, (some 14), none⟩,
    ⟨.assign (.tmp 12), (some 3), none⟩,
    ⟨.assign (.tmp 13), (some 4), none⟩,
    ⟨.assign (.tmp 14), (some 5), none⟩] := ⟨1, opsC r48_1, by kernel_rfl, by kernel_rfl, by kernel_rfl⟩
noncomputable def r48_2 : Code := subC (bodyC Try.f48) [1, 1, 0, 0]
instance : RegOps r48_2 29 [⟨.move (.tmp 5), (some 15), none⟩,
    ⟨.binOp .neq 32 (.tmp 15) (.const (.int .i64 0)) 32, (some 16), none⟩] := ⟨2, opsC r48_2, by kernel_rfl, by kernel_rfl, by kernel_rfl⟩
noncomputable def r48_3 : Code := subC (bodyC Try.f48) [1, 1, 0, 1, 0]
instance : RegOps r48_3 29 [⟨.build 99 #[], (some 17), none⟩,
    ⟨.makeInterface 99 (.tmp 17), (some 18), none⟩,
    ⟨.panic (.tmp 18), none, none⟩] := ⟨3, opsC r48_3, by kernel_rfl, by kernel_rfl, by kernel_rfl⟩
noncomputable def r48_4 : Code := subC (bodyC Try.f48) [1, 1, 1, 0]
instance : RegOps r48_4 29 [⟨.move (.tmp 0), (some 19), none⟩,
    ⟨.move (.tmp 0), (some 20), none⟩,
    ⟨.nilCheck (.tmp 20), (some 21), none⟩,
    ⟨.fieldAddr 102 (.tmp 21) 0, (some 22), none⟩,
    ⟨.load 22 (.tmp 22), (some 23), none⟩,
    ⟨.move (.tmp 4), (some 24), none⟩,
    ⟨.slice 22 (.tmp 23) (some (.tmp 24)) none none, (some 25), none⟩,
    ⟨.nilCheck (.tmp 19), (some 26), none⟩,
    ⟨.fieldAddr 102 (.tmp 26) 0, (some 27), none⟩,
    ⟨.store 22 (.tmp 27) (.tmp 25), none, none⟩] := ⟨4, opsC r48_4, by kernel_rfl, by kernel_rfl, by kernel_rfl⟩
noncomputable def r48_5 : Code := subC (bodyC Try.f48) [1, 1, 1, 1, 0]
instance : RegOps r48_5 29 [⟨.move (.tmp 3), (some 28), none⟩,
    ⟨.assign (.tmp 28), (some 2), none⟩] := ⟨5, opsC r48_5, by kernel_rfl, by kernel_rfl, by kernel_rfl⟩
noncomputable def c48 : Code := (.seq r48_0 (.seq r48_1 (.seq (.seq r48_2 (.cond (.tmp 16) r48_3 .skip)) (.seq r48_4 (.seq r48_5 .ret)))))
theorem en48 {args : List LV} {H : LH} {R : LOut → LH → Prop} (hn : args.length ≤ 29) (h : WP Try.prog ⟨48, 29, 0, [], none, none⟩ [.code c48] (argsK 0 args) H (Fin Try.prog R)) : CallP Try.prog 48 args H R :=
  CallP.enter (fn := Try.f48) (c := c48) (by kernel_rfl) (by kernel_rfl) (by kernel_rfl) hn h
instance : FnRes Try.prog 48 [.tmp 2] := ⟨Try.f48, by kernel_rfl, by kernel_rfl⟩
/-! (*seepage/codec.writer).bounds -/
noncomputable def r70_0 : Code := subC (bodyC Try.f70) [0]
instance : RegDraw Try.prog r70_0 23 true [⟨.move (.tmp 0), (some 4), none⟩,
    ⟨.move (.tmp 0), (some 5), none⟩,
    ⟨.nilCheck (.tmp 5), (some 6), none⟩,
    ⟨.fieldAddr 69 (.tmp 6) 0, (some 7), none⟩,
    ⟨.load 22 (.tmp 7), (some 8), none⟩,
    ⟨.move (.tmp 1), (some 9), none⟩,
    ⟨.nilCheck (.tmp 9), (some 10), none⟩,
    ⟨.load 26 (.tmp 10), (some 11), none⟩,
    ⟨.call ⟨(.builtin .len), #[(.tmp 11)], #[26]⟩, (some 12), none⟩,
    ⟨.convert 3 24 (.tmp 12), (some 13), none⟩,
    ⟨.call ⟨(.value (.func 34)), #[(.tmp 8), (.tmp 13)], #[22, 24]⟩, (some 14), none⟩,
    ⟨.nilCheck (.tmp 4), (some 15), none⟩,
    ⟨.fieldAddr 69 (.tmp 15) 0, (some 16), none⟩,
    ⟨.store 22 (.tmp 16) (.tmp 14), none, none⟩] := ⟨0, opsC r70_0, by kernel_rfl, by kernel_rfl, by kernel_rfl, by kernel_rfl, by kernel_rfl, by kernel_rfl⟩
noncomputable def r70_1 : Code := subC (bodyC Try.f70) [1]
instance : RegOps r70_1 23 [⟨.move (.tmp 1), (some 17), none⟩,
    ⟨.nilCheck (.tmp 17), (some 18), none⟩,
    ⟨.load 26 (.tmp 18), (some 19), none⟩,
    ⟨.move (.tmp 0), (some 20), none⟩,
    ⟨.makeFunc (.func 73) #[(.tmp 20)] #[], (some 21), none⟩,
    ⟨.call ⟨(.value (.func 74)), #[(.tmp 19), (.tmp 21)], #[26, 93]⟩, (some 22), none⟩] := ⟨1, opsC r70_1, by kernel_rfl, by kernel_rfl, by kernel_rfl⟩
noncomputable def c70 : Code := (.seq r70_0 r70_1)
theorem en70 {args : List LV} {H : LH} {R : LOut → LH → Prop} (hn : args.length ≤ 23) (h : WP Try.prog ⟨70, 23, 0, [], none, none⟩ [.code c70] (argsK 0 args) H (Fin Try.prog R)) : CallP Try.prog 70 args H R :=
  CallP.enter (fn := Try.f70) (c := c70) (by kernel_rfl) (by kernel_rfl) (by kernel_rfl) hn h
instance : FnRes Try.prog 70 [] := ⟨Try.f70, by kernel_rfl, by kernel_rfl⟩
/-! (*seepage/codec.writer).draws -/
noncomputable def r71_0 : Code := subC (bodyC Try.f71) [0]
instance : RegDraw Try.prog r71_0 23 true [⟨.move (.tmp 0), (some 4), none⟩,
    ⟨.move (.tmp 0), (some 5), none⟩,
    ⟨.nilCheck (.tmp 5), (some 6), none⟩,
    ⟨.fieldAddr 69 (.tmp 6) 0, (some 7), none⟩,
    ⟨.load 22 (.tmp 7), (some 8), none⟩,
    ⟨.move (.tmp 1), (some 9), none⟩,
    ⟨.nilCheck (.tmp 9), (some 10), none⟩,
    ⟨.load 25 (.tmp 10), (some 11), none⟩,
    ⟨.call ⟨(.builtin .len), #[(.tmp 11)], #[25]⟩, (some 12), none⟩,
    ⟨.convert 3 24 (.tmp 12), (some 13), none⟩,
    ⟨.call ⟨(.value (.func 34)), #[(.tmp 8), (.tmp 13)], #[22, 24]⟩, (some 14), none⟩,
    ⟨.nilCheck (.tmp 4), (some 15), none⟩,
    ⟨.fieldAddr 69 (.tmp 15) 0, (some 16), none⟩,
    ⟨.store 22 (.tmp 16) (.tmp 14), none, none⟩] := ⟨0, opsC r71_0, by kernel_rfl, by kernel_rfl, by kernel_rfl, by kernel_rfl, by kernel_rfl, by kernel_rfl⟩
noncomputable def r71_1 : Code := subC (bodyC Try.f71) [1]
instance : RegOps r71_1 23 [⟨.move (.tmp 1), (some 17), none⟩,
    ⟨.nilCheck (.tmp 17), (some 18), none⟩,
    ⟨.load 25 (.tmp 18), (some 19), none⟩,
    ⟨.move (.tmp 0), (some 20), none⟩,
    ⟨.makeFunc (.func 72) #[(.tmp 20)] #[], (some 21), none⟩,
    ⟨.call ⟨(.value (.func 75)), #[(.tmp 19), (.tmp 21)], #[25, 91]⟩, (some 22), none⟩] := ⟨1, opsC r71_1, by kernel_rfl, by kernel_rfl, by kernel_rfl⟩
noncomputable def c71 : Code := (.seq r71_0 r71_1)
theorem en71 {args : List LV} {H : LH} {R : LOut → LH → Prop} (hn : args.length ≤ 23) (h : WP Try.prog ⟨71, 23, 0, [], none, none⟩ [.code c71] (argsK 0 args) H (Fin Try.prog R)) : CallP Try.prog 71 args H R :=
  CallP.enter (fn := Try.f71) (c := c71) (by kernel_rfl) (by kernel_rfl) (by kernel_rfl) hn h
instance : FnRes Try.prog 71 [] := ⟨Try.f71, by kernel_rfl, by kernel_rfl⟩
/-! (*seepage/codec.writer).id -/
noncomputable def r72_0 : Code := subC (bodyC Try.f72) []
instance : RegDraw Try.prog r72_0 15 true [⟨.move (.tmp 0), (some 4), none⟩,
    ⟨.move (.tmp 0), (some 5), none⟩,
    ⟨.nilCheck (.tmp 5), (some 6), none⟩,
    ⟨.fieldAddr 69 (.tmp 6) 0, (some 7), none⟩,
    ⟨.load 22 (.tmp 7), (some 8), none⟩,
    ⟨.move (.tmp 1), (some 9), none⟩,
    ⟨.nilCheck (.tmp 9), (some 10), none⟩,
    ⟨.load 24 (.tmp 10), (some 11), none⟩,
    ⟨.call ⟨(.value (.func 34)), #[(.tmp 8), (.tmp 11)], #[22, 24]⟩, (some 12), none⟩,
    ⟨.nilCheck (.tmp 4), (some 13), none⟩,
    ⟨.fieldAddr 69 (.tmp 13) 0, (some 14), none⟩,
    ⟨.store 22 (.tmp 14) (.tmp 12), none, none⟩] := ⟨0, opsC r72_0, by kernel_rfl, by kernel_rfl, by kernel_rfl, by kernel_rfl, by kernel_rfl, by kernel_rfl⟩
noncomputable def c72 : Code := r72_0
theorem en72 {args : List LV} {H : LH} {R : LOut → LH → Prop} (hn : args.length ≤ 15) (h : WP Try.prog ⟨72, 15, 0, [], none, none⟩ [.code c72] (argsK 0 args) H (Fin Try.prog R)) : CallP Try.prog 72 args H R :=
  CallP.enter (fn := Try.f72) (c := c72) (by kernel_rfl) (by kernel_rfl) (by kernel_rfl) hn h
instance : FnRes Try.prog 72 [] := ⟨Try.f72, by kernel_rfl, by kernel_rfl⟩
/-! (*seepage/codec.writer).num -/
noncomputable def r73_0 : Code := subC (bodyC Try.f73) []
instance : RegConf Try.prog r73_0 16 true [(4, 9), (4, 12), (7, 8), (7, 9), (7, 12)] [⟨.move (.tmp 0), (some 4), none⟩,
    ⟨.move (.tmp 0), (some 5), none⟩,
    ⟨.nilCheck (.tmp 5), (some 6), none⟩,
    ⟨.fieldAddr 69 (.tmp 6) 0, (some 7), none⟩,
    ⟨.load 22 (.tmp 7), (some 8), none⟩,
    ⟨.move (.tmp 1), (some 9), none⟩,
    ⟨.nilCheck (.tmp 9), (some 10), none⟩,
    ⟨.load 2 (.tmp 10), (some 11), none⟩,
    ⟨.call ⟨(.value (.func 76)), #[(.tmp 11)], #[2]⟩, (some 12), none⟩,
    ⟨.call ⟨(.value (.func 34)), #[(.tmp 8), (.tmp 12)], #[22, 24]⟩, (some 13), none⟩,
    ⟨.nilCheck (.tmp 4), (some 14), none⟩,
    ⟨.fieldAddr 69 (.tmp 14) 0, (some 15), none⟩,
    ⟨.store 22 (.tmp 15) (.tmp 13), none, none⟩] := ⟨0, opsC r73_0, by kernel_rfl, by kernel_rfl, by kernel_rfl, by kernel_rfl, by kernel_rfl, by kernel_rfl, by kernel_rfl⟩
noncomputable def c73 : Code := r73_0
theorem en73 {args : List LV} {H : LH} {R : LOut → LH → Prop} (hn : args.length ≤ 16) (h : WP Try.prog ⟨73, 16, 0, [], none, none⟩ [.code c73] (argsK 0 args) H (Fin Try.prog R)) : CallP Try.prog 73 args H R :=
  CallP.enter (fn := Try.f73) (c := c73) (by kernel_rfl) (by kernel_rfl) (by kernel_rfl) hn h
instance : FnRes Try.prog 73 [] := ⟨Try.f73, by kernel_rfl, by kernel_rfl⟩
/-! seepage/codec.each[int64] -/
noncomputable def r74_0 : Code := subC (bodyC Try.f74) [0]
instance : RegOps r74_0 16 [⟨.move (.tmp 0), (some 5), none⟩,
    ⟨.call ⟨(.builtin .len), #[(.tmp 5)], #[26]⟩, (some 6), none⟩,
    ⟨.move (.const (.int .i64 0)), (some 7), none⟩] := ⟨0, opsC r74_0, by kernel_rfl, by kernel_rfl, by kernel_rfl⟩
noncomputable def r74_1 : Code := subC (bodyC Try.f74) [1, 0, 0, 0]
instance : RegOps r74_1 16 [⟨.binOp .lss 3 (.tmp 7) (.tmp 6) 3, (some 8), none⟩] := ⟨1, opsC r74_1, by kernel_rfl, by kernel_rfl, by kernel_rfl⟩
noncomputable def r74_2 : Code := subC (bodyC Try.f74) [1, 0, 0, 1, 1, 0, 0, 0]
instance : RegOps r74_2 16 [⟨.move (.tmp 7), (some 9), none⟩,
    ⟨.assign (.tmp 9), (some 4), none⟩] := ⟨2, opsC r74_2, by kernel_rfl, by kernel_rfl, by kernel_rfl⟩
noncomputable def r74_3 : Code := subC (bodyC Try.f74) [1, 0, 0, 1, 1, 0, 0, 1]
instance : RegOps r74_3 16 [⟨.move (.tmp 1), (some 10), none⟩,
    ⟨.move (.tmp 0), (some 11), none⟩,
    ⟨.move (.tmp 4), (some 12), none⟩,
    ⟨.indexAddr 26 (.tmp 11) (.tmp 12), (some 13), none⟩,
    ⟨.call ⟨(.value (.tmp 10)), #[(.tmp 13)], #[94]⟩, (some 14), none⟩] := ⟨3, opsC r74_3, by kernel_rfl, by kernel_rfl, by kernel_rfl⟩
noncomputable def r74_4 : Code := subC (bodyC Try.f74) [1, 0, 0, 1, 1, 1]
instance : RegOps r74_4 16 [⟨.binOp .add 3 (.tmp 7) (.const (.int .i64 1)) 3, (some 15), none⟩,
    ⟨.move (.tmp 15), (some 7), none⟩] := ⟨4, opsC r74_4, by kernel_rfl, by kernel_rfl, by kernel_rfl⟩
noncomputable def c74 : Code := (.seq r74_0 (.block 0 (.loop (.seq r74_1 (.seq (.cond (.tmp 8) .skip (.exit 0)) (.seq (.block 1 (.seq r74_2 r74_3)) r74_4))))))
theorem en74 {args : List LV} {H : LH} {R : LOut → LH → Prop} (hn : args.length ≤ 16) (h : WP Try.prog ⟨74, 16, 0, [], none, none⟩ [.code c74] (argsK 0 args) H (Fin Try.prog R)) : CallP Try.prog 74 args H R :=
  CallP.enter (fn := Try.f74) (c := c74) (by kernel_rfl) (by kernel_rfl) (by kernel_rfl) hn h
instance : FnRes Try.prog 74 [] := ⟨Try.f74, by kernel_rfl, by kernel_rfl⟩
/-! seepage/codec.each[uint64] -/
noncomputable def r75_0 : Code := subC (bodyC Try.f75) [0]
instance : RegOps r75_0 16 [⟨.move (.tmp 0), (some 5), none⟩,
    ⟨.call ⟨(.builtin .len), #[(.tmp 5)], #[25]⟩, (some 6), none⟩,
    ⟨.move (.const (.int .i64 0)), (some 7), none⟩] := ⟨0, opsC r75_0, by kernel_rfl, by kernel_rfl, by kernel_rfl⟩
noncomputable def r75_1 : Code := subC (bodyC Try.f75) [1, 0, 0, 0]
instance : RegOps r75_1 16 [⟨.binOp .lss 3 (.tmp 7) (.tmp 6) 3, (some 8), none⟩] := ⟨1, opsC r75_1, by kernel_rfl, by kernel_rfl, by kernel_rfl⟩
noncomputable def r75_2 : Code := subC (bodyC Try.f75) [1, 0, 0, 1, 1, 0, 0, 0]
instance : RegOps r75_2 16 [⟨.move (.tmp 7), (some 9), none⟩,
    ⟨.assign (.tmp 9), (some 4), none⟩] := ⟨2, opsC r75_2, by kernel_rfl, by kernel_rfl, by kernel_rfl⟩
noncomputable def r75_3 : Code := subC (bodyC Try.f75) [1, 0, 0, 1, 1, 0, 0, 1]
instance : RegOps r75_3 16 [⟨.move (.tmp 1), (some 10), none⟩,
    ⟨.move (.tmp 0), (some 11), none⟩,
    ⟨.move (.tmp 4), (some 12), none⟩,
    ⟨.indexAddr 25 (.tmp 11) (.tmp 12), (some 13), none⟩,
    ⟨.call ⟨(.value (.tmp 10)), #[(.tmp 13)], #[90]⟩, (some 14), none⟩] := ⟨3, opsC r75_3, by kernel_rfl, by kernel_rfl, by kernel_rfl⟩
noncomputable def r75_4 : Code := subC (bodyC Try.f75) [1, 0, 0, 1, 1, 1]
instance : RegOps r75_4 16 [⟨.binOp .add 3 (.tmp 7) (.const (.int .i64 1)) 3, (some 15), none⟩,
    ⟨.move (.tmp 15), (some 7), none⟩] := ⟨4, opsC r75_4, by kernel_rfl, by kernel_rfl, by kernel_rfl⟩
noncomputable def c75 : Code := (.seq r75_0 (.block 0 (.loop (.seq r75_1 (.seq (.cond (.tmp 8) .skip (.exit 0)) (.seq (.block 1 (.seq r75_2 r75_3)) r75_4))))))
theorem en75 {args : List LV} {H : LH} {R : LOut → LH → Prop} (hn : args.length ≤ 16) (h : WP Try.prog ⟨75, 16, 0, [], none, none⟩ [.code c75] (argsK 0 args) H (Fin Try.prog R)) : CallP Try.prog 75 args H R :=
  CallP.enter (fn := Try.f75) (c := c75) (by kernel_rfl) (by kernel_rfl) (by kernel_rfl) hn h
instance : FnRes Try.prog 75 [] := ⟨Try.f75, by kernel_rfl, by kernel_rfl⟩
/-! seepage/codec.zigzag -/
noncomputable def r76_0 : Code := subC (bodyC Try.f76) [0]
instance : RegOps r76_0 10 [⟨.assign (.const (.int .u64 0)), (some 2), none⟩] := ⟨0, opsC r76_0, by kernel_rfl, by kernel_rfl, by kernel_rfl⟩
noncomputable def r76_1 : Code := subC (bodyC Try.f76) [1, 0]
instance : RegOps r76_1 10 [⟨.move (.tmp 0), (some 3), none⟩,
    ⟨.convert 2 24 (.tmp 3), (some 4), none⟩,
    ⟨.binOp .shl 24 (.tmp 4) (.const (.int .u64 1)) 78, (some 5), none⟩,
    ⟨.move (.tmp 0), (some 6), none⟩,
    ⟨.binOp .shr 2 (.tmp 6) (.const (.int .u64 63)) 78, (some 7), none⟩,
    ⟨.convert 2 24 (.tmp 7), (some 8), none⟩,
    ⟨.binOp .xor 24 (.tmp 5) (.tmp 8) 24, (some 9), none⟩,
    ⟨.assign (.tmp 9), (some 2), none⟩] := ⟨1, opsC r76_1, by kernel_rfl, by kernel_rfl, by kernel_rfl⟩
noncomputable def c76 : Code := (.seq r76_0 (.seq r76_1 .ret))
theorem en76 {args : List LV} {H : LH} {R : LOut → LH → Prop} (hn : args.length ≤ 10) (h : WP Try.prog ⟨76, 10, 0, [], none, none⟩ [.code c76] (argsK 0 args) H (Fin Try.prog R)) : CallP Try.prog 76 args H R :=
  CallP.enter (fn := Try.f76) (c := c76) (by kernel_rfl) (by kernel_rfl) (by kernel_rfl) hn h
instance : FnRes Try.prog 76 [.tmp 2] := ⟨Try.f76, by kernel_rfl, by kernel_rfl⟩
/-! (seepage/codec.clearing).bounds -/
noncomputable def r77_0 : Code := subC (bodyC Try.f77) [0]
instance : RegOps r77_0 6 [⟨.box 83 (.tmp 0), (some 2), none⟩] := ⟨0, opsC r77_0, by kernel_rfl, by kernel_rfl, by kernel_rfl⟩
noncomputable def r77_1 : Code := subC (bodyC Try.f77) [1]
instance : RegOps r77_1 6 [⟨.move (.tmp 1), (some 4), none⟩,
    ⟨.nilCheck (.tmp 4), (some 5), none⟩,
    ⟨.store 26 (.tmp 5) (.const (.slice none 0 0)), none, none⟩] := ⟨1, opsC r77_1, by kernel_rfl, by kernel_rfl, by kernel_rfl⟩
noncomputable def c77 : Code := (.seq r77_0 r77_1)
theorem en77 {args : List LV} {H : LH} {R : LOut → LH → Prop} (hn : args.length ≤ 6) (h : WP Try.prog ⟨77, 6, 0, [], none, none⟩ [.code c77] (argsK 0 args) H (Fin Try.prog R)) : CallP Try.prog 77 args H R :=
  CallP.enter (fn := Try.f77) (c := c77) (by kernel_rfl) (by kernel_rfl) (by kernel_rfl) hn h
instance : FnRes Try.prog 77 [] := ⟨Try.f77, by kernel_rfl, by kernel_rfl⟩
/-! (seepage/codec.clearing).draws -/
noncomputable def r78_0 : Code := subC (bodyC Try.f78) [0]
instance : RegOps r78_0 6 [⟨.box 83 (.tmp 0), (some 2), none⟩] := ⟨0, opsC r78_0, by kernel_rfl, by kernel_rfl, by kernel_rfl⟩
noncomputable def r78_1 : Code := subC (bodyC Try.f78) [1]
instance : RegOps r78_1 6 [⟨.move (.tmp 1), (some 4), none⟩,
    ⟨.nilCheck (.tmp 4), (some 5), none⟩,
    ⟨.store 25 (.tmp 5) (.const (.slice none 0 0)), none, none⟩] := ⟨1, opsC r78_1, by kernel_rfl, by kernel_rfl, by kernel_rfl⟩
noncomputable def c78 : Code := (.seq r78_0 r78_1)
theorem en78 {args : List LV} {H : LH} {R : LOut → LH → Prop} (hn : args.length ≤ 6) (h : WP Try.prog ⟨78, 6, 0, [], none, none⟩ [.code c78] (argsK 0 args) H (Fin Try.prog R)) : CallP Try.prog 78 args H R :=
  CallP.enter (fn := Try.f78) (c := c78) (by kernel_rfl) (by kernel_rfl) (by kernel_rfl) hn h
instance : FnRes Try.prog 78 [] := ⟨Try.f78, by kernel_rfl, by kernel_rfl⟩
/-! (seepage/codec.clearing).id -/
noncomputable def r79_0 : Code := subC (bodyC Try.f79) [0]
instance : RegOps r79_0 6 [⟨.box 83 (.tmp 0), (some 2), none⟩] := ⟨0, opsC r79_0, by kernel_rfl, by kernel_rfl, by kernel_rfl⟩
noncomputable def r79_1 : Code := subC (bodyC Try.f79) [1]
instance : RegOps r79_1 6 [⟨.move (.tmp 1), (some 4), none⟩,
    ⟨.nilCheck (.tmp 4), (some 5), none⟩,
    ⟨.store 24 (.tmp 5) (.const (.int .u64 0)), none, none⟩] := ⟨1, opsC r79_1, by kernel_rfl, by kernel_rfl, by kernel_rfl⟩
noncomputable def c79 : Code := (.seq r79_0 r79_1)
theorem en79 {args : List LV} {H : LH} {R : LOut → LH → Prop} (hn : args.length ≤ 6) (h : WP Try.prog ⟨79, 6, 0, [], none, none⟩ [.code c79] (argsK 0 args) H (Fin Try.prog R)) : CallP Try.prog 79 args H R :=
  CallP.enter (fn := Try.f79) (c := c79) (by kernel_rfl) (by kernel_rfl) (by kernel_rfl) hn h
instance : FnRes Try.prog 79 [] := ⟨Try.f79, by kernel_rfl, by kernel_rfl⟩
/-! (seepage/codec.clearing).num -/
noncomputable def r80_0 : Code := subC (bodyC Try.f80) [0]
instance : RegOps r80_0 6 [⟨.box 83 (.tmp 0), (some 2), none⟩] := ⟨0, opsC r80_0, by kernel_rfl, by kernel_rfl, by kernel_rfl⟩
noncomputable def r80_1 : Code := subC (bodyC Try.f80) [1]
instance : RegOps r80_1 6 [⟨.move (.tmp 1), (some 4), none⟩,
    ⟨.nilCheck (.tmp 4), (some 5), none⟩,
    ⟨.store 2 (.tmp 5) (.const (.int .i64 0)), none, none⟩] := ⟨1, opsC r80_1, by kernel_rfl, by kernel_rfl, by kernel_rfl⟩
noncomputable def c80 : Code := (.seq r80_0 r80_1)
theorem en80 {args : List LV} {H : LH} {R : LOut → LH → Prop} (hn : args.length ≤ 6) (h : WP Try.prog ⟨80, 6, 0, [], none, none⟩ [.code c80] (argsK 0 args) H (Fin Try.prog R)) : CallP Try.prog 80 args H R :=
  CallP.enter (fn := Try.f80) (c := c80) (by kernel_rfl) (by kernel_rfl) (by kernel_rfl) hn h
instance : FnRes Try.prog 80 [] := ⟨Try.f80, by kernel_rfl, by kernel_rfl⟩
/-! (*seepage/codec.reader).bounds -/
noncomputable def r81_0 : Code := subC (bodyC Try.f81) []
instance : RegOps r81_0 11 [⟨.move (.tmp 1), (some 4), none⟩,
    ⟨.move (.tmp 0), (some 5), none⟩,
    ⟨.call ⟨(.value (.func 86)), #[(.tmp 5), (.const (.int .i64 1024))], #[101, 3]⟩, (some 6), none⟩,
    ⟨.move (.tmp 0), (some 7), none⟩,
    ⟨.makeFunc (.func 84) #[(.tmp 7)] #[], (some 8), none⟩,
    ⟨.call ⟨(.value (.func 85)), #[(.tmp 6), (.tmp 8)], #[3, 93]⟩, (some 9), none⟩,
    ⟨.nilCheck (.tmp 4), (some 10), none⟩,
    ⟨.store 26 (.tmp 10) (.tmp 9), none, none⟩] := ⟨0, opsC r81_0, by kernel_rfl, by kernel_rfl, by kernel_rfl⟩
noncomputable def c81 : Code := r81_0
theorem en81 {args : List LV} {H : LH} {R : LOut → LH → Prop} (hn : args.length ≤ 11) (h : WP Try.prog ⟨81, 11, 0, [], none, none⟩ [.code c81] (argsK 0 args) H (Fin Try.prog R)) : CallP Try.prog 81 args H R :=
  CallP.enter (fn := Try.f81) (c := c81) (by kernel_rfl) (by kernel_rfl) (by kernel_rfl) hn h
instance : FnRes Try.prog 81 [] := ⟨Try.f81, by kernel_rfl, by kernel_rfl⟩
/-! (*seepage/codec.reader).draws -/
noncomputable def r82_0 : Code := subC (bodyC Try.f82) []
instance : RegOps r82_0 11 [⟨.move (.tmp 1), (some 4), none⟩,
    ⟨.move (.tmp 0), (some 5), none⟩,
    ⟨.call ⟨(.value (.func 86)), #[(.tmp 5), (.const (.int .i64 16384))], #[101, 3]⟩, (some 6), none⟩,
    ⟨.move (.tmp 0), (some 7), none⟩,
    ⟨.makeFunc (.func 83) #[(.tmp 7)] #[], (some 8), none⟩,
    ⟨.call ⟨(.value (.func 87)), #[(.tmp 6), (.tmp 8)], #[3, 91]⟩, (some 9), none⟩,
    ⟨.nilCheck (.tmp 4), (some 10), none⟩,
    ⟨.store 25 (.tmp 10) (.tmp 9), none, none⟩] := ⟨0, opsC r82_0, by kernel_rfl, by kernel_rfl, by kernel_rfl⟩
noncomputable def c82 : Code := r82_0
theorem en82 {args : List LV} {H : LH} {R : LOut → LH → Prop} (hn : args.length ≤ 11) (h : WP Try.prog ⟨82, 11, 0, [], none, none⟩ [.code c82] (argsK 0 args) H (Fin Try.prog R)) : CallP Try.prog 82 args H R :=
  CallP.enter (fn := Try.f82) (c := c82) (by kernel_rfl) (by kernel_rfl) (by kernel_rfl) hn h
instance : FnRes Try.prog 82 [] := ⟨Try.f82, by kernel_rfl, by kernel_rfl⟩
/-! (*seepage/codec.reader).id -/
noncomputable def r83_0 : Code := subC (bodyC Try.f83) []
instance : RegOps r83_0 8 [⟨.move (.tmp 1), (some 4), none⟩,
    ⟨.move (.tmp 0), (some 5), none⟩,
    ⟨.call ⟨(.value (.func 48)), #[(.tmp 5)], #[101]⟩, (some 6), none⟩,
    ⟨.nilCheck (.tmp 4), (some 7), none⟩,
    ⟨.store 24 (.tmp 7) (.tmp 6), none, none⟩] := ⟨0, opsC r83_0, by kernel_rfl, by kernel_rfl, by kernel_rfl⟩
noncomputable def c83 : Code := r83_0
theorem en83 {args : List LV} {H : LH} {R : LOut → LH → Prop} (hn : args.length ≤ 8) (h : WP Try.prog ⟨83, 8, 0, [], none, none⟩ [.code c83] (argsK 0 args) H (Fin Try.prog R)) : CallP Try.prog 83 args H R :=
  CallP.enter (fn := Try.f83) (c := c83) (by kernel_rfl) (by kernel_rfl) (by kernel_rfl) hn h
instance : FnRes Try.prog 83 [] := ⟨Try.f83, by kernel_rfl, by kernel_rfl⟩
/-! (*seepage/codec.reader).num -/
noncomputable def r84_0 : Code := subC (bodyC Try.f84) [0]
instance : RegOps r84_0 17 [⟨.move (.tmp 0), (some 5), none⟩,
    ⟨.call ⟨(.value (.func 48)), #[(.tmp 5)], #[101]⟩, (some 6), none⟩,
    ⟨.assign (.tmp 6), (some 4), none⟩] := ⟨0, opsC r84_0, by kernel_rfl, by kernel_rfl, by kernel_rfl⟩
noncomputable def r84_1 : Code := subC (bodyC Try.f84) [1]
instance : RegOps r84_1 17 [⟨.move (.tmp 1), (some 7), none⟩,
    ⟨.move (.tmp 4), (some 8), none⟩,
    ⟨.binOp .shr 24 (.tmp 8) (.const (.int .u64 1)) 78, (some 9), none⟩,
    ⟨.convert 24 2 (.tmp 9), (some 10), none⟩,
    ⟨.move (.tmp 4), (some 11), none⟩,
    ⟨.binOp .and 24 (.tmp 11) (.const (.int .u64 1)) 24, (some 12), none⟩,
    ⟨.convert 24 2 (.tmp 12), (some 13), none⟩,
    ⟨.unOp .neg 2 (.tmp 13), (some 14), none⟩,
    ⟨.binOp .xor 2 (.tmp 10) (.tmp 14) 2, (some 15), none⟩,
    ⟨.nilCheck (.tmp 7), (some 16), none⟩,
    ⟨.store 2 (.tmp 16) (.tmp 15), none, none⟩] := ⟨1, opsC r84_1, by kernel_rfl, by kernel_rfl, by kernel_rfl⟩
noncomputable def c84 : Code := (.seq r84_0 r84_1)
theorem en84 {args : List LV} {H : LH} {R : LOut → LH → Prop} (hn : args.length ≤ 17) (h : WP Try.prog ⟨84, 17, 0, [], none, none⟩ [.code c84] (argsK 0 args) H (Fin Try.prog R)) : CallP Try.prog 84 args H R :=
  CallP.enter (fn := Try.f84) (c := c84) (by kernel_rfl) (by kernel_rfl) (by kernel_rfl) hn h
instance : FnRes Try.prog 84 [] := ⟨Try.f84, by kernel_rfl, by kernel_rfl⟩
/-! seepage/codec.read[int64] -/
noncomputable def r85_0 : Code := subC (bodyC Try.f85) [0]
instance : RegOps r85_0 18 [⟨.assign (.const (.slice none 0 0)), (some 4), none⟩] := ⟨0, opsC r85_0, by kernel_rfl, by kernel_rfl, by kernel_rfl⟩
noncomputable def r85_1 : Code := subC (bodyC Try.f85) [1, 0]
instance : RegOps r85_1 18 [⟨.assign (.const (.slice none 0 0)), (some 5), none⟩] := ⟨1, opsC r85_1, by kernel_rfl, by kernel_rfl, by kernel_rfl⟩
noncomputable def r85_2 : Code := subC (bodyC Try.f85) [1, 1, 0, 0]
instance : RegOps r85_2 18 [⟨.move (.tmp 0), (some 7), none⟩,
    ⟨.move (.const (.int .i64 0)), (some 8), none⟩] := ⟨2, opsC r85_2, by kernel_rfl, by kernel_rfl, by kernel_rfl⟩
noncomputable def r85_3 : Code := subC (bodyC Try.f85) [1, 1, 0, 1, 0, 0, 0]
instance : RegOps r85_3 18 [⟨.binOp .lss 3 (.tmp 8) (.tmp 7) 3, (some 9), none⟩] := ⟨3, opsC r85_3, by kernel_rfl, by kernel_rfl, by kernel_rfl⟩
noncomputable def r85_4 : Code := subC (bodyC Try.f85) [1, 1, 0, 1, 0, 0, 1, 1, 0, 0, 0]
instance : RegOps r85_4 18 [⟨.alloc 2, (some 6), none⟩] := ⟨4, opsC r85_4, by kernel_rfl, by kernel_rfl, by kernel_rfl⟩
noncomputable def r85_5 : Code := subC (bodyC Try.f85) [1, 1, 0, 1, 0, 0, 1, 1, 0, 0, 1, 0]
instance : RegOps r85_5 18 [⟨.move (.tmp 1), (some 10), none⟩,
    ⟨.call ⟨(.value (.tmp 10)), #[(.tmp 6)], #[94]⟩, (some 11), none⟩] := ⟨5, opsC r85_5, by kernel_rfl, by kernel_rfl, by kernel_rfl⟩
noncomputable def r85_6 : Code := subC (bodyC Try.f85) [1, 1, 0, 1, 0, 0, 1, 1, 0, 0, 1, 1]
instance : RegOps r85_6 18 [⟨.move (.tmp 5), (some 12), none⟩,
    ⟨.load 2 (.tmp 6), (some 13), none⟩,
    ⟨.buildSlice 26 1 #[(0, (.tmp 13))], (some 14), none⟩,
    ⟨.call ⟨(.builtin .append), #[(.tmp 12), (.tmp 14)], #[26, 26]⟩, (some 15), none⟩,
    ⟨.assign (.tmp 15), (some 5), none⟩] := ⟨6, opsC r85_6, by kernel_rfl, by kernel_rfl, by kernel_rfl⟩
noncomputable def r85_7 : Code := subC (bodyC Try.f85) [1, 1, 0, 1, 0, 0, 1, 1, 1]
instance : RegOps r85_7 18 [⟨.binOp .add 3 (.tmp 8) (.const (.int .i64 1)) 3, (some 16), none⟩,
    ⟨.move (.tmp 16), (some 8), none⟩] := ⟨7, opsC r85_7, by kernel_rfl, by kernel_rfl, by kernel_rfl⟩
noncomputable def r85_8 : Code := subC (bodyC Try.f85) [1, 1, 1, 0]
instance : RegOps r85_8 18 [⟨.move (.tmp 5), (some 17), none⟩,
    ⟨.assign (.tmp 17), (some 4), none⟩] := ⟨8, opsC r85_8, by kernel_rfl, by kernel_rfl, by kernel_rfl⟩
noncomputable def c85 : Code := (.seq r85_0 (.seq r85_1 (.seq (.seq r85_2 (.block 0 (.loop (.seq r85_3 (.seq (.cond (.tmp 9) .skip (.exit 0)) (.seq (.block 1 (.seq r85_4 (.seq r85_5 r85_6))) r85_7)))))) (.seq r85_8 .ret))))
theorem en85 {args : List LV} {H : LH} {R : LOut → LH → Prop} (hn : args.length ≤ 18) (h : WP Try.prog ⟨85, 18, 0, [], none, none⟩ [.code c85] (argsK 0 args) H (Fin Try.prog R)) : CallP Try.prog 85 args H R :=
  CallP.enter (fn := Try.f85) (c := c85) (by kernel_rfl) (by kernel_rfl) (by kernel_rfl) hn h
instance : FnRes Try.prog 85 [.tmp 4] := ⟨Try.f85, by kernel_rfl, by kernel_rfl⟩
/-! (*seepage/codec.reader).count -/
noncomputable def r86_0 : Code := subC (bodyC Try.f86) [0]
instance : RegOps r86_0 26 [⟨.assign (.const (.int .i64 0)), (some 4), none⟩] := ⟨0, opsC r86_0, by kernel_rfl, by kernel_rfl, by kernel_rfl⟩
noncomputable def r86_1 : Code := subC (bodyC Try.f86) [1, 0]
instance : RegOps r86_1 26 [⟨.move (.tmp 0), (some 6), none⟩,
    ⟨.call ⟨(.value (.func 48)), #[(.tmp 6)], #[101]⟩, (some 7), none⟩,
    ⟨.assign (.tmp 7), (some 5), none⟩] := ⟨1, opsC r86_1, by kernel_rfl, by kernel_rfl, by kernel_rfl⟩
noncomputable def r86_2 : Code := subC (bodyC Try.f86) [1, 1, 0, 0]
instance : RegOps r86_2 26 [⟨.move (.tmp 5), (some 8), none⟩,
    ⟨.move (.tmp 1), (some 9), none⟩,
    ⟨.convert 3 24 (.tmp 9), (some 10), none⟩,
    ⟨.binOp .gtr 24 (.tmp 8) (.tmp 10) 24, (some 11), none⟩,
    ⟨.move (.tmp 11), (some 12), none⟩,
    ⟨.move (.tmp 5), (some 13), (some (12, false))⟩,
    ⟨.move (.tmp 0), (some 14), (some (12, false))⟩,
    ⟨.nilCheck (.tmp 14), (some 15), (some (12, false))⟩,
    ⟨.fieldAddr 102 (.tmp 15) 0, (some 16), (some (12, false))⟩,
    ⟨.load 22 (.tmp 16), (some 17), (some (12, false))⟩,
    ⟨.call ⟨(.builtin .len), #[(.tmp 17)], #[22]⟩, (some 18), (some (12, false))⟩,
    ⟨.convert 3 24 (.tmp 18), (some 19), (some (12, false))⟩,
    ⟨.binOp .gtr 24 (.tmp 13) (.tmp 19) 24, (some 20), (some (12, false))⟩,
    ⟨.pick (.tmp 12) (.const (.bool true)) (.tmp 20), (some 21), none⟩] := ⟨2, opsC r86_2, by kernel_rfl, by kernel_rfl, by kernel_rfl⟩
noncomputable def r86_3 : Code := subC (bodyC Try.f86) [1, 1, 0, 1, 0]
instance : RegOps r86_3 26 [⟨.build 99 #[], (some 22), none⟩,
    ⟨.makeInterface 99 (.tmp 22), (some 23), none⟩,
    ⟨.panic (.tmp 23), none, none⟩] := ⟨3, opsC r86_3, by kernel_rfl, by kernel_rfl, by kernel_rfl⟩
noncomputable def r86_4 : Code := subC (bodyC Try.f86) [1, 1, 1, 0]
instance : RegOps r86_4 26 [⟨.move (.tmp 5), (some 24), none⟩,
    ⟨.convert 24 3 (.tmp 24), (some 25), none⟩,
    ⟨.assign (.tmp 25), (some 4), none⟩] := ⟨4, opsC r86_4, by kernel_rfl, by kernel_rfl, by kernel_rfl⟩
noncomputable def c86 : Code := (.seq r86_0 (.seq r86_1 (.seq (.seq r86_2 (.cond (.tmp 21) r86_3 .skip)) (.seq r86_4 .ret))))
theorem en86 {args : List LV} {H : LH} {R : LOut → LH → Prop} (hn : args.length ≤ 26) (h : WP Try.prog ⟨86, 26, 0, [], none, none⟩ [.code c86] (argsK 0 args) H (Fin Try.prog R)) : CallP Try.prog 86 args H R :=
  CallP.enter (fn := Try.f86) (c := c86) (by kernel_rfl) (by kernel_rfl) (by kernel_rfl) hn h
instance : FnRes Try.prog 86 [.tmp 4] := ⟨Try.f86, by kernel_rfl, by kernel_rfl⟩
/-! seepage/codec.read[uint64] -/
noncomputable def r87_0 : Code := subC (bodyC Try.f87) [0]
instance : RegOps r87_0 18 [⟨.assign (.const (.slice none 0 0)), (some 4), none⟩] := ⟨0, opsC r87_0, by kernel_rfl, by kernel_rfl, by kernel_rfl⟩
noncomputable def r87_1 : Code := subC (bodyC Try.f87) [1, 0]
instance : RegOps r87_1 18 [⟨.assign (.const (.slice none 0 0)), (some 5), none⟩] := ⟨1, opsC r87_1, by kernel_rfl, by kernel_rfl, by kernel_rfl⟩
noncomputable def r87_2 : Code := subC (bodyC Try.f87) [1, 1, 0, 0]
instance : RegOps r87_2 18 [⟨.move (.tmp 0), (some 7), none⟩,
    ⟨.move (.const (.int .i64 0)), (some 8), none⟩] := ⟨2, opsC r87_2, by kernel_rfl, by kernel_rfl, by kernel_rfl⟩
noncomputable def r87_3 : Code := subC (bodyC Try.f87) [1, 1, 0, 1, 0, 0, 0]
instance : RegOps r87_3 18 [⟨.binOp .lss 3 (.tmp 8) (.tmp 7) 3, (some 9), none⟩] := ⟨3, opsC r87_3, by kernel_rfl, by kernel_rfl, by kernel_rfl⟩
noncomputable def r87_4 : Code := subC (bodyC Try.f87) [1, 1, 0, 1, 0, 0, 1, 1, 0, 0, 0]
instance : RegOps r87_4 18 [⟨.alloc 24, (some 6), none⟩] := ⟨4, opsC r87_4, by kernel_rfl, by kernel_rfl, by kernel_rfl⟩
noncomputable def r87_5 : Code := subC (bodyC Try.f87) [1, 1, 0, 1, 0, 0, 1, 1, 0, 0, 1, 0]
instance : RegOps r87_5 18 [⟨.move (.tmp 1), (some 10), none⟩,
    ⟨.call ⟨(.value (.tmp 10)), #[(.tmp 6)], #[90]⟩, (some 11), none⟩] := ⟨5, opsC r87_5, by kernel_rfl, by kernel_rfl, by kernel_rfl⟩
noncomputable def r87_6 : Code := subC (bodyC Try.f87) [1, 1, 0, 1, 0, 0, 1, 1, 0, 0, 1, 1]
instance : RegOps r87_6 18 [⟨.move (.tmp 5), (some 12), none⟩,
    ⟨.load 24 (.tmp 6), (some 13), none⟩,
    ⟨.buildSlice 25 1 #[(0, (.tmp 13))], (some 14), none⟩,
    ⟨.call ⟨(.builtin .append), #[(.tmp 12), (.tmp 14)], #[25, 25]⟩, (some 15), none⟩,
    ⟨.assign (.tmp 15), (some 5), none⟩] := ⟨6, opsC r87_6, by kernel_rfl, by kernel_rfl, by kernel_rfl⟩
noncomputable def r87_7 : Code := subC (bodyC Try.f87) [1, 1, 0, 1, 0, 0, 1, 1, 1]
instance : RegOps r87_7 18 [⟨.binOp .add 3 (.tmp 8) (.const (.int .i64 1)) 3, (some 16), none⟩,
    ⟨.move (.tmp 16), (some 8), none⟩] := ⟨7, opsC r87_7, by kernel_rfl, by kernel_rfl, by kernel_rfl⟩
noncomputable def r87_8 : Code := subC (bodyC Try.f87) [1, 1, 1, 0]
instance : RegOps r87_8 18 [⟨.move (.tmp 5), (some 17), none⟩,
    ⟨.assign (.tmp 17), (some 4), none⟩] := ⟨8, opsC r87_8, by kernel_rfl, by kernel_rfl, by kernel_rfl⟩
noncomputable def c87 : Code := (.seq r87_0 (.seq r87_1 (.seq (.seq r87_2 (.block 0 (.loop (.seq r87_3 (.seq (.cond (.tmp 9) .skip (.exit 0)) (.seq (.block 1 (.seq r87_4 (.seq r87_5 r87_6))) r87_7)))))) (.seq r87_8 .ret))))
theorem en87 {args : List LV} {H : LH} {R : LOut → LH → Prop} (hn : args.length ≤ 18) (h : WP Try.prog ⟨87, 18, 0, [], none, none⟩ [.code c87] (argsK 0 args) H (Fin Try.prog R)) : CallP Try.prog 87 args H R :=
  CallP.enter (fn := Try.f87) (c := c87) (by kernel_rfl) (by kernel_rfl) (by kernel_rfl) hn h
instance : FnRes Try.prog 87 [.tmp 4] := ⟨Try.f87, by kernel_rfl, by kernel_rfl⟩
end Go.Proofs.Ythakgknamfopcaa
